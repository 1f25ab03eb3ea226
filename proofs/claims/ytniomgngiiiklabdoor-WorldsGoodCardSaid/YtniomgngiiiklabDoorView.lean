/- A world's rows seen as locks and records, and what the operations do to them; no program in sight. -/
import Derived.Test.YtniomgngiiiklabDoorWorld
namespace Go.Proofs.YtniomgngiiiklabDoor
open Go.RowKit

/-- The row of a key; the empty one, if there is none. -/
def rv (l : List MRow) (k : ByteArray) : MRow := (rowAt l k).getD (emptyRow k)
def Lk (l : List MRow) (k : ByteArray) (s : Int) (p v : ByteArray) : Prop := s ≠ 0 ∧ (rv l k).ls = s ∧ (rv l k).lp = p ∧ (rv l k).value = v
def Rc (l : List MRow) (k : ByteArray) (s c : Int) (v : ByteArray) : Prop := (⟨s, c, v⟩ : MRec) ∈ (rv l k).recs

theorem rv_key {l : List MRow} {k : ByteArray} : (rv l k).key = k := by
  unfold rv
  cases h : rowAt l k with
  | none => rfl
  | some r => exact (rowAt_mem h).2
theorem rv_putRow {l : List MRow} {r : MRow} (hs : l.Pairwise fun a b => ltK a.key b.key = true) (k : ByteArray) : rv (putRow l r) k = if r.key = k then r else rv l k := by
  unfold rv
  rw [rowAt_putRow k hs]
  by_cases h : r.key = k
  · rw [if_pos h, if_pos h]; rfl
  · rw [if_neg h, if_neg h]
/-- What holds of a valid row but for its key. -/
structure BodyGood (clock : Int) (r : MRow) : Prop where
  recs : RecsGood r.recs
  free : r.ls = 0 → r.value = ⟨#[]⟩
  lock : r.ls ≠ 0 → 1 ≤ r.ls ∧ r.ls ≤ 1099511627776 ∧ ∀ x ∈ r.recs, x.start ≠ r.ls ∧ x.commit ≤ r.ls
  in_ : RowIn clock r
theorem rv_good {clock : Int} {l : List MRow} (hc : 0 ≤ clock) (h : RowsVal clock l) (k : ByteArray) : BodyGood clock (rv l k) := by
  unfold rv
  cases hr : rowAt l k with
  | none => exact ⟨⟨fun x hx => (by cases hx), List.Pairwise.nil⟩, fun _ => rfl, fun h0 => absurd rfl h0, emptyRow_in hc⟩
  | some r =>
    obtain ⟨hm, _⟩ := rowAt_mem hr
    obtain ⟨hg, hi⟩ := h.each r hm
    exact ⟨hg.recs, fun h0 => (hg.free h0).2, fun h0 => ⟨(hg.lock h0).1, (hg.lock h0).2.1, (hg.lock h0).2.2.2.1⟩, hi⟩

section
variable {clock : Int} {l : List MRow} {k p v p' v' : ByteArray} {s s' c c' : Int}
theorem lk_uniq (h1 : Lk l k s p v) (h2 : Lk l k s' p' v') : s = s' ∧ p = p' ∧ v = v' := by
  obtain ⟨_, a, b, d⟩ := h1
  obtain ⟨_, a', b', d'⟩ := h2
  exact ⟨a.symm.trans a', b.symm.trans b', d.symm.trans d'⟩
theorem rc_uniq (hc : 0 ≤ clock) (h : RowsVal clock l) (h1 : Rc l k s c v) (h2 : Rc l k s c' v') : c = c' ∧ v = v' := by
  have hg := rv_good hc h k
  have e1 := recFind_of_mem hg.recs.pair h1
  have e2 := recFind_of_mem hg.recs.pair h2
  dsimp only at e1 e2
  rw [e1] at e2
  injection e2 with e2
  injection e2 with _ e3 e4
  exact ⟨e3, e4⟩
theorem lk_rc (hc : 0 ≤ clock) (h : RowsVal clock l) (h1 : Lk l k s p v) (h2 : Rc l k s c v') : False := by
  have hg := rv_good hc h k
  obtain ⟨h0, a, _, _⟩ := h1
  exact ((hg.lock (by rw [a]; exact h0)).2.2 _ h2).1 a.symm
theorem lk_bound (hc : 0 ≤ clock) (h : RowsVal clock l) (h1 : Lk l k s p v) : 1 ≤ s ∧ s ≤ clock ∧ s ≤ 1099511627776 := by
  have hg := rv_good hc h k
  obtain ⟨h0, a, _, _⟩ := h1
  have := hg.lock (by rw [a]; exact h0)
  have := hg.in_.1
  rw [a] at *
  omega
theorem rc_bound (hc : 0 ≤ clock) (h : RowsVal clock l) (h1 : Rc l k s c v) : (1 ≤ s ∧ s ≤ clock ∧ c ≤ clock) ∧ (c = 0 → v = ⟨#[]⟩) ∧ (c ≠ 0 → s < c ∧ c ≤ 1099511627776) := by
  have hg := rv_good hc h k
  have h2 := hg.recs.each _ h1
  have h3 := hg.in_.2 _ h1
  exact ⟨⟨h2.1, h3⟩, h2.2.2.2⟩
theorem rc_sep (hc : 0 ≤ clock) (h : RowsVal clock l) (h1 : Rc l k s c v) (h2 : Rc l k s' c' v') (h0 : c' ≠ 0) (hlt : s < s') : c ≤ s' := by
  have hg := rv_good hc h k
  obtain ⟨i, hi, e1⟩ := List.mem_iff_getElem.1 h1
  obtain ⟨j, hj, e2⟩ := List.mem_iff_getElem.1 h2
  rcases Nat.lt_trichotomy i j with hlt' | rfl | hlt'
  · have := List.pairwise_iff_getElem.1 hg.recs.pair i j hi hj hlt'
    rw [e1, e2] at this
    exact this.2 h0
  · rw [e1] at e2; injection e2 with e2; omega
  · have := List.pairwise_iff_getElem.1 hg.recs.pair j i hj hi hlt'
    rw [e1, e2] at this
    have := this.1
    dsimp only at this; omega
theorem lk_rc_sep (hc : 0 ≤ clock) (h : RowsVal clock l) (h1 : Lk l k s p v) (h2 : Rc l k s' c' v') : c' ≤ s := by
  have hg := rv_good hc h k
  obtain ⟨h0, a, _, _⟩ := h1
  have := ((hg.lock (by rw [a]; exact h0)).2.2 _ h2).2
  dsimp only at this; omega
end

/-! ### what an operation at a row does -/
theorem atRow_hit {l : List MRow} {k : ByteArray} {f : MRow → MRow} {e : MRow → Int} (h : (atRow l k f e).2 = 0) : e (rv l k) = 0 ∧ (atRow l k f e).1 = putRow l (f (rv l k)) := by
  unfold atRow rv at *
  cases hr : rowAt l k with
  | some r =>
    rw [hr] at h
    dsimp only at h ⊢
    by_cases h0 : e r = 0
    · simp only [h0, if_true, Option.getD_some]; exact ⟨trivial, trivial⟩
    · rw [if_neg h0] at h; exact absurd h h0
  | none =>
    rw [hr] at h
    dsimp only at h ⊢
    by_cases h4 : l.length = 40
    · rw [if_pos h4] at h; simp at h
    · rw [if_neg h4] at h ⊢
      by_cases h0 : e (emptyRow k) = 0
      · simp only [h0, if_true, Option.getD_none]; exact ⟨trivial, trivial⟩
      · rw [if_neg h0] at h; exact absurd h h0
theorem atRow_miss {l : List MRow} {k : ByteArray} {f : MRow → MRow} {e : MRow → Int} (h : (atRow l k f e).2 ≠ 0) : (atRow l k f e).1 = l := by
  unfold atRow at *
  cases hr : rowAt l k with
  | some r =>
    rw [hr] at h
    dsimp only at h ⊢
    by_cases h0 : e r = 0
    · rw [if_pos h0] at h; exact absurd rfl h
    · rw [if_neg h0]
  | none =>
    rw [hr] at h
    dsimp only at h ⊢
    by_cases h4 : l.length = 40
    · rw [if_pos h4]
    · rw [if_neg h4] at h ⊢
      by_cases h0 : e (emptyRow k) = 0
      · rw [if_pos h0] at h; exact absurd rfl h
      · rw [if_neg h0]
/-- At a row that is there only its own code counts. -/
theorem atRow_there {l : List MRow} {k : ByteArray} {f : MRow → MRow} {e : MRow → Int} {r : MRow} (hr : rowAt l k = some r) (h : e r = 0) : (atRow l k f e).2 = 0 := by
  unfold atRow
  rw [hr]
  dsimp only
  rw [if_pos h]

section
variable {clock : Int} {l : List MRow} {k p v : ByteArray} {st cm : Int}

theorem lock_step (hc : 0 ≤ clock) (h : RowsVal clock l) (h0 : (atRow l k (fun r => lockRow r st p v) (fun r => lockCode r st p v)).2 = 0) :
    (∀ s' p' v', ¬ Lk l k s' p' v') ∧ (∀ c v', ¬ Rc l k st c v') ∧ (∀ s c v', Rc l k s c v' → c ≤ st) ∧
    (∀ k' s' p' v', Lk (atRow l k (fun r => lockRow r st p v) (fun r => lockCode r st p v)).1 k' s' p' v' ↔ (k' = k ∧ s' = st ∧ p' = p ∧ v' = v) ∨ Lk l k' s' p' v') ∧
    (∀ k' s' c v', Rc (atRow l k (fun r => lockRow r st p v) (fun r => lockCode r st p v)).1 k' s' c v' ↔ Rc l k' s' c v') := by
  obtain ⟨he, hl⟩ := atRow_hit h0
  obtain ⟨hr, ht, hp, hv, hcm, hls, hn, hf⟩ := lockCode_ok he
  have hb := timeB_bounds ht
  have hg := rv_good hc h k
  have e2 := (lockRow_good he).2
  have ekey : (lockRow (rv l k) st p v).key = k := by rw [e2]; exact rv_key
  have erv : ∀ k', rv (putRow l (lockRow (rv l k) st p v)) k' = if k = k' then lockRow (rv l k) st p v else rv l k' := fun k' => by rw [rv_putRow h.sorted, ekey]
  rw [hl]
  refine ⟨?_, ?_, ?_, ?_, ?_⟩
  · rintro s' p' v' ⟨h1, h2, _, _⟩; exact h1 (h2.symm.trans hls)
  · intro c v' hrc; exact recFind_none hf _ hrc rfl
  · intro s c v' hrc; exact hcm _ hrc
  · intro k' s' p' v'
    unfold Lk
    rw [erv]
    by_cases hk : k = k'
    · subst hk
      rw [if_pos rfl, e2]
      dsimp only
      constructor
      · rintro ⟨_, a, b, c⟩; exact .inl ⟨rfl, a.symm, b.symm, c.symm⟩
      · rintro (⟨_, rfl, rfl, rfl⟩ | ⟨h1, h2, _, _⟩)
        · exact ⟨by omega, rfl, rfl, rfl⟩
        · exact absurd (h2.symm.trans hls) h1
    · rw [if_neg hk]
      constructor
      · exact .inr
      · rintro (⟨h1, _⟩ | h1)
        · exact absurd h1.symm hk
        · exact h1
  · intro k' s' c v'
    unfold Rc
    rw [erv]
    by_cases hk : k = k'
    · subst hk; rw [if_pos rfl, e2]
    · rw [if_neg hk]

theorem with_view {x : MRec} (h : RowsVal clock l) (k' : ByteArray) :
    (∀ s' p' v', (rv l k).ls = 0 ∨ x.start ≠ 0 → (Lk (putRow l (withF (rv l k) x)) k' s' p' v' ↔ Lk l k' s' p' v' ∧ ¬ (k' = k ∧ s' = x.start))) ∧
    (∀ s' c v', Rc (putRow l (withF (rv l k) x)) k' s' c v' ↔ Rc l k' s' c v' ∨ (k' = k ∧ s' = x.start ∧ c = x.commit ∧ v' = x.value)) := by
  have ekey : (withF (rv l k) x).key = k := (withF_key _ _).trans rv_key
  have erv : rv (putRow l (withF (rv l k) x)) k' = if k = k' then withF (rv l k) x else rv l k' := by rw [rv_putRow h.sorted, ekey]
  refine ⟨fun s' p' v' hx => ?_, fun s' c v' => ?_⟩
  · unfold Lk
    rw [erv]
    by_cases hk : k = k'
    · subst hk
      rw [if_pos rfl]
      unfold withF
      by_cases hs : (rv l k).ls = x.start
      · rw [if_pos hs]
        dsimp only
        constructor
        · rintro ⟨a, b, _, _⟩; exact absurd b.symm a
        · rintro ⟨⟨a, b, _, _⟩, d⟩; exact absurd ⟨rfl, b.symm.trans hs⟩ d
      · rw [if_neg hs]
        dsimp only
        constructor
        · rintro ⟨a, b, c, d⟩; exact ⟨⟨a, b, c, d⟩, fun e => hs (b.trans e.2)⟩
        · exact fun e => e.1
    · rw [if_neg hk]
      constructor
      · exact fun e => ⟨e, fun e' => hk e'.1.symm⟩
      · exact fun e => e.1
  · unfold Rc
    rw [erv]
    by_cases hk : k = k'
    · subst hk
      rw [if_pos rfl, withF_recs, mem_insRecs]
      constructor
      · rintro (e | e)
        · subst e; exact .inr ⟨rfl, rfl, rfl, rfl⟩
        · exact .inl e
      · rintro (e | ⟨_, rfl, rfl, rfl⟩)
        · exact .inr e
        · exact .inl rfl
    · rw [if_neg hk]
      constructor
      · exact .inl
      · rintro (e | e)
        · exact e
        · exact absurd e.1.symm hk

theorem undo_step (hc : 0 ≤ clock) (h : RowsVal clock l) (h0 : (undoAt l k st).2 = 0) :
    (∀ c v', Rc l k st c v' → c = 0) ∧
    (∀ k' s' p' v', Lk (undoAt l k st).1 k' s' p' v' ↔ Lk l k' s' p' v' ∧ ¬ (k' = k ∧ s' = st)) ∧
    (∀ k' s' c v', Rc (undoAt l k st).1 k' s' c v' ↔ Rc l k' s' c v' ∨ (k' = k ∧ s' = st ∧ c = 0 ∧ v' = ⟨#[]⟩)) := by
  unfold undoAt at h0 ⊢
  obtain ⟨he, hl⟩ := atRow_hit h0
  obtain ⟨hr, ht, hcs⟩ := undoCode_ok he
  have hb := timeB_bounds ht
  rw [hl]
  rcases hcs with ⟨h3, e⟩ | ⟨e, hf, _⟩
  · rw [e]
    obtain ⟨hls, x, hx, hx0⟩ := status_three h3
    obtain ⟨hxm, hxs⟩ := recFind_mem hx
    have hxe : x = ⟨st, 0, ⟨#[]⟩⟩ := by
      have := ((rv_good hc h k).recs.each x hxm).2.2.2.1 hx0
      obtain ⟨a, b, c⟩ := x
      dsimp only at *
      subst hxs hx0 this; rfl
    have hrc : Rc l k st 0 ⟨#[]⟩ := by rw [hxe] at hxm; exact hxm
    have erv : ∀ k', rv (putRow l (rv l k)) k' = rv l k' := fun k' => by
      rw [rv_putRow h.sorted, rv_key]
      by_cases hk : k = k'
      · subst hk; rw [if_pos rfl]
      · rw [if_neg hk]
    refine ⟨fun c v' hc' => (rc_uniq hc h hc' hrc).1, fun k' s' p' v' => ?_, fun k' s' c v' => ?_⟩
    · unfold Lk
      rw [erv]
      constructor
      · intro e'
        refine ⟨e', ?_⟩
        rintro ⟨rfl, rfl⟩
        exact hls e'.2.1
      · exact fun e => e.1
    · unfold Rc
      rw [erv]
      constructor
      · exact .inl
      · rintro (e | ⟨rfl, rfl, rfl, rfl⟩)
        · exact e
        · exact hrc
  · rw [e]
    refine ⟨fun c v' hc' => absurd rfl (recFind_none hf _ hc'), fun k' s' p' v' => (with_view h k').1 s' p' v' (.inr (by show st ≠ 0; omega)), fun k' s' c v' => (with_view h k').2 s' c v'⟩
theorem commit_step (h : RowsVal clock l) (h0 : (atRow l k (fun r => commitRow r st cm) (fun r => commitCode r st cm)).2 = 0) :
    st < cm ∧ ∃ p v, Lk l k st p v ∧
    (∀ k' s' p' v', Lk (atRow l k (fun r => commitRow r st cm) (fun r => commitCode r st cm)).1 k' s' p' v' ↔ Lk l k' s' p' v' ∧ ¬ (k' = k ∧ s' = st)) ∧
    (∀ k' s' c v', Rc (atRow l k (fun r => commitRow r st cm) (fun r => commitCode r st cm)).1 k' s' c v' ↔ Rc l k' s' c v' ∨ (k' = k ∧ s' = st ∧ c = cm ∧ v' = v)) := by
  obtain ⟨he, hl⟩ := atRow_hit h0
  obtain ⟨hr, ht, h1, h2, hls⟩ := commitCode_ok he
  have hb := timeB_bounds ht
  rw [hl, (commitRow_good he).2]
  exact ⟨h1, (rv l k).lp, (rv l k).value, ⟨by omega, hls, rfl, rfl⟩, fun k' s' p' v' => (with_view h k').1 s' p' v' (.inr (by show st ≠ 0; omega)), fun k' s' c v' => (with_view h k').2 s' c v'⟩

/-! ### when they succeed -/
theorem rowAt_of_lk {s : Int} (h : Lk l k s p v) : rowAt l k = some (rv l k) := by
  unfold rv
  cases hr : rowAt l k with
  | some r => rfl
  | none =>
    obtain ⟨h0, h1, _⟩ := h
    unfold rv at h1
    rw [hr] at h1
    exact absurd h1.symm h0
theorem rowAt_of_rc {s c : Int} (h : Rc l k s c v) : rowAt l k = some (rv l k) := by
  unfold rv
  cases hr : rowAt l k with
  | some r => rfl
  | none =>
    unfold Rc rv at h
    rw [hr] at h
    cases h
theorem rv_rowB (h : RowsVal clock l) (hr : rowAt l k = some (rv l k)) : rowB (rv l k) = true := rowB_iff.2 (h.each _ (rowAt_mem hr).1).1
theorem timeB_of {s : Int} (h1 : 1 ≤ s) (h2 : s ≤ 1099511627776) : timeB s = true := by simp [timeB, inB, h1, h2]
theorem undo_lk (hc : 0 ≤ clock) (h : RowsVal clock l) (h1 : Lk l k st p v) : (undoAt l k st).2 = 0 := by
  have hr := rowAt_of_lk h1
  obtain ⟨a, b, d⟩ := lk_bound hc h h1
  refine atRow_there hr ?_
  unfold undoCode
  rw [statusF_of (rv_rowB h hr) (timeB_of a d), if_pos h1.2.1]
  simp
theorem undo_rc (hc : 0 ≤ clock) (h : RowsVal clock l) (h1 : Rc l k st 0 v) (hm : st ≤ 1099511627776) : (undoAt l k st).2 = 0 := by
  have hr := rowAt_of_rc h1
  have hb := rc_bound hc h h1
  have hg := rv_good hc h k
  have hls : ¬ (rv l k).ls = st := fun e => ((hg.lock (by omega)).2.2 _ h1).1 e.symm
  refine atRow_there hr ?_
  unfold undoCode
  rw [statusF_of (rv_rowB h hr) (timeB_of hb.1.1 hm), if_neg hls, show recFind (rv l k).recs st = some ⟨st, 0, v⟩ from recFind_of_mem hg.recs.pair h1]
  simp
theorem commit_lk (hc : 0 ≤ clock) (h : RowsVal clock l) (h1 : Lk l k st p v) (h2 : st < cm) (h3 : cm ≤ 1099511627776) : (atRow l k (fun r => commitRow r st cm) (fun r => commitCode r st cm)).2 = 0 := by
  have hr := rowAt_of_lk h1
  obtain ⟨a, b, d⟩ := lk_bound hc h h1
  exact atRow_there hr (commitCode_mk (rv_rowB h hr) (timeB_of a d) h2 h3 h1.2.1)
theorem statusAt_rv (h : RowsVal clock l) (hs : timeB st = true) : (statusAt l k st).1 = (if (rv l k).ls = st then 1 else match recFind (rv l k).recs st with | none => 0 | some x => if x.commit = 0 then 3 else 2) ∧
    (statusAt l k st).2 = (if (rv l k).ls = st then 0 else match recFind (rv l k).recs st with | none => 0 | some x => if x.commit = 0 then 0 else x.commit) := by
  have hb := timeB_bounds hs
  unfold statusAt
  cases hr : rowAt l k with
  | none =>
    have e : rv l k = emptyRow k := by unfold rv; rw [hr]; rfl
    have hne : ¬ (emptyRow k).ls = st := by show ¬ (0 : Int) = st; omega
    rw [e, if_neg hne, if_neg hne]
    exact ⟨rfl, rfl⟩
  | some r =>
    have e : rv l k = r := by unfold rv; rw [hr]; rfl
    dsimp only
    rw [e, statusF_of (rowB_iff.2 (h.each r (rowAt_mem hr).1).1) hs]
    by_cases hls : r.ls = st
    · simp [hls]
    · simp only [if_neg hls]
      cases recFind r.recs st with
      | none => exact ⟨rfl, rfl⟩
      | some x => by_cases h0 : x.commit = 0 <;> simp [h0]
theorem statusAt_one (h : RowsVal clock l) (hs : timeB st = true) : (statusAt l k st).1 = 1 ↔ ∃ p v, Lk l k st p v := by
  have hb := timeB_bounds hs
  rw [(statusAt_rv h hs).1]
  constructor
  · intro e
    by_cases hls : (rv l k).ls = st
    · exact ⟨_, _, by omega, hls, rfl, rfl⟩
    · rw [if_neg hls] at e
      cases hf : recFind (rv l k).recs st with
      | none => rw [hf] at e; simp at e
      | some x => rw [hf] at e; by_cases h0 : x.commit = 0 <;> simp [h0] at e
  · rintro ⟨p, v, _, e, _⟩
    rw [if_pos e]
theorem statusAt_two (h : RowsVal clock l) (hs : timeB st = true) (h2 : (statusAt l k st).1 = 2) : (statusAt l k st).2 ≠ 0 ∧ ∃ v, Rc l k st (statusAt l k st).2 v := by
  rw [(statusAt_rv h hs).1] at h2
  rw [(statusAt_rv h hs).2]
  by_cases hls : (rv l k).ls = st
  · rw [if_pos hls] at h2; simp at h2
  · rw [if_neg hls] at h2 ⊢
    cases hf : recFind (rv l k).recs st with
    | none => rw [hf] at h2; simp at h2
    | some x =>
      rw [hf] at h2
      dsimp only at h2 ⊢
      by_cases h0 : x.commit = 0
      · simp [h0] at h2
      · rw [if_neg h0]
        obtain ⟨hx, he⟩ := recFind_mem hf
        refine ⟨h0, x.value, ?_⟩
        show (⟨st, x.commit, x.value⟩ : MRec) ∈ _
        rw [← he]; exact hx
theorem statusAt_not_two (hc : 0 ≤ clock) (h : RowsVal clock l) (hs : timeB st = true) (h2 : (statusAt l k st).1 ≠ 2) {c : Int} (hr : Rc l k st c v) : c = 0 := by
  have hg := rv_good hc h k
  have hls : ¬ (rv l k).ls = st := fun e => by
    have hb := timeB_bounds hs
    exact ((hg.lock (by omega)).2.2 _ hr).1 e.symm
  rw [(statusAt_rv h hs).1, if_neg hls, show recFind (rv l k).recs st = some ⟨st, c, v⟩ from recFind_of_mem hg.recs.pair hr] at h2
  dsimp only at h2
  by_cases h0 : c = 0
  · exact h0
  · rw [if_neg h0] at h2; exact absurd rfl h2
end
end Go.Proofs.YtniomgngiiiklabDoor

/- The protocol's invariant: what the locks and records of a transaction have to do with each other, with its client, and with what was committed; no program in sight. -/
namespace Go.Proofs.YtniomgngiiiklabDoor
open Go.RowKit

structure Deal where
  start : Int
  commit : Int
  writes : List MWrite

def NoneOf (l : List MRow) (s : Int) : Prop := (∀ k p v, ¬ Lk l k s p v) ∧ ∀ k c v, ¬ Rc l k s c v

/-- What a client that is not idle can lean on. -/
structure CInv (l : List MRow) (P : Int → ByteArray) (x : MClient) : Prop where
  none : x.phase = 1 ∨ (x.phase = 2 ∧ x.at_ = 0) → NoneOf l x.start
  mild : x.phase = 2 ∨ x.phase = 3 → ∀ k c v, Rc l k x.start c v → c = 0
  held : ∀ (j : Nat) y, x.writes[j]? = some y → x.phase = 3 ∨ (x.phase = 2 ∧ j < x.at_) → Lk l y.key x.start (P x.start) y.value ∨ ∃ v, Rc l y.key x.start 0 v
  prim : x.phase = 3 ∨ x.phase = 4 ∨ (x.phase = 2 ∧ 0 < x.at_) → P x.start = (writeNo x 0).key
  done : x.phase = 4 → ∃ v, Rc l (P x.start) x.start x.commit v
  own : ∀ k p v, Lk l k x.start p v → (⟨k, v⟩ : MWrite) ∈ x.writes

structure Inv (l : List MRow) (P : Int → ByteArray) (D : List Deal) : Prop where
  lock : ∀ k s p v, Lk l k s p v → p = P s ∧ ((∃ p' v', Lk l (P s) s p' v') ∨ ∃ c v', Rc l (P s) s c v')
  recs : ∀ k s c v, Rc l k s c v → ∃ v', Rc l (P s) s c v'
  deal : ∀ d ∈ D, d.commit ≠ 0 ∧ (∃ v, Rc l (P d.start) d.start d.commit v) ∧ (∀ y ∈ d.writes, (∃ p, Lk l y.key d.start p y.value) ∨ Rc l y.key d.start d.commit y.value) ∧ (∀ k p v, Lk l k d.start p v → (⟨k, v⟩ : MWrite) ∈ d.writes)
  told : ∀ k s c v, Rc l k s c v → c ≠ 0 → ∃ d ∈ D, d.start = s ∧ d.commit = c ∧ (⟨k, v⟩ : MWrite) ∈ d.writes
  apart : D.Pairwise fun a b => a.start ≠ b.start

section
variable {clock : Int} {l l' : List MRow} {P : Int → ByteArray} {D : List Deal} {k : ByteArray} {s cm : Int} {x : MClient}

/-- Another transaction's client does not see it. -/
theorem CInv.far (h : CInv l P x) (hl : ∀ k p v, Lk l' k x.start p v ↔ Lk l k x.start p v) (hr : ∀ k c v, Rc l' k x.start c v ↔ Rc l k x.start c v) : CInv l' P x := by
  refine ⟨fun hp => ⟨fun k p v => ?_, fun k c v => ?_⟩, fun hp k c v => ?_, fun j y hj hp => ?_, h.prim, fun hp => ?_, fun k p v => ?_⟩
  · rw [hl]; exact (h.none hp).1 k p v
  · rw [hr]; exact (h.none hp).2 k c v
  · rw [hr]; exact h.mild hp k c v
  · rw [hl]
    rcases h.held j y hj hp with h1 | ⟨v, h1⟩
    · exact .inl h1
    · exact .inr ⟨v, (hr _ _ _).2 h1⟩
  · obtain ⟨v, h1⟩ := h.done hp
    exact ⟨v, (hr _ _ _).2 h1⟩
  · rw [hl]; exact h.own k p v

/-! ### undoing -/
theorem inv_undo (hc : 0 ≤ clock) (hv : RowsVal clock l) (h : Inv l P D) (h0 : (undoAt l k s).2 = 0) (u1 : ∀ k' c v, Rc l k' s c v → c = 0) (u2 : k = P s ∨ ∃ v, Rc l (P s) s 0 v) : Inv (undoAt l k s).1 P D := by
  obtain ⟨_, hl, hr⟩ := undo_step hc hv h0
  refine ⟨fun k' s' p v h1 => ?_, fun k' s' c v h1 => ?_, fun d hd => ?_, fun k' s' c v h1 hne => ?_, h.apart⟩
  · obtain ⟨h1, h2⟩ := (hl _ _ _ _).1 h1
    obtain ⟨e, h3⟩ := h.lock _ _ _ _ h1
    refine ⟨e, ?_⟩
    by_cases hk : P s' = k ∧ s' = s
    · exact .inr ⟨0, ⟨#[]⟩, (hr _ _ _ _).2 (.inr ⟨hk.1, hk.2, rfl, rfl⟩)⟩
    · rcases h3 with ⟨p', v', h3⟩ | ⟨c, v', h3⟩
      · exact .inl ⟨p', v', (hl _ _ _ _).2 ⟨h3, hk⟩⟩
      · exact .inr ⟨c, v', (hr _ _ _ _).2 (.inl h3)⟩
  · rcases (hr _ _ _ _).1 h1 with h1 | ⟨rfl, rfl, rfl, rfl⟩
    · obtain ⟨v', h2⟩ := h.recs _ _ _ _ h1
      exact ⟨v', (hr _ _ _ _).2 (.inl h2)⟩
    · rcases u2 with e | ⟨v', h2⟩
      · exact ⟨⟨#[]⟩, (hr _ _ _ _).2 (.inr ⟨e.symm, rfl, rfl, rfl⟩)⟩
      · exact ⟨v', (hr _ _ _ _).2 (.inl h2)⟩
  · obtain ⟨a, ⟨v, b⟩, c, e⟩ := h.deal d hd
    have hne : d.start ≠ s := by
      intro he
      rw [he] at b
      exact a (u1 _ _ _ b)
    refine ⟨a, ⟨v, (hr _ _ _ _).2 (.inl b)⟩, fun y hy => ?_, fun k' p v h1 => e k' p v ((hl _ _ _ _).1 h1).1⟩
    rcases c y hy with ⟨p, h1⟩ | h1
    · exact .inl ⟨p, (hl _ _ _ _).2 ⟨h1, fun h2 => hne h2.2⟩⟩
    · exact .inr ((hr _ _ _ _).2 (.inl h1))
  · rcases (hr _ _ _ _).1 h1 with h1 | ⟨_, _, h2, _⟩
    · exact h.told _ _ _ _ h1 hne
    · exact absurd h2 hne

theorem cinv_undo (hc : 0 ≤ clock) (hv : RowsVal clock l) (hx : CInv l P x) (h0 : (undoAt l k s).2 = 0) (hcm : x.phase = 4 → x.commit ≠ 0)
    (u0 : (∃ k' p v, Lk l k' s p v) ∨ ∃ k' c v, Rc l k' s c v) (u1 : ∀ k' c v, Rc l k' s c v → c = 0) : CInv (undoAt l k s).1 P x := by
  obtain ⟨_, hl, hr⟩ := undo_step hc hv h0
  by_cases hs : x.start = s
  · have hno : ¬ (x.phase = 1 ∨ (x.phase = 2 ∧ x.at_ = 0)) := fun hp => by
      have hn := hx.none hp
      rw [hs] at hn
      rcases u0 with ⟨k', p, v, h⟩ | ⟨k', c, v, h⟩
      · exact hn.1 _ _ _ h
      · exact hn.2 _ _ _ h
    refine ⟨fun hp => absurd hp hno, fun hp k' c v h1 => ?_, fun j y hj hp => ?_, hx.prim, fun hp => ?_, fun k' p v h1 => hx.own k' p v ((hl _ _ _ _).1 h1).1⟩
    · rcases (hr _ _ _ _).1 h1 with h1 | ⟨_, _, h2, _⟩
      · exact hx.mild hp _ _ _ h1
      · exact h2
    · rcases hx.held j y hj hp with h1 | ⟨v, h1⟩
      · by_cases hk : y.key = k
        · exact .inr ⟨⟨#[]⟩, (hr _ _ _ _).2 (.inr ⟨hk, hs, rfl, rfl⟩)⟩
        · exact .inl ((hl _ _ _ _).2 ⟨h1, fun e => hk e.1⟩)
      · exact .inr ⟨v, (hr _ _ _ _).2 (.inl h1)⟩
    · obtain ⟨v, h1⟩ := hx.done hp
      rw [hs] at h1
      exact absurd (u1 _ _ _ h1) (hcm hp)
  · refine hx.far (fun k' p v => ?_) (fun k' c v => ?_)
    · rw [hl]
      exact ⟨fun e => e.1, fun e => ⟨e, fun e' => hs e'.2⟩⟩
    · rw [hr]
      exact ⟨fun e => e.elim id fun e' => absurd e'.2.1 hs, .inl⟩

/-! ### committing where the primary says so -/
theorem inv_commit (hc : 0 ≤ clock) (hv : RowsVal clock l) (h : Inv l P D) (h0 : (atRow l k (fun r => commitRow r s cm) (fun r => commitCode r s cm)).2 = 0) (hp : ∃ v, Rc l (P s) s cm v) :
    Inv (atRow l k (fun r => commitRow r s cm) (fun r => commitCode r s cm)).1 P D := by
  obtain ⟨hlt, p0, v0, hk0, hl, hr⟩ := commit_step hv h0
  have hb := lk_bound hc hv hk0
  refine ⟨fun k' s' p v h1 => ?_, fun k' s' c v h1 => ?_, fun d hd => ?_, fun k' s' c v h1 hne => ?_, h.apart⟩
  · obtain ⟨h1, h2⟩ := (hl _ _ _ _).1 h1
    obtain ⟨e, h3⟩ := h.lock _ _ _ _ h1
    refine ⟨e, ?_⟩
    by_cases hk : P s' = k ∧ s' = s
    · exact .inr ⟨cm, v0, (hr _ _ _ _).2 (.inr ⟨hk.1, hk.2, rfl, rfl⟩)⟩
    · rcases h3 with ⟨p', v', h3⟩ | ⟨c, v', h3⟩
      · exact .inl ⟨p', v', (hl _ _ _ _).2 ⟨h3, hk⟩⟩
      · exact .inr ⟨c, v', (hr _ _ _ _).2 (.inl h3)⟩
  · rcases (hr _ _ _ _).1 h1 with h1 | ⟨rfl, rfl, rfl, rfl⟩
    · obtain ⟨v', h2⟩ := h.recs _ _ _ _ h1
      exact ⟨v', (hr _ _ _ _).2 (.inl h2)⟩
    · obtain ⟨v', h2⟩ := hp
      exact ⟨v', (hr _ _ _ _).2 (.inl h2)⟩
  · obtain ⟨a, ⟨v, b⟩, c, e⟩ := h.deal d hd
    refine ⟨a, ⟨v, (hr _ _ _ _).2 (.inl b)⟩, fun y hy => ?_, fun k' p v h1 => e k' p v ((hl _ _ _ _).1 h1).1⟩
    rcases c y hy with ⟨p, h1⟩ | h1
    · by_cases hk : y.key = k ∧ d.start = s
      · refine .inr ((hr _ _ _ _).2 (.inr ⟨hk.1, hk.2, ?_, ?_⟩))
        · obtain ⟨v', h2⟩ := hp
          rw [hk.2] at b
          exact (rc_uniq hc hv b h2).1
        · rw [hk.1, hk.2] at h1
          exact (lk_uniq h1 hk0).2.2
      · exact .inl ⟨p, (hl _ _ _ _).2 ⟨h1, hk⟩⟩
    · exact .inr ((hr _ _ _ _).2 (.inl h1))
  · rcases (hr _ _ _ _).1 h1 with h1 | ⟨rfl, rfl, rfl, rfl⟩
    · exact h.told _ _ _ _ h1 hne
    · obtain ⟨v', h2⟩ := hp
      obtain ⟨d, hd, e1, e2, _⟩ := h.told _ _ _ _ h2 hne
      subst e1 e2
      exact ⟨d, hd, rfl, rfl, (h.deal d hd).2.2.2 _ _ _ hk0⟩

theorem cinv_commit (hv : RowsVal clock l) (hx : CInv l P x) (hph : x.phase = 1 ∨ x.phase = 2 ∨ x.phase = 3 ∨ x.phase = 4) (h0 : (atRow l k (fun r => commitRow r s cm) (fun r => commitCode r s cm)).2 = 0) (hp : ∃ v, Rc l (P s) s cm v) (hne : cm ≠ 0) :
    CInv (atRow l k (fun r => commitRow r s cm) (fun r => commitCode r s cm)).1 P x := by
  obtain ⟨hlt, p0, v0, hk0, hl, hr⟩ := commit_step hv h0
  by_cases hs : x.start = s
  · obtain ⟨v', h2⟩ := hp
    have h4 : x.phase = 4 := by
      rcases hph with h | h | h | h
      · exact absurd (hs ▸ h2) ((hx.none (.inl h)).2 _ _ _)
      · exact absurd (hx.mild (.inl h) _ _ _ (hs ▸ h2)) hne
      · exact absurd (hx.mild (.inr h) _ _ _ (hs ▸ h2)) hne
      · exact h
    refine ⟨fun hp => by omega, fun hp => by omega, fun j y hj hp => by omega, hx.prim, fun hp => ?_, fun k' p v h1 => hx.own k' p v ((hl _ _ _ _).1 h1).1⟩
    obtain ⟨v, h1⟩ := hx.done hp
    exact ⟨v, (hr _ _ _ _).2 (.inl h1)⟩
  · refine hx.far (fun k' p v => ?_) (fun k' c v => ?_)
    · rw [hl]
      exact ⟨fun e => e.1, fun e => ⟨e, fun e' => hs e'.2⟩⟩
    · rw [hr]
      exact ⟨fun e => e.elim id fun e' => absurd e'.2.1 hs, .inl⟩

/-! ### the commit itself: at the primary -/
theorem not_dealt (h : Inv l P D) (hm : ∀ k c v, Rc l k s c v → c = 0) : ∀ d ∈ D, d.start ≠ s := by
  intro d hd e
  obtain ⟨a, ⟨v, b⟩, _, _⟩ := h.deal d hd
  rw [e] at b
  exact a (hm _ _ _ b)
theorem inv_primary (hc : 0 ≤ clock) (hv : RowsVal clock l) (h : Inv l P D) (hx : CInv l P x) (hph : x.phase = 3) (hk : k = P x.start) (h0 : (atRow l k (fun r => commitRow r x.start cm) (fun r => commitCode r x.start cm)).2 = 0) :
    Inv (atRow l k (fun r => commitRow r x.start cm) (fun r => commitCode r x.start cm)).1 P (D ++ [⟨x.start, cm, x.writes⟩]) := by
  obtain ⟨hlt, p0, v0, hk0, hl, hr⟩ := commit_step hv h0
  have hb := lk_bound hc hv hk0
  have hnd := not_dealt h (hx.mild (.inr hph))
  have hlocked : ∀ y ∈ x.writes, Lk l y.key x.start (P x.start) y.value := fun y hy => by
    obtain ⟨j, hj, rfl⟩ := List.mem_iff_getElem.1 hy
    rcases hx.held j _ (List.getElem?_eq_getElem hj) (.inl hph) with h1 | ⟨v, h1⟩
    · exact h1
    · obtain ⟨v', h2⟩ := h.recs _ _ _ _ h1
      rw [← hk] at h2
      exact (lk_rc hc hv hk0 h2).elim
  refine ⟨fun k' s' p v h1 => ?_, fun k' s' c v h1 => ?_, fun d hd => ?_, fun k' s' c v h1 hne => ?_, ?_⟩
  · obtain ⟨h1, h2⟩ := (hl _ _ _ _).1 h1
    obtain ⟨e, h3⟩ := h.lock _ _ _ _ h1
    refine ⟨e, ?_⟩
    by_cases hk' : P s' = k ∧ s' = x.start
    · exact .inr ⟨cm, v0, (hr _ _ _ _).2 (.inr ⟨hk'.1, hk'.2, rfl, rfl⟩)⟩
    · rcases h3 with ⟨p', v', h3⟩ | ⟨c, v', h3⟩
      · exact .inl ⟨p', v', (hl _ _ _ _).2 ⟨h3, hk'⟩⟩
      · exact .inr ⟨c, v', (hr _ _ _ _).2 (.inl h3)⟩
  · rcases (hr _ _ _ _).1 h1 with h1 | ⟨rfl, rfl, rfl, rfl⟩
    · obtain ⟨v', h2⟩ := h.recs _ _ _ _ h1
      exact ⟨v', (hr _ _ _ _).2 (.inl h2)⟩
    · exact ⟨_, (hr _ _ _ _).2 (.inr ⟨hk.symm, rfl, rfl, rfl⟩)⟩
  · rcases List.mem_append.1 hd with hd | hd
    · obtain ⟨a, ⟨v, b⟩, c, e⟩ := h.deal d hd
      have hne := hnd d hd
      refine ⟨a, ⟨v, (hr _ _ _ _).2 (.inl b)⟩, fun y hy => ?_, fun k' p v h1 => e k' p v ((hl _ _ _ _).1 h1).1⟩
      rcases c y hy with ⟨p, h1⟩ | h1
      · exact .inl ⟨p, (hl _ _ _ _).2 ⟨h1, fun h2 => hne h2.2⟩⟩
      · exact .inr ((hr _ _ _ _).2 (.inl h1))
    · obtain rfl := List.mem_singleton.1 hd
      refine ⟨by show cm ≠ 0; omega, ⟨v0, (hr _ _ _ _).2 (.inr ⟨hk.symm, rfl, rfl, rfl⟩)⟩, fun y hy => ?_, fun k' p v h1 => hx.own k' p v ((hl _ _ _ _).1 h1).1⟩
      have h1 := hlocked y hy
      by_cases hyk : y.key = k
      · refine .inr ((hr _ _ _ _).2 (.inr ⟨hyk, rfl, rfl, ?_⟩))
        rw [hyk] at h1
        exact (lk_uniq h1 hk0).2.2
      · exact .inl ⟨_, (hl _ _ _ _).2 ⟨h1, fun e => hyk e.1⟩⟩
  · rcases (hr _ _ _ _).1 h1 with h1 | ⟨rfl, rfl, rfl, rfl⟩
    · obtain ⟨d, hd, e⟩ := h.told _ _ _ _ h1 hne
      exact ⟨d, List.mem_append_left _ hd, e⟩
    · exact ⟨_, List.mem_append_right _ (List.mem_singleton.2 rfl), rfl, rfl, hx.own _ _ _ hk0⟩
  · rw [List.pairwise_append]
    exact ⟨h.apart, by simp, fun d hd e he => by rw [List.mem_singleton.1 he]; exact hnd d hd⟩
theorem commit_far (hv : RowsVal clock l) (hx : CInv l P x) (hs : x.start ≠ s) (h0 : (atRow l k (fun r => commitRow r s cm) (fun r => commitCode r s cm)).2 = 0) : CInv (atRow l k (fun r => commitRow r s cm) (fun r => commitCode r s cm)).1 P x := by
  obtain ⟨hlt, p0, v0, hk0, hl, hr⟩ := commit_step hv h0
  refine hx.far (fun k' p v => ?_) (fun k' c v => ?_)
  · rw [hl]
    exact ⟨fun e => e.1, fun e => ⟨e, fun e' => hs e'.2⟩⟩
  · rw [hr]
    exact ⟨fun e => e.elim id fun e' => absurd e'.2.1 hs, .inl⟩

/-! ### locking -/
def repoint (P : Int → ByteArray) (s : Int) (p : ByteArray) : Int → ByteArray := fun t => if t = s then p else P t
theorem inv_repoint (h : Inv l P D) (hn : NoneOf l s) (p : ByteArray) : Inv l (repoint P s p) D := by
  have hne : ∀ t, t ≠ s → repoint P s p t = P t := fun t ht => if_neg ht
  refine ⟨fun k s' p' v h1 => ?_, fun k s' c v h1 => ?_, fun d hd => ?_, h.told, h.apart⟩
  · rw [hne s' (by rintro rfl; exact hn.1 _ _ _ h1)]; exact h.lock _ _ _ _ h1
  · rw [hne s' (by rintro rfl; exact hn.2 _ _ _ h1)]; exact h.recs _ _ _ _ h1
  · obtain ⟨a, ⟨v, b⟩, c⟩ := h.deal d hd
    rw [hne d.start (by intro e; rw [e] at b; exact hn.2 _ _ _ b)]
    exact ⟨a, ⟨v, b⟩, c⟩
theorem cinv_repoint (hx : CInv l P x) (hs : x.start ≠ s) (p : ByteArray) : CInv l (repoint P s p) x := by
  have hne : repoint P s p x.start = P x.start := if_neg hs
  refine ⟨hx.none, hx.mild, fun j y hj hp => ?_, fun hp => ?_, fun hp => ?_, hx.own⟩
  · rw [hne]; exact hx.held j y hj hp
  · rw [hne]; exact hx.prim hp
  · rw [hne]; exact hx.done hp
theorem inv_lock {p v : ByteArray} (hc : 0 ≤ clock) (hv : RowsVal clock l) (h : Inv l P D) (hp : p = P s) (hm : ∀ k c v, Rc l k s c v → c = 0) (hk : k = p ∨ (∃ p' v', Lk l (P s) s p' v') ∨ ∃ c v', Rc l (P s) s c v')
    (h0 : (atRow l k (fun r => lockRow r s p v) (fun r => lockCode r s p v)).2 = 0) : Inv (atRow l k (fun r => lockRow r s p v) (fun r => lockCode r s p v)).1 P D := by
  obtain ⟨hfree, hnr, hcm, hl, hr⟩ := lock_step hc hv h0
  have hnd := not_dealt h hm
  refine ⟨fun k' s' p' v' h1 => ?_, fun k' s' c v' h1 => ?_, fun d hd => ?_, fun k' s' c v' h1 hne => ?_, h.apart⟩
  · have hold : ∀ t, ((∃ p' v', Lk l (P t) t p' v') ∨ ∃ c v', Rc l (P t) t c v') → ((∃ p' v', Lk (atRow l k (fun r => lockRow r s p v) (fun r => lockCode r s p v)).1 (P t) t p' v') ∨ ∃ c v', Rc (atRow l k (fun r => lockRow r s p v) (fun r => lockCode r s p v)).1 (P t) t c v') := by
      rintro t (⟨p1, v1, h3⟩ | ⟨c, v1, h3⟩)
      · exact .inl ⟨p1, v1, (hl _ _ _ _).2 (.inr h3)⟩
      · exact .inr ⟨c, v1, (hr _ _ _ _).2 h3⟩
    rcases (hl _ _ _ _).1 h1 with ⟨rfl, rfl, rfl, rfl⟩ | h1
    · refine ⟨hp, ?_⟩
      rcases hk with e | hk
      · exact .inl ⟨_, _, (hl _ _ _ _).2 (.inl ⟨(e.trans hp).symm, rfl, rfl, rfl⟩)⟩
      · exact hold _ hk
    · obtain ⟨e, h3⟩ := h.lock _ _ _ _ h1
      exact ⟨e, hold _ h3⟩
  · obtain ⟨v1, h2⟩ := h.recs _ _ _ _ ((hr _ _ _ _).1 h1)
    exact ⟨v1, (hr _ _ _ _).2 h2⟩
  · obtain ⟨a, ⟨v1, b⟩, c, e⟩ := h.deal d hd
    refine ⟨a, ⟨v1, (hr _ _ _ _).2 b⟩, fun y hy => ?_, fun k' p' v' h1 => ?_⟩
    · rcases c y hy with ⟨p1, h1⟩ | h1
      · exact .inl ⟨p1, (hl _ _ _ _).2 (.inr h1)⟩
      · exact .inr ((hr _ _ _ _).2 h1)
    · rcases (hl _ _ _ _).1 h1 with ⟨_, h2, _⟩ | h1
      · exact absurd h2 (hnd d hd)
      · exact e _ _ _ h1
  · exact h.told _ _ _ _ ((hr _ _ _ _).1 h1) hne
theorem lock_far {p v : ByteArray} (hc : 0 ≤ clock) (hv : RowsVal clock l) (hx : CInv l P x) (hs : x.start ≠ s) (h0 : (atRow l k (fun r => lockRow r s p v) (fun r => lockCode r s p v)).2 = 0) : CInv (atRow l k (fun r => lockRow r s p v) (fun r => lockCode r s p v)).1 P x := by
  obtain ⟨hfree, hnr, hcm, hl, hr⟩ := lock_step hc hv h0
  refine hx.far (fun k' p v => ?_) (fun k' c v => ?_)
  · rw [hl]
    exact ⟨fun e => e.elim (fun e' => absurd e'.2.1 hs) id, .inr⟩
  · rw [hr]

/-! ### a client that fails -/
/-- What is so while a failing client's rows are undone, one by one. -/
structure Failing (clock : Int) (l : List MRow) (P : Int → ByteArray) (D : List Deal) (s : Int) : Prop where
  val : RowsVal clock l
  inv : Inv l P D
  mild : ∀ k c v, Rc l k s c v → c = 0
theorem failStep_miss (hv : RowsVal clock l) (ht : timeB s = true) {y : MWrite} (hn : ∀ p v, ¬ Lk l y.key s p v) : failStep s l y = l := by
  unfold failStep
  rw [if_neg]
  intro e
  obtain ⟨p, v, h⟩ := (statusAt_one hv ht).1 e
  exact hn p v h
theorem failStep_hit (hc : 0 ≤ clock) (hs : s ≤ clock) (ht : timeB s = true) {y : MWrite} (h : Failing clock l P D s) (hu : y.key = P s ∨ ∃ v, Rc l (P s) s 0 v) :
    Failing clock (failStep s l y) P D s ∧ ((∃ v, Rc l (P s) s 0 v) → ∃ v, Rc (failStep s l y) (P s) s 0 v) ∧ (∀ x : MClient, CInv l P x → x.start ≠ s → CInv (failStep s l y) P x) ∧
    ((∃ p v, Lk l y.key s p v) → ∃ v, Rc (failStep s l y) y.key s 0 v) := by
  by_cases hst : (statusAt l y.key s).1 = 1
  · have e : failStep s l y = (undoAt l y.key s).1 := by unfold failStep; rw [if_pos hst]
    obtain ⟨p, v, hl0⟩ := (statusAt_one h.val ht).1 hst
    have h0 := undo_lk hc h.val hl0
    obtain ⟨_, hl, hr⟩ := undo_step hc h.val h0
    rw [e]
    refine ⟨⟨undoAt_good hc hs h.val, inv_undo hc h.val h.inv h0 h.mild hu, fun k c v h1 => ?_⟩, fun ⟨v, h1⟩ => ⟨v, (hr _ _ _ _).2 (.inl h1)⟩, fun x hx hne => ?_, fun _ => ⟨_, (hr _ _ _ _).2 (.inr ⟨rfl, rfl, rfl, rfl⟩)⟩⟩
    · rcases (hr _ _ _ _).1 h1 with h1 | ⟨_, _, h2, _⟩
      · exact h.mild _ _ _ h1
      · exact h2
    · refine hx.far (fun k' p v => ?_) (fun k' c v => ?_)
      · rw [hl]; exact ⟨fun e => e.1, fun e => ⟨e, fun e' => hne e'.2⟩⟩
      · rw [hr]; exact ⟨fun e => e.elim id fun e' => absurd e'.2.1 hne, .inl⟩
  · have e : failStep s l y = l := by unfold failStep; rw [if_neg hst]
    rw [e]
    exact ⟨h, id, fun x hx _ => hx, fun ⟨p, v, h1⟩ => absurd ((statusAt_one h.val ht).2 ⟨p, v, h1⟩) hst⟩
theorem fail_rest (hc : 0 ≤ clock) (hs : s ≤ clock) (ht : timeB s = true) : ∀ {ws : List MWrite} {l : List MRow}, Failing clock l P D s → (∃ v, Rc l (P s) s 0 v) →
    Failing clock (failRows l ws s) P D s ∧ (∀ x : MClient, CInv l P x → x.start ≠ s → CInv (failRows l ws s) P x)
  | [], l, h, _ => ⟨h, fun _ hx _ => hx⟩
  | y :: ws, l, h, hr => by
    obtain ⟨h1, h2, h3, _⟩ := failStep_hit hc hs ht (y := y) h (.inr hr)
    obtain ⟨h4, h5⟩ := fail_rest (ws := ws) hc hs ht h1 (h2 hr)
    exact ⟨h4, fun x hx hne => h5 x (h3 x hx hne) hne⟩
theorem fail_none (hv : RowsVal clock l) (ht : timeB s = true) (hn : NoneOf l s) : ∀ {ws : List MWrite}, failRows l ws s = l
  | [] => rfl
  | y :: ws => by
    show failRows (failStep s l y) ws s = l
    rw [failStep_miss hv ht fun p v => hn.1 _ _ _]
    exact fail_none hv ht hn
theorem fail_inv (hc : 0 ≤ clock) (hv : RowsVal clock l) (h : Inv l P D) (hx : CInv l P x) (hb : Busy x clock) (hm : timeB x.start = true) (hph : x.phase = 2 ∨ x.phase = 3) (hn : 0 < x.writes.length) :
    Inv (failRows l x.writes x.start) P D ∧ ∀ y : MClient, CInv l P y → y.start ≠ x.start → CInv (failRows l x.writes x.start) P y := by
  by_cases h0 : x.phase = 2 ∧ x.at_ = 0
  · rw [fail_none hv hm (hx.none (.inr h0))]
    exact ⟨h, fun _ hy _ => hy⟩
  · have hpr : x.phase = 3 ∨ (x.phase = 2 ∧ 0 < x.at_) := by
      have := hb.phase
      omega
    have hP := hx.prim (by omega)
    have hheld := hx.held 0
    have hfail : Failing clock l P D x.start := ⟨hv, h, hx.mild hph⟩
    match hw : x.writes, hn with
    | y :: ws, _ =>
      have hy : (writeNo x 0) = y := by unfold writeNo; rw [hw]; rfl
      rw [hy] at hP
      obtain ⟨h1, h2, h3, h4⟩ := failStep_hit hc hb.start.2 hm (y := y) hfail (.inl hP.symm)
      have hr0 : ∃ v, Rc (failStep x.start l y) (P x.start) x.start 0 v := by
        rcases hheld y (by rw [hw]; rfl) (by omega) with h5 | ⟨v, h5⟩
        · rw [hP]; exact h4 ⟨_, _, h5⟩
        · exact h2 ⟨v, by rw [hP]; exact h5⟩
      obtain ⟨h6, h7⟩ := fail_rest (ws := ws) hc hb.start.2 hm h1 hr0
      exact ⟨h6.inv, fun z hz hne => h7 z (h3 z hz hne) hne⟩
end
end Go.Proofs.YtniomgngiiiklabDoor
