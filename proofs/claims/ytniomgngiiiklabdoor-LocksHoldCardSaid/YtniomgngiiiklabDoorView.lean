/- A world's rows seen as locks and records, and what the operations do to them; no program in sight. -/
import Derived.Test.YtniomgngiiiklabDoorWorld
namespace Go.Proofs.YtniomgngiiiklabDoor
open Go.RowKit

/-- The row of a key; the empty one, if there is none. -/
def rv (l : List MRow) (k : ByteArray) : MRow := (rowAt l k).getD (emptyRow k)
def Lk (l : List MRow) (k : ByteArray) (s : Int) (p v : ByteArray) : Prop := s ≠ 0 ∧ (rv l k).ls = s ∧ (rv l k).lp = p ∧ (rv l k).value = v
def Rc (l : List MRow) (k : ByteArray) (s c : Int) (v : ByteArray) : Prop := (⟨s, c, v⟩ : MRec) ∈ (rv l k).recs

theorem rv_key {l : List MRow} {k : ByteArray} : (rv l k).key = k := by
  unfold rv
  cases h : rowAt l k with
  | none => rfl
  | some r => exact (rowAt_mem h).2
theorem rv_putRow {l : List MRow} {r : MRow} (hs : l.Pairwise fun a b => ltK a.key b.key = true) (k : ByteArray) : rv (putRow l r) k = if r.key = k then r else rv l k := by
  unfold rv
  rw [rowAt_putRow k hs]
  by_cases h : r.key = k
  · rw [if_pos h, if_pos h]; rfl
  · rw [if_neg h, if_neg h]
/-- What holds of a valid row but for its key. -/
structure BodyGood (clock : Int) (r : MRow) : Prop where
  recs : RecsGood r.recs
  free : r.ls = 0 → r.value = ⟨#[]⟩
  lock : r.ls ≠ 0 → 1 ≤ r.ls ∧ r.ls ≤ 1099511627776 ∧ ∀ x ∈ r.recs, x.start ≠ r.ls ∧ x.commit ≤ r.ls
  in_ : RowIn clock r
theorem rv_good {clock : Int} {l : List MRow} (hc : 0 ≤ clock) (h : RowsVal clock l) (k : ByteArray) : BodyGood clock (rv l k) := by
  unfold rv
  cases hr : rowAt l k with
  | none => exact ⟨⟨fun x hx => (by cases hx), List.Pairwise.nil⟩, fun _ => rfl, fun h0 => absurd rfl h0, emptyRow_in hc⟩
  | some r =>
    obtain ⟨hm, _⟩ := rowAt_mem hr
    obtain ⟨hg, hi⟩ := h.each r hm
    exact ⟨hg.recs, fun h0 => (hg.free h0).2, fun h0 => ⟨(hg.lock h0).1, (hg.lock h0).2.1, (hg.lock h0).2.2.2.1⟩, hi⟩

section
variable {clock : Int} {l : List MRow} {k p v p' v' : ByteArray} {s s' c c' : Int}
theorem lk_uniq (h1 : Lk l k s p v) (h2 : Lk l k s' p' v') : s = s' ∧ p = p' ∧ v = v' := by
  obtain ⟨_, a, b, d⟩ := h1
  obtain ⟨_, a', b', d'⟩ := h2
  exact ⟨a.symm.trans a', b.symm.trans b', d.symm.trans d'⟩
theorem rc_uniq (hc : 0 ≤ clock) (h : RowsVal clock l) (h1 : Rc l k s c v) (h2 : Rc l k s c' v') : c = c' ∧ v = v' := by
  have hg := rv_good hc h k
  have e1 := recFind_of_mem hg.recs.pair h1
  have e2 := recFind_of_mem hg.recs.pair h2
  dsimp only at e1 e2
  rw [e1] at e2
  injection e2 with e2
  injection e2 with _ e3 e4
  exact ⟨e3, e4⟩
theorem lk_rc (hc : 0 ≤ clock) (h : RowsVal clock l) (h1 : Lk l k s p v) (h2 : Rc l k s c v') : False := by
  have hg := rv_good hc h k
  obtain ⟨h0, a, _, _⟩ := h1
  exact ((hg.lock (by rw [a]; exact h0)).2.2 _ h2).1 a.symm
theorem lk_bound (hc : 0 ≤ clock) (h : RowsVal clock l) (h1 : Lk l k s p v) : 1 ≤ s ∧ s ≤ clock ∧ s ≤ 1099511627776 := by
  have hg := rv_good hc h k
  obtain ⟨h0, a, _, _⟩ := h1
  have := hg.lock (by rw [a]; exact h0)
  have := hg.in_.1
  rw [a] at *
  omega
theorem rc_bound (hc : 0 ≤ clock) (h : RowsVal clock l) (h1 : Rc l k s c v) : (1 ≤ s ∧ s ≤ clock ∧ c ≤ clock) ∧ (c = 0 → v = ⟨#[]⟩) ∧ (c ≠ 0 → s < c ∧ c ≤ 1099511627776) := by
  have hg := rv_good hc h k
  have h2 := hg.recs.each _ h1
  have h3 := hg.in_.2 _ h1
  exact ⟨⟨h2.1, h3⟩, h2.2.2.2⟩
theorem rc_sep (hc : 0 ≤ clock) (h : RowsVal clock l) (h1 : Rc l k s c v) (h2 : Rc l k s' c' v') (h0 : c' ≠ 0) (hlt : s < s') : c ≤ s' := by
  have hg := rv_good hc h k
  obtain ⟨i, hi, e1⟩ := List.mem_iff_getElem.1 h1
  obtain ⟨j, hj, e2⟩ := List.mem_iff_getElem.1 h2
  rcases Nat.lt_trichotomy i j with hlt' | rfl | hlt'
  · have := List.pairwise_iff_getElem.1 hg.recs.pair i j hi hj hlt'
    rw [e1, e2] at this
    exact this.2 h0
  · rw [e1] at e2; injection e2 with e2; omega
  · have := List.pairwise_iff_getElem.1 hg.recs.pair j i hj hi hlt'
    rw [e1, e2] at this
    have := this.1
    dsimp only at this; omega
theorem lk_rc_sep (hc : 0 ≤ clock) (h : RowsVal clock l) (h1 : Lk l k s p v) (h2 : Rc l k s' c' v') : c' ≤ s := by
  have hg := rv_good hc h k
  obtain ⟨h0, a, _, _⟩ := h1
  have := ((hg.lock (by rw [a]; exact h0)).2.2 _ h2).2
  dsimp only at this; omega
end

/-! ### what an operation at a row does -/
theorem atRow_hit {l : List MRow} {k : ByteArray} {f : MRow → MRow} {e : MRow → Int} (h : (atRow l k f e).2 = 0) : e (rv l k) = 0 ∧ (atRow l k f e).1 = putRow l (f (rv l k)) := by
  unfold atRow rv at *
  cases hr : rowAt l k with
  | some r =>
    rw [hr] at h
    dsimp only at h ⊢
    by_cases h0 : e r = 0
    · simp only [h0, if_true, Option.getD_some]; exact ⟨trivial, trivial⟩
    · rw [if_neg h0] at h; exact absurd h h0
  | none =>
    rw [hr] at h
    dsimp only at h ⊢
    by_cases h4 : l.length = 40
    · rw [if_pos h4] at h; simp at h
    · rw [if_neg h4] at h ⊢
      by_cases h0 : e (emptyRow k) = 0
      · simp only [h0, if_true, Option.getD_none]; exact ⟨trivial, trivial⟩
      · rw [if_neg h0] at h; exact absurd h h0
theorem atRow_miss {l : List MRow} {k : ByteArray} {f : MRow → MRow} {e : MRow → Int} (h : (atRow l k f e).2 ≠ 0) : (atRow l k f e).1 = l := by
  unfold atRow at *
  cases hr : rowAt l k with
  | some r =>
    rw [hr] at h
    dsimp only at h ⊢
    by_cases h0 : e r = 0
    · rw [if_pos h0] at h; exact absurd rfl h
    · rw [if_neg h0]
  | none =>
    rw [hr] at h
    dsimp only at h ⊢
    by_cases h4 : l.length = 40
    · rw [if_pos h4]
    · rw [if_neg h4] at h ⊢
      by_cases h0 : e (emptyRow k) = 0
      · rw [if_pos h0] at h; exact absurd rfl h
      · rw [if_neg h0]
/-- At a row that is there only its own code counts. -/
theorem atRow_there {l : List MRow} {k : ByteArray} {f : MRow → MRow} {e : MRow → Int} {r : MRow} (hr : rowAt l k = some r) (h : e r = 0) : (atRow l k f e).2 = 0 := by
  unfold atRow
  rw [hr]
  dsimp only
  rw [if_pos h]

section
variable {clock : Int} {l : List MRow} {k p v : ByteArray} {st cm : Int}

theorem lock_step (hc : 0 ≤ clock) (h : RowsVal clock l) (h0 : (atRow l k (fun r => lockRow r st p v) (fun r => lockCode r st p v)).2 = 0) :
    (∀ s' p' v', ¬ Lk l k s' p' v') ∧ (∀ c v', ¬ Rc l k st c v') ∧ (∀ s c v', Rc l k s c v' → c ≤ st) ∧
    (∀ k' s' p' v', Lk (atRow l k (fun r => lockRow r st p v) (fun r => lockCode r st p v)).1 k' s' p' v' ↔ (k' = k ∧ s' = st ∧ p' = p ∧ v' = v) ∨ Lk l k' s' p' v') ∧
    (∀ k' s' c v', Rc (atRow l k (fun r => lockRow r st p v) (fun r => lockCode r st p v)).1 k' s' c v' ↔ Rc l k' s' c v') := by
  obtain ⟨he, hl⟩ := atRow_hit h0
  obtain ⟨hr, ht, hp, hv, hcm, hls, hn, hf⟩ := lockCode_ok he
  have hb := timeB_bounds ht
  have hg := rv_good hc h k
  have e2 := (lockRow_good he).2
  have ekey : (lockRow (rv l k) st p v).key = k := by rw [e2]; exact rv_key
  have erv : ∀ k', rv (putRow l (lockRow (rv l k) st p v)) k' = if k = k' then lockRow (rv l k) st p v else rv l k' := fun k' => by rw [rv_putRow h.sorted, ekey]
  rw [hl]
  refine ⟨?_, ?_, ?_, ?_, ?_⟩
  · rintro s' p' v' ⟨h1, h2, _, _⟩; exact h1 (h2.symm.trans hls)
  · intro c v' hrc; exact recFind_none hf _ hrc rfl
  · intro s c v' hrc; exact hcm _ hrc
  · intro k' s' p' v'
    unfold Lk
    rw [erv]
    by_cases hk : k = k'
    · subst hk
      rw [if_pos rfl, e2]
      dsimp only
      constructor
      · rintro ⟨_, a, b, c⟩; exact .inl ⟨rfl, a.symm, b.symm, c.symm⟩
      · rintro (⟨_, rfl, rfl, rfl⟩ | ⟨h1, h2, _, _⟩)
        · exact ⟨by omega, rfl, rfl, rfl⟩
        · exact absurd (h2.symm.trans hls) h1
    · rw [if_neg hk]
      constructor
      · exact .inr
      · rintro (⟨h1, _⟩ | h1)
        · exact absurd h1.symm hk
        · exact h1
  · intro k' s' c v'
    unfold Rc
    rw [erv]
    by_cases hk : k = k'
    · subst hk; rw [if_pos rfl, e2]
    · rw [if_neg hk]

theorem with_view {x : MRec} (h : RowsVal clock l) (k' : ByteArray) :
    (∀ s' p' v', (rv l k).ls = 0 ∨ x.start ≠ 0 → (Lk (putRow l (withF (rv l k) x)) k' s' p' v' ↔ Lk l k' s' p' v' ∧ ¬ (k' = k ∧ s' = x.start))) ∧
    (∀ s' c v', Rc (putRow l (withF (rv l k) x)) k' s' c v' ↔ Rc l k' s' c v' ∨ (k' = k ∧ s' = x.start ∧ c = x.commit ∧ v' = x.value)) := by
  have ekey : (withF (rv l k) x).key = k := (withF_key _ _).trans rv_key
  have erv : rv (putRow l (withF (rv l k) x)) k' = if k = k' then withF (rv l k) x else rv l k' := by rw [rv_putRow h.sorted, ekey]
  refine ⟨fun s' p' v' hx => ?_, fun s' c v' => ?_⟩
  · unfold Lk
    rw [erv]
    by_cases hk : k = k'
    · subst hk
      rw [if_pos rfl]
      unfold withF
      by_cases hs : (rv l k).ls = x.start
      · rw [if_pos hs]
        dsimp only
        constructor
        · rintro ⟨a, b, _, _⟩; exact absurd b.symm a
        · rintro ⟨⟨a, b, _, _⟩, d⟩; exact absurd ⟨rfl, b.symm.trans hs⟩ d
      · rw [if_neg hs]
        dsimp only
        constructor
        · rintro ⟨a, b, c, d⟩; exact ⟨⟨a, b, c, d⟩, fun e => hs (b.trans e.2)⟩
        · exact fun e => e.1
    · rw [if_neg hk]
      constructor
      · exact fun e => ⟨e, fun e' => hk e'.1.symm⟩
      · exact fun e => e.1
  · unfold Rc
    rw [erv]
    by_cases hk : k = k'
    · subst hk
      rw [if_pos rfl, withF_recs, mem_insRecs]
      constructor
      · rintro (e | e)
        · subst e; exact .inr ⟨rfl, rfl, rfl, rfl⟩
        · exact .inl e
      · rintro (e | ⟨_, rfl, rfl, rfl⟩)
        · exact .inr e
        · exact .inl rfl
    · rw [if_neg hk]
      constructor
      · exact .inl
      · rintro (e | e)
        · exact e
        · exact absurd e.1.symm hk

theorem undo_step (hc : 0 ≤ clock) (h : RowsVal clock l) (h0 : (undoAt l k st).2 = 0) :
    (∀ c v', Rc l k st c v' → c = 0) ∧
    (∀ k' s' p' v', Lk (undoAt l k st).1 k' s' p' v' ↔ Lk l k' s' p' v' ∧ ¬ (k' = k ∧ s' = st)) ∧
    (∀ k' s' c v', Rc (undoAt l k st).1 k' s' c v' ↔ Rc l k' s' c v' ∨ (k' = k ∧ s' = st ∧ c = 0 ∧ v' = ⟨#[]⟩)) := by
  unfold undoAt at h0 ⊢
  obtain ⟨he, hl⟩ := atRow_hit h0
  obtain ⟨hr, ht, hcs⟩ := undoCode_ok he
  have hb := timeB_bounds ht
  rw [hl]
  rcases hcs with ⟨h3, e⟩ | ⟨e, hf, _⟩
  · rw [e]
    obtain ⟨hls, x, hx, hx0⟩ := status_three h3
    obtain ⟨hxm, hxs⟩ := recFind_mem hx
    have hxe : x = ⟨st, 0, ⟨#[]⟩⟩ := by
      have := ((rv_good hc h k).recs.each x hxm).2.2.2.1 hx0
      obtain ⟨a, b, c⟩ := x
      dsimp only at *
      subst hxs hx0 this; rfl
    have hrc : Rc l k st 0 ⟨#[]⟩ := by rw [hxe] at hxm; exact hxm
    have erv : ∀ k', rv (putRow l (rv l k)) k' = rv l k' := fun k' => by
      rw [rv_putRow h.sorted, rv_key]
      by_cases hk : k = k'
      · subst hk; rw [if_pos rfl]
      · rw [if_neg hk]
    refine ⟨fun c v' hc' => (rc_uniq hc h hc' hrc).1, fun k' s' p' v' => ?_, fun k' s' c v' => ?_⟩
    · unfold Lk
      rw [erv]
      constructor
      · intro e'
        refine ⟨e', ?_⟩
        rintro ⟨rfl, rfl⟩
        exact hls e'.2.1
      · exact fun e => e.1
    · unfold Rc
      rw [erv]
      constructor
      · exact .inl
      · rintro (e | ⟨rfl, rfl, rfl, rfl⟩)
        · exact e
        · exact hrc
  · rw [e]
    refine ⟨fun c v' hc' => absurd rfl (recFind_none hf _ hc'), fun k' s' p' v' => (with_view h k').1 s' p' v' (.inr (by show st ≠ 0; omega)), fun k' s' c v' => (with_view h k').2 s' c v'⟩
theorem commit_step (h : RowsVal clock l) (h0 : (atRow l k (fun r => commitRow r st cm) (fun r => commitCode r st cm)).2 = 0) :
    st < cm ∧ ∃ p v, Lk l k st p v ∧
    (∀ k' s' p' v', Lk (atRow l k (fun r => commitRow r st cm) (fun r => commitCode r st cm)).1 k' s' p' v' ↔ Lk l k' s' p' v' ∧ ¬ (k' = k ∧ s' = st)) ∧
    (∀ k' s' c v', Rc (atRow l k (fun r => commitRow r st cm) (fun r => commitCode r st cm)).1 k' s' c v' ↔ Rc l k' s' c v' ∨ (k' = k ∧ s' = st ∧ c = cm ∧ v' = v)) := by
  obtain ⟨he, hl⟩ := atRow_hit h0
  obtain ⟨hr, ht, h1, h2, hls⟩ := commitCode_ok he
  have hb := timeB_bounds ht
  rw [hl, (commitRow_good he).2]
  exact ⟨h1, (rv l k).lp, (rv l k).value, ⟨by omega, hls, rfl, rfl⟩, fun k' s' p' v' => (with_view h k').1 s' p' v' (.inr (by show st ≠ 0; omega)), fun k' s' c v' => (with_view h k').2 s' c v'⟩

/-! ### when they succeed -/
theorem rowAt_of_lk {s : Int} (h : Lk l k s p v) : rowAt l k = some (rv l k) := by
  unfold rv
  cases hr : rowAt l k with
  | some r => rfl
  | none =>
    obtain ⟨h0, h1, _⟩ := h
    unfold rv at h1
    rw [hr] at h1
    exact absurd h1.symm h0
theorem rowAt_of_rc {s c : Int} (h : Rc l k s c v) : rowAt l k = some (rv l k) := by
  unfold rv
  cases hr : rowAt l k with
  | some r => rfl
  | none =>
    unfold Rc rv at h
    rw [hr] at h
    cases h
theorem rv_rowB (h : RowsVal clock l) (hr : rowAt l k = some (rv l k)) : rowB (rv l k) = true := rowB_iff.2 (h.each _ (rowAt_mem hr).1).1
theorem timeB_of {s : Int} (h1 : 1 ≤ s) (h2 : s ≤ 1099511627776) : timeB s = true := by simp [timeB, inB, h1, h2]
theorem undo_lk (hc : 0 ≤ clock) (h : RowsVal clock l) (h1 : Lk l k st p v) : (undoAt l k st).2 = 0 := by
  have hr := rowAt_of_lk h1
  obtain ⟨a, b, d⟩ := lk_bound hc h h1
  refine atRow_there hr ?_
  unfold undoCode
  rw [statusF_of (rv_rowB h hr) (timeB_of a d), if_pos h1.2.1]
  simp
theorem undo_rc (hc : 0 ≤ clock) (h : RowsVal clock l) (h1 : Rc l k st 0 v) (hm : st ≤ 1099511627776) : (undoAt l k st).2 = 0 := by
  have hr := rowAt_of_rc h1
  have hb := rc_bound hc h h1
  have hg := rv_good hc h k
  have hls : ¬ (rv l k).ls = st := fun e => ((hg.lock (by omega)).2.2 _ h1).1 e.symm
  refine atRow_there hr ?_
  unfold undoCode
  rw [statusF_of (rv_rowB h hr) (timeB_of hb.1.1 hm), if_neg hls, show recFind (rv l k).recs st = some ⟨st, 0, v⟩ from recFind_of_mem hg.recs.pair h1]
  simp
theorem commit_lk (hc : 0 ≤ clock) (h : RowsVal clock l) (h1 : Lk l k st p v) (h2 : st < cm) (h3 : cm ≤ 1099511627776) : (atRow l k (fun r => commitRow r st cm) (fun r => commitCode r st cm)).2 = 0 := by
  have hr := rowAt_of_lk h1
  obtain ⟨a, b, d⟩ := lk_bound hc h h1
  exact atRow_there hr (commitCode_mk (rv_rowB h hr) (timeB_of a d) h2 h3 h1.2.1)
theorem statusAt_rv (h : RowsVal clock l) (hs : timeB st = true) : (statusAt l k st).1 = (if (rv l k).ls = st then 1 else match recFind (rv l k).recs st with | none => 0 | some x => if x.commit = 0 then 3 else 2) ∧
    (statusAt l k st).2 = (if (rv l k).ls = st then 0 else match recFind (rv l k).recs st with | none => 0 | some x => if x.commit = 0 then 0 else x.commit) := by
  have hb := timeB_bounds hs
  unfold statusAt
  cases hr : rowAt l k with
  | none =>
    have e : rv l k = emptyRow k := by unfold rv; rw [hr]; rfl
    have hne : ¬ (emptyRow k).ls = st := by show ¬ (0 : Int) = st; omega
    rw [e, if_neg hne, if_neg hne]
    exact ⟨rfl, rfl⟩
  | some r =>
    have e : rv l k = r := by unfold rv; rw [hr]; rfl
    dsimp only
    rw [e, statusF_of (rowB_iff.2 (h.each r (rowAt_mem hr).1).1) hs]
    by_cases hls : r.ls = st
    · simp [hls]
    · simp only [if_neg hls]
      cases recFind r.recs st with
      | none => exact ⟨rfl, rfl⟩
      | some x => by_cases h0 : x.commit = 0 <;> simp [h0]
theorem statusAt_one (h : RowsVal clock l) (hs : timeB st = true) : (statusAt l k st).1 = 1 ↔ ∃ p v, Lk l k st p v := by
  have hb := timeB_bounds hs
  rw [(statusAt_rv h hs).1]
  constructor
  · intro e
    by_cases hls : (rv l k).ls = st
    · exact ⟨_, _, by omega, hls, rfl, rfl⟩
    · rw [if_neg hls] at e
      cases hf : recFind (rv l k).recs st with
      | none => rw [hf] at e; simp at e
      | some x => rw [hf] at e; by_cases h0 : x.commit = 0 <;> simp [h0] at e
  · rintro ⟨p, v, _, e, _⟩
    rw [if_pos e]
theorem statusAt_two (h : RowsVal clock l) (hs : timeB st = true) (h2 : (statusAt l k st).1 = 2) : (statusAt l k st).2 ≠ 0 ∧ ∃ v, Rc l k st (statusAt l k st).2 v := by
  rw [(statusAt_rv h hs).1] at h2
  rw [(statusAt_rv h hs).2]
  by_cases hls : (rv l k).ls = st
  · rw [if_pos hls] at h2; simp at h2
  · rw [if_neg hls] at h2 ⊢
    cases hf : recFind (rv l k).recs st with
    | none => rw [hf] at h2; simp at h2
    | some x =>
      rw [hf] at h2
      dsimp only at h2 ⊢
      by_cases h0 : x.commit = 0
      · simp [h0] at h2
      · rw [if_neg h0]
        obtain ⟨hx, he⟩ := recFind_mem hf
        refine ⟨h0, x.value, ?_⟩
        show (⟨st, x.commit, x.value⟩ : MRec) ∈ _
        rw [← he]; exact hx
theorem statusAt_not_two (hc : 0 ≤ clock) (h : RowsVal clock l) (hs : timeB st = true) (h2 : (statusAt l k st).1 ≠ 2) {c : Int} (hr : Rc l k st c v) : c = 0 := by
  have hg := rv_good hc h k
  have hls : ¬ (rv l k).ls = st := fun e => by
    have hb := timeB_bounds hs
    exact ((hg.lock (by omega)).2.2 _ hr).1 e.symm
  rw [(statusAt_rv h hs).1, if_neg hls, show recFind (rv l k).recs st = some ⟨st, c, v⟩ from recFind_of_mem hg.recs.pair hr] at h2
  dsimp only at h2
  by_cases h0 : c = 0
  · exact h0
  · rw [if_neg h0] at h2; exact absurd rfl h2
end
end Go.Proofs.YtniomgngiiiklabDoor
