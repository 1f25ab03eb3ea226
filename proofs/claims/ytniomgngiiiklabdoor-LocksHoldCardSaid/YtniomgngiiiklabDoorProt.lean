/- The protocol's invariant: what the locks and records of a transaction have to do with each other, with its client, and with what was committed; no program in sight. -/
import Derived.Test.YtniomgngiiiklabDoorView
namespace Go.Proofs.YtniomgngiiiklabDoor
open Go.RowKit

structure Deal where
  start : Int
  commit : Int
  writes : List MWrite

def NoneOf (l : List MRow) (s : Int) : Prop := (∀ k p v, ¬ Lk l k s p v) ∧ ∀ k c v, ¬ Rc l k s c v

/-- What a client that is not idle can lean on. -/
structure CInv (l : List MRow) (P : Int → ByteArray) (x : MClient) : Prop where
  none : x.phase = 1 ∨ (x.phase = 2 ∧ x.at_ = 0) → NoneOf l x.start
  mild : x.phase = 2 ∨ x.phase = 3 → ∀ k c v, Rc l k x.start c v → c = 0
  held : ∀ (j : Nat) y, x.writes[j]? = some y → x.phase = 3 ∨ (x.phase = 2 ∧ j < x.at_) → Lk l y.key x.start (P x.start) y.value ∨ ∃ v, Rc l y.key x.start 0 v
  prim : x.phase = 3 ∨ x.phase = 4 ∨ (x.phase = 2 ∧ 0 < x.at_) → P x.start = (writeNo x 0).key
  done : x.phase = 4 → ∃ v, Rc l (P x.start) x.start x.commit v
  own : ∀ k p v, Lk l k x.start p v → (⟨k, v⟩ : MWrite) ∈ x.writes

structure Inv (l : List MRow) (P : Int → ByteArray) (D : List Deal) : Prop where
  lock : ∀ k s p v, Lk l k s p v → p = P s ∧ ((∃ p' v', Lk l (P s) s p' v') ∨ ∃ c v', Rc l (P s) s c v')
  recs : ∀ k s c v, Rc l k s c v → ∃ v', Rc l (P s) s c v'
  deal : ∀ d ∈ D, d.commit ≠ 0 ∧ (∃ v, Rc l (P d.start) d.start d.commit v) ∧ (∀ y ∈ d.writes, (∃ p, Lk l y.key d.start p y.value) ∨ Rc l y.key d.start d.commit y.value) ∧ (∀ k p v, Lk l k d.start p v → (⟨k, v⟩ : MWrite) ∈ d.writes)
  told : ∀ k s c v, Rc l k s c v → c ≠ 0 → ∃ d ∈ D, d.start = s ∧ d.commit = c ∧ (⟨k, v⟩ : MWrite) ∈ d.writes
  apart : D.Pairwise fun a b => a.start ≠ b.start

section
variable {clock : Int} {l l' : List MRow} {P : Int → ByteArray} {D : List Deal} {k : ByteArray} {s cm : Int} {x : MClient}

/-- Another transaction's client does not see it. -/
theorem CInv.far (h : CInv l P x) (hl : ∀ k p v, Lk l' k x.start p v ↔ Lk l k x.start p v) (hr : ∀ k c v, Rc l' k x.start c v ↔ Rc l k x.start c v) : CInv l' P x := by
  refine ⟨fun hp => ⟨fun k p v => ?_, fun k c v => ?_⟩, fun hp k c v => ?_, fun j y hj hp => ?_, h.prim, fun hp => ?_, fun k p v => ?_⟩
  · rw [hl]; exact (h.none hp).1 k p v
  · rw [hr]; exact (h.none hp).2 k c v
  · rw [hr]; exact h.mild hp k c v
  · rw [hl]
    rcases h.held j y hj hp with h1 | ⟨v, h1⟩
    · exact .inl h1
    · exact .inr ⟨v, (hr _ _ _).2 h1⟩
  · obtain ⟨v, h1⟩ := h.done hp
    exact ⟨v, (hr _ _ _).2 h1⟩
  · rw [hl]; exact h.own k p v

/-! ### undoing -/
theorem inv_undo (hc : 0 ≤ clock) (hv : RowsVal clock l) (h : Inv l P D) (h0 : (undoAt l k s).2 = 0) (u1 : ∀ k' c v, Rc l k' s c v → c = 0) (u2 : k = P s ∨ ∃ v, Rc l (P s) s 0 v) : Inv (undoAt l k s).1 P D := by
  obtain ⟨_, hl, hr⟩ := undo_step hc hv h0
  refine ⟨fun k' s' p v h1 => ?_, fun k' s' c v h1 => ?_, fun d hd => ?_, fun k' s' c v h1 hne => ?_, h.apart⟩
  · obtain ⟨h1, h2⟩ := (hl _ _ _ _).1 h1
    obtain ⟨e, h3⟩ := h.lock _ _ _ _ h1
    refine ⟨e, ?_⟩
    by_cases hk : P s' = k ∧ s' = s
    · exact .inr ⟨0, ⟨#[]⟩, (hr _ _ _ _).2 (.inr ⟨hk.1, hk.2, rfl, rfl⟩)⟩
    · rcases h3 with ⟨p', v', h3⟩ | ⟨c, v', h3⟩
      · exact .inl ⟨p', v', (hl _ _ _ _).2 ⟨h3, hk⟩⟩
      · exact .inr ⟨c, v', (hr _ _ _ _).2 (.inl h3)⟩
  · rcases (hr _ _ _ _).1 h1 with h1 | ⟨rfl, rfl, rfl, rfl⟩
    · obtain ⟨v', h2⟩ := h.recs _ _ _ _ h1
      exact ⟨v', (hr _ _ _ _).2 (.inl h2)⟩
    · rcases u2 with e | ⟨v', h2⟩
      · exact ⟨⟨#[]⟩, (hr _ _ _ _).2 (.inr ⟨e.symm, rfl, rfl, rfl⟩)⟩
      · exact ⟨v', (hr _ _ _ _).2 (.inl h2)⟩
  · obtain ⟨a, ⟨v, b⟩, c, e⟩ := h.deal d hd
    have hne : d.start ≠ s := by
      intro he
      rw [he] at b
      exact a (u1 _ _ _ b)
    refine ⟨a, ⟨v, (hr _ _ _ _).2 (.inl b)⟩, fun y hy => ?_, fun k' p v h1 => e k' p v ((hl _ _ _ _).1 h1).1⟩
    rcases c y hy with ⟨p, h1⟩ | h1
    · exact .inl ⟨p, (hl _ _ _ _).2 ⟨h1, fun h2 => hne h2.2⟩⟩
    · exact .inr ((hr _ _ _ _).2 (.inl h1))
  · rcases (hr _ _ _ _).1 h1 with h1 | ⟨_, _, h2, _⟩
    · exact h.told _ _ _ _ h1 hne
    · exact absurd h2 hne

theorem cinv_undo (hc : 0 ≤ clock) (hv : RowsVal clock l) (hx : CInv l P x) (h0 : (undoAt l k s).2 = 0) (hcm : x.phase = 4 → x.commit ≠ 0)
    (u0 : (∃ k' p v, Lk l k' s p v) ∨ ∃ k' c v, Rc l k' s c v) (u1 : ∀ k' c v, Rc l k' s c v → c = 0) : CInv (undoAt l k s).1 P x := by
  obtain ⟨_, hl, hr⟩ := undo_step hc hv h0
  by_cases hs : x.start = s
  · have hno : ¬ (x.phase = 1 ∨ (x.phase = 2 ∧ x.at_ = 0)) := fun hp => by
      have hn := hx.none hp
      rw [hs] at hn
      rcases u0 with ⟨k', p, v, h⟩ | ⟨k', c, v, h⟩
      · exact hn.1 _ _ _ h
      · exact hn.2 _ _ _ h
    refine ⟨fun hp => absurd hp hno, fun hp k' c v h1 => ?_, fun j y hj hp => ?_, hx.prim, fun hp => ?_, fun k' p v h1 => hx.own k' p v ((hl _ _ _ _).1 h1).1⟩
    · rcases (hr _ _ _ _).1 h1 with h1 | ⟨_, _, h2, _⟩
      · exact hx.mild hp _ _ _ h1
      · exact h2
    · rcases hx.held j y hj hp with h1 | ⟨v, h1⟩
      · by_cases hk : y.key = k
        · exact .inr ⟨⟨#[]⟩, (hr _ _ _ _).2 (.inr ⟨hk, hs, rfl, rfl⟩)⟩
        · exact .inl ((hl _ _ _ _).2 ⟨h1, fun e => hk e.1⟩)
      · exact .inr ⟨v, (hr _ _ _ _).2 (.inl h1)⟩
    · obtain ⟨v, h1⟩ := hx.done hp
      rw [hs] at h1
      exact absurd (u1 _ _ _ h1) (hcm hp)
  · refine hx.far (fun k' p v => ?_) (fun k' c v => ?_)
    · rw [hl]
      exact ⟨fun e => e.1, fun e => ⟨e, fun e' => hs e'.2⟩⟩
    · rw [hr]
      exact ⟨fun e => e.elim id fun e' => absurd e'.2.1 hs, .inl⟩

/-! ### committing where the primary says so -/
theorem inv_commit (hc : 0 ≤ clock) (hv : RowsVal clock l) (h : Inv l P D) (h0 : (atRow l k (fun r => commitRow r s cm) (fun r => commitCode r s cm)).2 = 0) (hp : ∃ v, Rc l (P s) s cm v) :
    Inv (atRow l k (fun r => commitRow r s cm) (fun r => commitCode r s cm)).1 P D := by
  obtain ⟨hlt, p0, v0, hk0, hl, hr⟩ := commit_step hv h0
  have hb := lk_bound hc hv hk0
  refine ⟨fun k' s' p v h1 => ?_, fun k' s' c v h1 => ?_, fun d hd => ?_, fun k' s' c v h1 hne => ?_, h.apart⟩
  · obtain ⟨h1, h2⟩ := (hl _ _ _ _).1 h1
    obtain ⟨e, h3⟩ := h.lock _ _ _ _ h1
    refine ⟨e, ?_⟩
    by_cases hk : P s' = k ∧ s' = s
    · exact .inr ⟨cm, v0, (hr _ _ _ _).2 (.inr ⟨hk.1, hk.2, rfl, rfl⟩)⟩
    · rcases h3 with ⟨p', v', h3⟩ | ⟨c, v', h3⟩
      · exact .inl ⟨p', v', (hl _ _ _ _).2 ⟨h3, hk⟩⟩
      · exact .inr ⟨c, v', (hr _ _ _ _).2 (.inl h3)⟩
  · rcases (hr _ _ _ _).1 h1 with h1 | ⟨rfl, rfl, rfl, rfl⟩
    · obtain ⟨v', h2⟩ := h.recs _ _ _ _ h1
      exact ⟨v', (hr _ _ _ _).2 (.inl h2)⟩
    · obtain ⟨v', h2⟩ := hp
      exact ⟨v', (hr _ _ _ _).2 (.inl h2)⟩
  · obtain ⟨a, ⟨v, b⟩, c, e⟩ := h.deal d hd
    refine ⟨a, ⟨v, (hr _ _ _ _).2 (.inl b)⟩, fun y hy => ?_, fun k' p v h1 => e k' p v ((hl _ _ _ _).1 h1).1⟩
    rcases c y hy with ⟨p, h1⟩ | h1
    · by_cases hk : y.key = k ∧ d.start = s
      · refine .inr ((hr _ _ _ _).2 (.inr ⟨hk.1, hk.2, ?_, ?_⟩))
        · obtain ⟨v', h2⟩ := hp
          rw [hk.2] at b
          exact (rc_uniq hc hv b h2).1
        · rw [hk.1, hk.2] at h1
          exact (lk_uniq h1 hk0).2.2
      · exact .inl ⟨p, (hl _ _ _ _).2 ⟨h1, hk⟩⟩
    · exact .inr ((hr _ _ _ _).2 (.inl h1))
  · rcases (hr _ _ _ _).1 h1 with h1 | ⟨rfl, rfl, rfl, rfl⟩
    · exact h.told _ _ _ _ h1 hne
    · obtain ⟨v', h2⟩ := hp
      obtain ⟨d, hd, e1, e2, _⟩ := h.told _ _ _ _ h2 hne
      subst e1 e2
      exact ⟨d, hd, rfl, rfl, (h.deal d hd).2.2.2 _ _ _ hk0⟩

theorem cinv_commit (hv : RowsVal clock l) (hx : CInv l P x) (hph : x.phase = 1 ∨ x.phase = 2 ∨ x.phase = 3 ∨ x.phase = 4) (h0 : (atRow l k (fun r => commitRow r s cm) (fun r => commitCode r s cm)).2 = 0) (hp : ∃ v, Rc l (P s) s cm v) (hne : cm ≠ 0) :
    CInv (atRow l k (fun r => commitRow r s cm) (fun r => commitCode r s cm)).1 P x := by
  obtain ⟨hlt, p0, v0, hk0, hl, hr⟩ := commit_step hv h0
  by_cases hs : x.start = s
  · obtain ⟨v', h2⟩ := hp
    have h4 : x.phase = 4 := by
      rcases hph with h | h | h | h
      · exact absurd (hs ▸ h2) ((hx.none (.inl h)).2 _ _ _)
      · exact absurd (hx.mild (.inl h) _ _ _ (hs ▸ h2)) hne
      · exact absurd (hx.mild (.inr h) _ _ _ (hs ▸ h2)) hne
      · exact h
    refine ⟨fun hp => by omega, fun hp => by omega, fun j y hj hp => by omega, hx.prim, fun hp => ?_, fun k' p v h1 => hx.own k' p v ((hl _ _ _ _).1 h1).1⟩
    obtain ⟨v, h1⟩ := hx.done hp
    exact ⟨v, (hr _ _ _ _).2 (.inl h1)⟩
  · refine hx.far (fun k' p v => ?_) (fun k' c v => ?_)
    · rw [hl]
      exact ⟨fun e => e.1, fun e => ⟨e, fun e' => hs e'.2⟩⟩
    · rw [hr]
      exact ⟨fun e => e.elim id fun e' => absurd e'.2.1 hs, .inl⟩

/-! ### the commit itself: at the primary -/
theorem not_dealt (h : Inv l P D) (hm : ∀ k c v, Rc l k s c v → c = 0) : ∀ d ∈ D, d.start ≠ s := by
  intro d hd e
  obtain ⟨a, ⟨v, b⟩, _, _⟩ := h.deal d hd
  rw [e] at b
  exact a (hm _ _ _ b)
theorem inv_primary (hc : 0 ≤ clock) (hv : RowsVal clock l) (h : Inv l P D) (hx : CInv l P x) (hph : x.phase = 3) (hk : k = P x.start) (h0 : (atRow l k (fun r => commitRow r x.start cm) (fun r => commitCode r x.start cm)).2 = 0) :
    Inv (atRow l k (fun r => commitRow r x.start cm) (fun r => commitCode r x.start cm)).1 P (D ++ [⟨x.start, cm, x.writes⟩]) := by
  obtain ⟨hlt, p0, v0, hk0, hl, hr⟩ := commit_step hv h0
  have hb := lk_bound hc hv hk0
  have hnd := not_dealt h (hx.mild (.inr hph))
  have hlocked : ∀ y ∈ x.writes, Lk l y.key x.start (P x.start) y.value := fun y hy => by
    obtain ⟨j, hj, rfl⟩ := List.mem_iff_getElem.1 hy
    rcases hx.held j _ (List.getElem?_eq_getElem hj) (.inl hph) with h1 | ⟨v, h1⟩
    · exact h1
    · obtain ⟨v', h2⟩ := h.recs _ _ _ _ h1
      rw [← hk] at h2
      exact (lk_rc hc hv hk0 h2).elim
  refine ⟨fun k' s' p v h1 => ?_, fun k' s' c v h1 => ?_, fun d hd => ?_, fun k' s' c v h1 hne => ?_, ?_⟩
  · obtain ⟨h1, h2⟩ := (hl _ _ _ _).1 h1
    obtain ⟨e, h3⟩ := h.lock _ _ _ _ h1
    refine ⟨e, ?_⟩
    by_cases hk' : P s' = k ∧ s' = x.start
    · exact .inr ⟨cm, v0, (hr _ _ _ _).2 (.inr ⟨hk'.1, hk'.2, rfl, rfl⟩)⟩
    · rcases h3 with ⟨p', v', h3⟩ | ⟨c, v', h3⟩
      · exact .inl ⟨p', v', (hl _ _ _ _).2 ⟨h3, hk'⟩⟩
      · exact .inr ⟨c, v', (hr _ _ _ _).2 (.inl h3)⟩
  · rcases (hr _ _ _ _).1 h1 with h1 | ⟨rfl, rfl, rfl, rfl⟩
    · obtain ⟨v', h2⟩ := h.recs _ _ _ _ h1
      exact ⟨v', (hr _ _ _ _).2 (.inl h2)⟩
    · exact ⟨_, (hr _ _ _ _).2 (.inr ⟨hk.symm, rfl, rfl, rfl⟩)⟩
  · rcases List.mem_append.1 hd with hd | hd
    · obtain ⟨a, ⟨v, b⟩, c, e⟩ := h.deal d hd
      have hne := hnd d hd
      refine ⟨a, ⟨v, (hr _ _ _ _).2 (.inl b)⟩, fun y hy => ?_, fun k' p v h1 => e k' p v ((hl _ _ _ _).1 h1).1⟩
      rcases c y hy with ⟨p, h1⟩ | h1
      · exact .inl ⟨p, (hl _ _ _ _).2 ⟨h1, fun h2 => hne h2.2⟩⟩
      · exact .inr ((hr _ _ _ _).2 (.inl h1))
    · obtain rfl := List.mem_singleton.1 hd
      refine ⟨by show cm ≠ 0; omega, ⟨v0, (hr _ _ _ _).2 (.inr ⟨hk.symm, rfl, rfl, rfl⟩)⟩, fun y hy => ?_, fun k' p v h1 => hx.own k' p v ((hl _ _ _ _).1 h1).1⟩
      have h1 := hlocked y hy
      by_cases hyk : y.key = k
      · refine .inr ((hr _ _ _ _).2 (.inr ⟨hyk, rfl, rfl, ?_⟩))
        rw [hyk] at h1
        exact (lk_uniq h1 hk0).2.2
      · exact .inl ⟨_, (hl _ _ _ _).2 ⟨h1, fun e => hyk e.1⟩⟩
  · rcases (hr _ _ _ _).1 h1 with h1 | ⟨rfl, rfl, rfl, rfl⟩
    · obtain ⟨d, hd, e⟩ := h.told _ _ _ _ h1 hne
      exact ⟨d, List.mem_append_left _ hd, e⟩
    · exact ⟨_, List.mem_append_right _ (List.mem_singleton.2 rfl), rfl, rfl, hx.own _ _ _ hk0⟩
  · rw [List.pairwise_append]
    exact ⟨h.apart, by simp, fun d hd e he => by rw [List.mem_singleton.1 he]; exact hnd d hd⟩
theorem commit_far (hv : RowsVal clock l) (hx : CInv l P x) (hs : x.start ≠ s) (h0 : (atRow l k (fun r => commitRow r s cm) (fun r => commitCode r s cm)).2 = 0) : CInv (atRow l k (fun r => commitRow r s cm) (fun r => commitCode r s cm)).1 P x := by
  obtain ⟨hlt, p0, v0, hk0, hl, hr⟩ := commit_step hv h0
  refine hx.far (fun k' p v => ?_) (fun k' c v => ?_)
  · rw [hl]
    exact ⟨fun e => e.1, fun e => ⟨e, fun e' => hs e'.2⟩⟩
  · rw [hr]
    exact ⟨fun e => e.elim id fun e' => absurd e'.2.1 hs, .inl⟩

/-! ### locking -/
def repoint (P : Int → ByteArray) (s : Int) (p : ByteArray) : Int → ByteArray := fun t => if t = s then p else P t
theorem inv_repoint (h : Inv l P D) (hn : NoneOf l s) (p : ByteArray) : Inv l (repoint P s p) D := by
  have hne : ∀ t, t ≠ s → repoint P s p t = P t := fun t ht => if_neg ht
  refine ⟨fun k s' p' v h1 => ?_, fun k s' c v h1 => ?_, fun d hd => ?_, h.told, h.apart⟩
  · rw [hne s' (by rintro rfl; exact hn.1 _ _ _ h1)]; exact h.lock _ _ _ _ h1
  · rw [hne s' (by rintro rfl; exact hn.2 _ _ _ h1)]; exact h.recs _ _ _ _ h1
  · obtain ⟨a, ⟨v, b⟩, c⟩ := h.deal d hd
    rw [hne d.start (by intro e; rw [e] at b; exact hn.2 _ _ _ b)]
    exact ⟨a, ⟨v, b⟩, c⟩
theorem cinv_repoint (hx : CInv l P x) (hs : x.start ≠ s) (p : ByteArray) : CInv l (repoint P s p) x := by
  have hne : repoint P s p x.start = P x.start := if_neg hs
  refine ⟨hx.none, hx.mild, fun j y hj hp => ?_, fun hp => ?_, fun hp => ?_, hx.own⟩
  · rw [hne]; exact hx.held j y hj hp
  · rw [hne]; exact hx.prim hp
  · rw [hne]; exact hx.done hp
theorem inv_lock {p v : ByteArray} (hc : 0 ≤ clock) (hv : RowsVal clock l) (h : Inv l P D) (hp : p = P s) (hm : ∀ k c v, Rc l k s c v → c = 0) (hk : k = p ∨ (∃ p' v', Lk l (P s) s p' v') ∨ ∃ c v', Rc l (P s) s c v')
    (h0 : (atRow l k (fun r => lockRow r s p v) (fun r => lockCode r s p v)).2 = 0) : Inv (atRow l k (fun r => lockRow r s p v) (fun r => lockCode r s p v)).1 P D := by
  obtain ⟨hfree, hnr, hcm, hl, hr⟩ := lock_step hc hv h0
  have hnd := not_dealt h hm
  refine ⟨fun k' s' p' v' h1 => ?_, fun k' s' c v' h1 => ?_, fun d hd => ?_, fun k' s' c v' h1 hne => ?_, h.apart⟩
  · have hold : ∀ t, ((∃ p' v', Lk l (P t) t p' v') ∨ ∃ c v', Rc l (P t) t c v') → ((∃ p' v', Lk (atRow l k (fun r => lockRow r s p v) (fun r => lockCode r s p v)).1 (P t) t p' v') ∨ ∃ c v', Rc (atRow l k (fun r => lockRow r s p v) (fun r => lockCode r s p v)).1 (P t) t c v') := by
      rintro t (⟨p1, v1, h3⟩ | ⟨c, v1, h3⟩)
      · exact .inl ⟨p1, v1, (hl _ _ _ _).2 (.inr h3)⟩
      · exact .inr ⟨c, v1, (hr _ _ _ _).2 h3⟩
    rcases (hl _ _ _ _).1 h1 with ⟨rfl, rfl, rfl, rfl⟩ | h1
    · refine ⟨hp, ?_⟩
      rcases hk with e | hk
      · exact .inl ⟨_, _, (hl _ _ _ _).2 (.inl ⟨(e.trans hp).symm, rfl, rfl, rfl⟩)⟩
      · exact hold _ hk
    · obtain ⟨e, h3⟩ := h.lock _ _ _ _ h1
      exact ⟨e, hold _ h3⟩
  · obtain ⟨v1, h2⟩ := h.recs _ _ _ _ ((hr _ _ _ _).1 h1)
    exact ⟨v1, (hr _ _ _ _).2 h2⟩
  · obtain ⟨a, ⟨v1, b⟩, c, e⟩ := h.deal d hd
    refine ⟨a, ⟨v1, (hr _ _ _ _).2 b⟩, fun y hy => ?_, fun k' p' v' h1 => ?_⟩
    · rcases c y hy with ⟨p1, h1⟩ | h1
      · exact .inl ⟨p1, (hl _ _ _ _).2 (.inr h1)⟩
      · exact .inr ((hr _ _ _ _).2 h1)
    · rcases (hl _ _ _ _).1 h1 with ⟨_, h2, _⟩ | h1
      · exact absurd h2 (hnd d hd)
      · exact e _ _ _ h1
  · exact h.told _ _ _ _ ((hr _ _ _ _).1 h1) hne
theorem lock_far {p v : ByteArray} (hc : 0 ≤ clock) (hv : RowsVal clock l) (hx : CInv l P x) (hs : x.start ≠ s) (h0 : (atRow l k (fun r => lockRow r s p v) (fun r => lockCode r s p v)).2 = 0) : CInv (atRow l k (fun r => lockRow r s p v) (fun r => lockCode r s p v)).1 P x := by
  obtain ⟨hfree, hnr, hcm, hl, hr⟩ := lock_step hc hv h0
  refine hx.far (fun k' p v => ?_) (fun k' c v => ?_)
  · rw [hl]
    exact ⟨fun e => e.elim (fun e' => absurd e'.2.1 hs) id, .inr⟩
  · rw [hr]

/-! ### a client that fails -/
/-- What is so while a failing client's rows are undone, one by one. -/
structure Failing (clock : Int) (l : List MRow) (P : Int → ByteArray) (D : List Deal) (s : Int) : Prop where
  val : RowsVal clock l
  inv : Inv l P D
  mild : ∀ k c v, Rc l k s c v → c = 0
theorem failStep_miss (hv : RowsVal clock l) (ht : timeB s = true) {y : MWrite} (hn : ∀ p v, ¬ Lk l y.key s p v) : failStep s l y = l := by
  unfold failStep
  rw [if_neg]
  intro e
  obtain ⟨p, v, h⟩ := (statusAt_one hv ht).1 e
  exact hn p v h
theorem failStep_hit (hc : 0 ≤ clock) (hs : s ≤ clock) (ht : timeB s = true) {y : MWrite} (h : Failing clock l P D s) (hu : y.key = P s ∨ ∃ v, Rc l (P s) s 0 v) :
    Failing clock (failStep s l y) P D s ∧ ((∃ v, Rc l (P s) s 0 v) → ∃ v, Rc (failStep s l y) (P s) s 0 v) ∧ (∀ x : MClient, CInv l P x → x.start ≠ s → CInv (failStep s l y) P x) ∧
    ((∃ p v, Lk l y.key s p v) → ∃ v, Rc (failStep s l y) y.key s 0 v) := by
  by_cases hst : (statusAt l y.key s).1 = 1
  · have e : failStep s l y = (undoAt l y.key s).1 := by unfold failStep; rw [if_pos hst]
    obtain ⟨p, v, hl0⟩ := (statusAt_one h.val ht).1 hst
    have h0 := undo_lk hc h.val hl0
    obtain ⟨_, hl, hr⟩ := undo_step hc h.val h0
    rw [e]
    refine ⟨⟨undoAt_good hc hs h.val, inv_undo hc h.val h.inv h0 h.mild hu, fun k c v h1 => ?_⟩, fun ⟨v, h1⟩ => ⟨v, (hr _ _ _ _).2 (.inl h1)⟩, fun x hx hne => ?_, fun _ => ⟨_, (hr _ _ _ _).2 (.inr ⟨rfl, rfl, rfl, rfl⟩)⟩⟩
    · rcases (hr _ _ _ _).1 h1 with h1 | ⟨_, _, h2, _⟩
      · exact h.mild _ _ _ h1
      · exact h2
    · refine hx.far (fun k' p v => ?_) (fun k' c v => ?_)
      · rw [hl]; exact ⟨fun e => e.1, fun e => ⟨e, fun e' => hne e'.2⟩⟩
      · rw [hr]; exact ⟨fun e => e.elim id fun e' => absurd e'.2.1 hne, .inl⟩
  · have e : failStep s l y = l := by unfold failStep; rw [if_neg hst]
    rw [e]
    exact ⟨h, id, fun x hx _ => hx, fun ⟨p, v, h1⟩ => absurd ((statusAt_one h.val ht).2 ⟨p, v, h1⟩) hst⟩
theorem fail_rest (hc : 0 ≤ clock) (hs : s ≤ clock) (ht : timeB s = true) : ∀ {ws : List MWrite} {l : List MRow}, Failing clock l P D s → (∃ v, Rc l (P s) s 0 v) →
    Failing clock (failRows l ws s) P D s ∧ (∀ x : MClient, CInv l P x → x.start ≠ s → CInv (failRows l ws s) P x)
  | [], l, h, _ => ⟨h, fun _ hx _ => hx⟩
  | y :: ws, l, h, hr => by
    obtain ⟨h1, h2, h3, _⟩ := failStep_hit hc hs ht (y := y) h (.inr hr)
    obtain ⟨h4, h5⟩ := fail_rest (ws := ws) hc hs ht h1 (h2 hr)
    exact ⟨h4, fun x hx hne => h5 x (h3 x hx hne) hne⟩
theorem fail_none (hv : RowsVal clock l) (ht : timeB s = true) (hn : NoneOf l s) : ∀ {ws : List MWrite}, failRows l ws s = l
  | [] => rfl
  | y :: ws => by
    show failRows (failStep s l y) ws s = l
    rw [failStep_miss hv ht fun p v => hn.1 _ _ _]
    exact fail_none hv ht hn
theorem fail_inv (hc : 0 ≤ clock) (hv : RowsVal clock l) (h : Inv l P D) (hx : CInv l P x) (hb : Busy x clock) (hm : timeB x.start = true) (hph : x.phase = 2 ∨ x.phase = 3) (hn : 0 < x.writes.length) :
    Inv (failRows l x.writes x.start) P D ∧ ∀ y : MClient, CInv l P y → y.start ≠ x.start → CInv (failRows l x.writes x.start) P y := by
  by_cases h0 : x.phase = 2 ∧ x.at_ = 0
  · rw [fail_none hv hm (hx.none (.inr h0))]
    exact ⟨h, fun _ hy _ => hy⟩
  · have hpr : x.phase = 3 ∨ (x.phase = 2 ∧ 0 < x.at_) := by
      have := hb.phase
      omega
    have hP := hx.prim (by omega)
    have hheld := hx.held 0
    have hfail : Failing clock l P D x.start := ⟨hv, h, hx.mild hph⟩
    match hw : x.writes, hn with
    | y :: ws, _ =>
      have hy : (writeNo x 0) = y := by unfold writeNo; rw [hw]; rfl
      rw [hy] at hP
      obtain ⟨h1, h2, h3, h4⟩ := failStep_hit hc hb.start.2 hm (y := y) hfail (.inl hP.symm)
      have hr0 : ∃ v, Rc (failStep x.start l y) (P x.start) x.start 0 v := by
        rcases hheld y (by rw [hw]; rfl) (by omega) with h5 | ⟨v, h5⟩
        · rw [hP]; exact h4 ⟨_, _, h5⟩
        · exact h2 ⟨v, by rw [hP]; exact h5⟩
      obtain ⟨h6, h7⟩ := fail_rest (ws := ws) hc hb.start.2 hm h1 hr0
      exact ⟨h6.inv, fun z hz hne => h7 z (h3 z hz hne) hne⟩
end
end Go.Proofs.YtniomgngiiiklabDoor
