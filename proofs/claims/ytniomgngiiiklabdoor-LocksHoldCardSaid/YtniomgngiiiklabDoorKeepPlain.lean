/- What locking, committing and undoing do to what a row says, in plain words: for keep's laws of one row. -/
import Derived.Test.YtniomgngiiiklabDoorTop
namespace Go.Proofs.YtniomgngiiiklabDoor
open Go.RowKit

section
variable {r : MRow} {s t cm : Int} {p v : ByteArray} {n : Nat}

/-- A row to which few early things were done. -/
def Early (r : MRow) (n : Nat) : Prop := r.recs.length ≤ n ∧ (∀ x ∈ r.recs, x.start ≤ 30 ∧ x.commit ≤ 40) ∧ r.ls ≤ 30
theorem Early.mono {m : Nat} (h : Early r n) (hm : n ≤ m) : Early r m := ⟨Nat.le_trans h.1 hm, h.2⟩
theorem early_with {x : MRec} (h : Early r n) (hs : x.start ≤ 30) (hc : x.commit ≤ 40) : Early (withF r x) (n + 1) := by
  refine ⟨?_, ?_, ?_⟩
  · rw [withF_recs, length_insRecs]; have := h.1; omega
  · rw [withF_recs]; intro y hy
    rcases mem_insRecs.1 hy with rfl | hy
    · exact ⟨hs, hc⟩
    · exact h.2.1 y hy
  · unfold withF; split
    · show (0 : Int) ≤ 30; omega
    · exact h.2.2
theorem early_lock (h : Early r n) (hs : s ≤ 30) (h0 : lockCode r s p v = 0) : Early (lockRow r s p v) (n + 1) := by
  rw [(lockRow_good h0).2]
  exact ⟨Nat.le_succ_of_le h.1, h.2.1, hs⟩
theorem early_commit (h : Early r n) (hs : s ≤ 30) (hc : cm ≤ 40) (h0 : commitCode r s cm = 0) : Early (commitRow r s cm) (n + 1) := by
  rw [(commitRow_good h0).2]; exact early_with h hs hc
theorem early_undo (h : Early r n) (hs : s ≤ 30) (h0 : undoCode r s = 0) : Early (undoRow r s) (n + 1) := by
  obtain ⟨_, _, hc⟩ := undoCode_ok h0
  rcases hc with ⟨_, e⟩ | ⟨e, _⟩
  · rw [e]; exact h.mono (Nat.le_succ _)
  · rw [e]; exact early_with h hs (by show (0 : Int) ≤ 40; omega)

theorem lock_fail (hg : RowGood r) (he : Early r 40) (ht : timeB s = true) (hp : keyB p = true) (hv : v.size ≤ 20) (h : lockCode r s p v ≠ 0) :
    (statusF r s).2.2 = 0 ∧ (((statusF r s).1 = 3 ∧ lockCode r s p v = 9) ∨ ((r.recs.any fun x => decide (s < x.commit)) = true ∧ lockCode r s p v = 8) ∨ (r.ls ≠ 0 ∧ lockCode r s p v = 7)) := by
  have h1 : (statusF r s).2.2 = 0 := by
    rw [statusF_of (rowB_iff.2 hg) ht]; split
    · rfl
    · split
      · rfl
      · split <;> rfl
  refine ⟨h1, ?_⟩
  have hlen := he.1
  have e1 : ¬ (statusF r s).2.2 ≠ 0 := by rw [h1]; simp
  have e2 : ¬ keyB p = false := by rw [hp]; simp
  have e3 : ¬ 20 < v.size := by omega
  have e4 : ¬ r.recs.length = 100 := by omega
  by_cases h3 : (statusF r s).1 = 3
  · exact .inl ⟨h3, by unfold lockCode; rw [if_neg e1, if_neg e2, if_neg e3, if_pos h3]⟩
  by_cases h4 : (statusF r s).1 = 2 ∨ (r.recs.any fun x => decide (s < x.commit)) = true
  · refine .inr (.inl ⟨?_, by unfold lockCode; rw [if_neg e1, if_neg e2, if_neg e3, if_neg h3, if_pos h4]⟩)
    rcases h4 with h4 | h4
    · obtain ⟨_, x, hx, hx0, _⟩ := status_two h4
      obtain ⟨hm, hs⟩ := recFind_mem hx
      have := ((hg.recs.1 x hm).2.2.2.2 hx0).1
      exact List.any_eq_true.2 ⟨x, hm, by simp; omega⟩
    · exact h4
  by_cases h5 : r.ls ≠ 0
  · exact .inr (.inr ⟨h5, by unfold lockCode; rw [if_neg e1, if_neg e2, if_neg e3, if_neg h3, if_neg h4, if_pos h5]⟩)
  · exact absurd (by unfold lockCode; rw [if_neg e1, if_neg e2, if_neg e3, if_neg h3, if_neg h4, if_neg h5, if_neg e4]) h

theorem recFind_far (h : ∀ x ∈ r.recs, x.start ≠ s) : recFind r.recs s = none := by
  unfold recFind; rw [List.find?_eq_none]; intro x hx; simpa using h x hx

/-! ### a row that was locked -/
theorem locked_status (h0 : lockCode r s p v = 0) : statusF (lockRow r s p v) s = (1, 0, 0) := by
  obtain ⟨hg, he⟩ := lockRow_good h0
  rw [statusF_of (rowB_iff.2 hg) (lockCode_ok h0).2.1, if_pos (by rw [he])]
theorem locked_again {q u : ByteArray} (he : Early r 40) (h0 : lockCode r s p v = 0) (h1 : 100 ≤ t) (h2 : t ≤ 1000) (hs : s ≤ 60) (hq : keyB q = true) (hu : u.size ≤ 20) : lockCode (lockRow r s p v) t q u = 7 := by
  obtain ⟨hg, hr⟩ := lockRow_good h0
  have hlk := lockCode_ok h0
  have ht : timeB t = true := timeB_of (by omega) (by omega)
  have hb := timeB_bounds hlk.2.1
  have hst : statusF (lockRow r s p v) t = (0, 0, 0) := by
    rw [statusF_of (rowB_iff.2 hg) ht, if_neg (by rw [hr]; show ¬ s = t; omega), recFind_far (fun x hx => by rw [hr] at hx; have := (he.2.1 x hx).1; omega)]
  unfold lockCode
  rw [hst]
  have e4 : ¬ ((0 : Int) = 2 ∨ ((lockRow r s p v).recs.any fun x => decide (t < x.commit)) = true) := by
    rintro (h | h)
    · omega
    · obtain ⟨x, hx, hd⟩ := List.any_eq_true.1 h
      rw [hr] at hx; have := (he.2.1 x hx).2; simp at hd; omega
  rw [if_neg (by simp), if_neg (by rw [hq]; simp), if_neg (by omega), if_neg (by simp), if_neg e4, if_pos (by rw [hr]; show s ≠ 0; omega)]
theorem locked_commit (h0 : lockCode r s p v = 0) (h1 : s < cm) (h2 : cm ≤ 1099511627776) : commitCode (lockRow r s p v) s cm = 0 := by
  obtain ⟨hg, hr⟩ := lockRow_good h0
  exact commitCode_mk (rowB_iff.2 hg) (lockCode_ok h0).2.1 h1 h2 (by rw [hr])
theorem locked_undo (h0 : lockCode r s p v = 0) : undoCode (lockRow r s p v) s = 0 := by
  unfold undoCode; rw [locked_status h0]; simp

theorem lastHit_split (l k : List MRec) (x : MRec) (t : Int) : lastHit (l ++ x :: k) t = if (lastHit k t).isSome then lastHit k t else if hitB t x then some x else lastHit l t := by
  unfold lastHit
  rw [List.reverse_append, List.reverse_cons, List.append_assoc, List.find?_append]
  cases h : k.reverse.find? (hitB t) with
  | some y => simp
  | none => simp [List.find?_cons]; cases hitB t x <;> simp
theorem lastHit_app (l k : List MRec) (t : Int) : lastHit (l ++ k) t = if (lastHit k t).isSome then lastHit k t else lastHit l t := by
  unfold lastHit
  rw [List.reverse_append, List.find?_append]
  cases h : k.reverse.find? (hitB t) with
  | some y => simp
  | none => simp
theorem lastHit_ins {l : List MRec} {x : MRec} (h : hitB t x = false) : lastHit (insRecs l x) t = lastHit l t := by
  unfold insRecs
  rw [lastHit_split, h]
  conv => rhs; rw [← List.take_append_drop (insAt l x) l, lastHit_app]
  simp

theorem readF_mk (hg : RowGood r) (ht : timeB t = true) (hl : ¬ (r.ls ≠ 0 ∧ r.ls ≤ t)) : readF r t = hitRes (lastHit r.recs t) := by
  unfold readF; rw [if_pos (rowB_iff.2 hg), if_pos ht, if_neg hl]
theorem readF_ok (h : (readF r t).2.2 = 0) : RowGood r ∧ timeB t = true ∧ ¬ (r.ls ≠ 0 ∧ r.ls ≤ t) := by
  unfold readF at h
  split at h
  · rename_i hr
    split at h
    · rename_i ht
      split at h
      · simp at h
      · rename_i hl; exact ⟨rowB_iff.1 hr, ht, hl⟩
    · simp at h
  · simp at h
theorem hitRes_code (o : Option MRec) : (hitRes o).2.2 = 0 := by cases o <;> rfl

theorem locked_read (h0 : lockCode r s p v = 0) (ht : timeB t = true) (h1 : t < s) : readF (lockRow r s p v) t = readF r t := by
  obtain ⟨hg, hr⟩ := lockRow_good h0
  have hlk := lockCode_ok h0
  rw [readF_mk hg ht (by rw [hr]; show ¬ (s ≠ 0 ∧ s ≤ t); omega), readF_mk (rowB_iff.1 hlk.1) ht (by rw [hlk.2.2.2.2.2.1]; simp), hr]
theorem locked_busy (h0 : lockCode r s p v = 0) (ht : timeB t = true) (h1 : s ≤ t) : (readF (lockRow r s p v) t).2.2 = 7 := by
  obtain ⟨hg, hr⟩ := lockRow_good h0
  have hb := timeB_bounds (lockCode_ok h0).2.1
  unfold readF
  rw [if_pos (rowB_iff.2 hg), if_pos ht, if_pos (by rw [hr]; show s ≠ 0 ∧ s ≤ t; omega)]
theorem committed_eq (h0 : lockCode r s p v = 0) (h1 : s < cm) (h2 : cm ≤ 1099511627776) : RowGood (commitRow (lockRow r s p v) s cm) ∧ (commitRow (lockRow r s p v) s cm).ls = 0 ∧ (commitRow (lockRow r s p v) s cm).recs = insRecs r.recs ⟨s, cm, v⟩ := by
  obtain ⟨hg, hr⟩ := lockRow_good h0
  obtain ⟨hg2, hr2⟩ := commitRow_good (locked_commit h0 h1 h2)
  refine ⟨hg2, ?_, ?_⟩
  · rw [hr2]; unfold withF; rw [if_pos (by rw [hr])]
  · rw [hr2, withF_recs, hr]
theorem committed_read (h0 : lockCode r s p v = 0) (h1 : s < cm) (h2 : cm ≤ 1099511627776) (ht : timeB t = true) (h3 : t < s) : readF (commitRow (lockRow r s p v) s cm) t = readF r t := by
  have hlk := lockCode_ok h0
  obtain ⟨hg, hl, hrec⟩ := committed_eq h0 h1 h2
  rw [readF_mk hg ht (by rw [hl]; simp), readF_mk (rowB_iff.1 hlk.1) ht (by rw [hlk.2.2.2.2.2.1]; simp), hrec, lastHit_ins (by unfold hitB; simp; intro _; omega)]
theorem committed_now (h0 : lockCode r s p v = 0) (h1 : s < cm) (h2 : cm ≤ 1099511627776) : readF (commitRow (lockRow r s p v) s cm) cm = (v, true, 0) := by
  have hlk := lockCode_ok h0
  have hb := timeB_bounds hlk.2.1
  obtain ⟨hg, hl, hrec⟩ := committed_eq h0 h1 h2
  rw [readF_mk hg (timeB_of (by omega) h2) (by rw [hl]; simp)]
  obtain ⟨hn, hs⟩ := lastHit_spec (t := cm) hg.recs
  have hm : (⟨s, cm, v⟩ : MRec) ∈ (commitRow (lockRow r s p v) s cm).recs := by rw [hrec]; exact mem_insRecs.2 (.inl rfl)
  cases hh : lastHit (commitRow (lockRow r s p v) s cm).recs cm with
  | none => exact absurd (Int.le_refl cm) (hn hh _ hm (by show cm ≠ 0; omega))
  | some x =>
    obtain ⟨hx, hx0, hxc, hall⟩ := hs x hh
    rcases hall _ hm (by show cm ≠ 0; omega) (Int.le_refl cm) with e | hlt
    · rw [← e]; rfl
    · have : cm < x.commit := hlt
      omega
theorem committed_undo (h0 : lockCode r s p v = 0) (h1 : s < cm) (h2 : cm ≤ 1099511627776) : undoCode (commitRow (lockRow r s p v) s cm) s = 6 := by
  have hlk := lockCode_ok h0
  have hb := timeB_bounds hlk.2.1
  obtain ⟨hg, hl, hrec⟩ := committed_eq h0 h1 h2
  have hm : (⟨s, cm, v⟩ : MRec) ∈ (commitRow (lockRow r s p v) s cm).recs := by rw [hrec]; exact mem_insRecs.2 (.inl rfl)
  have hst : statusF (commitRow (lockRow r s p v) s cm) s = (2, cm, 0) := by
    have := recFind_of_mem hg.recs.2 hm
    rw [statusF_of (rowB_iff.2 hg) hlk.2.1, if_neg (by rw [hl]; omega)]
    rw [show recFind (commitRow (lockRow r s p v) s cm).recs s = some ⟨s, cm, v⟩ from this]
    show (if cm = 0 then _ else _) = _
    rw [if_neg (by omega)]
  unfold undoCode; rw [hst]; simp

/-! ### a row that was undone -/
theorem undone_eq (h0 : undoCode r s = 0) : RowGood (undoRow r s) ∧ statusF (undoRow r s) s = (3, 0, 0) := by
  have hg := undoRow_good h0
  obtain ⟨hr, ht, hc⟩ := undoCode_ok h0
  have hb := timeB_bounds ht
  refine ⟨hg, ?_⟩
  have hmk : ∀ x : MRec, x ∈ (undoRow r s).recs → x.start = s → x.commit = 0 → (undoRow r s).ls ≠ s → statusF (undoRow r s) s = (3, 0, 0) := by
    intro x hx hs0 hc0 hls
    have := recFind_of_mem hg.recs.2 hx
    rw [hs0] at this
    rw [statusF_of (rowB_iff.2 hg) ht, if_neg hls, this]
    show (if x.commit = 0 then _ else _) = _
    rw [if_pos hc0]
  rcases hc with ⟨h3, e⟩ | ⟨e, hf, _⟩
  · obtain ⟨hls, x, hx, hx0⟩ := status_three h3
    obtain ⟨hm, hxs⟩ := recFind_mem hx
    exact hmk x (by rw [e]; exact hm) hxs hx0 (by rw [e]; exact hls)
  · refine hmk ⟨s, 0, ⟨#[]⟩⟩ (by rw [e, withF_recs]; exact mem_insRecs.2 (.inl rfl)) rfl rfl ?_
    rw [e]; unfold withF; split
    · show (0 : Int) ≠ s; omega
    · rename_i h; exact h
theorem undone_undo (h0 : undoCode r s = 0) : undoCode (undoRow r s) s = 0 ∧ undoRow (undoRow r s) s = undoRow r s := by
  obtain ⟨hg, hst⟩ := undone_eq h0
  have h1 : undoCode (undoRow r s) s = 0 := by unfold undoCode; rw [hst]; simp
  refine ⟨h1, ?_⟩
  have e : ∀ q : MRow, undoCode q s = 0 → (statusF q s).1 = 3 → undoRow q s = q := fun q hq h3 => by unfold undoRow; rw [if_pos hq, if_pos h3]
  exact e _ h1 (by rw [hst])
theorem undone_lock {q u : ByteArray} (h0 : undoCode r s = 0) (hq : keyB q = true) (hu : u.size ≤ 20) : lockCode (undoRow r s) s q u = 9 := by
  obtain ⟨hg, hst⟩ := undone_eq h0
  unfold lockCode; rw [hst, if_neg (by simp), if_neg (by rw [hq]; simp), if_neg (by omega), if_pos (by rfl)]
theorem undone_commit (h0 : undoCode r s = 0) (h1 : s < cm) (h2 : cm ≤ 1099511627776) : commitCode (undoRow r s) s cm = 9 := by
  obtain ⟨hg, hst⟩ := undone_eq h0
  unfold commitCode; rw [hst, if_neg (by simp), if_neg (by omega), if_pos (by rfl)]
theorem undone_read (h0 : undoCode r s = 0) (h1 : (readF r t).2.2 = 0) : readF (undoRow r s) t = readF r t := by
  obtain ⟨hg, ht, hl⟩ := readF_ok h1
  obtain ⟨_, _, hc⟩ := undoCode_ok h0
  rcases hc with ⟨h3, e⟩ | ⟨e, hf, _⟩
  · rw [e]
  · rw [readF_mk (undoRow_good h0) ht ?_, readF_mk hg ht hl, e, withF_recs, lastHit_ins (by rfl)]
    rw [e]; unfold withF; split
    · show ¬ ((0 : Int) ≠ 0 ∧ _); simp
    · exact hl
theorem undo_fail (hg : RowGood r) (he : Early r 40) (ht : timeB s = true) (h : undoCode r s ≠ 0) : (statusF r s).1 = 2 ∧ undoCode r s = 6 := by
  have h1 : (statusF r s).2.2 = 0 := by
    rw [statusF_of (rowB_iff.2 hg) ht]; split
    · rfl
    · split
      · rfl
      · split <;> rfl
  have hlen := he.1
  by_cases h2 : (statusF r s).1 = 2
  · exact ⟨h2, by unfold undoCode; rw [if_neg (by rw [h1]; simp), if_pos h2]⟩
  · exfalso; apply h
    unfold undoCode
    rw [if_neg (by rw [h1]; simp), if_neg h2]
    split
    · rfl
    · rw [if_neg (by omega)]
end
end Go.Proofs.YtniomgngiiiklabDoor
