/- The walk of row.Undo. -/
import Derived.Test.YtniomgngiiiklabDoorCommit
namespace Go.Proofs.YtniomgngiiiklabDoor
open Go.RowKit

theorem fullB (s1 : Int) (ls : Int) (n : Nat) : (s1 = 0 ∧ (n = 100 ∨ (ls ≠ 0 ∧ n = 99))) ∨ (s1 ≠ 0) ∨ (s1 = 0 ∧ n ≠ 100 ∧ (ls = 0 ∨ (ls ≠ 0 ∧ n ≠ 99))) := by omega

set_option maxRecDepth 100000 in
set_option maxHeartbeats 8000000 in
theorem undo_any (r : MRow) (st : Int) (A : Option Addr) (n c : Nat) (w : World) (h : RowOk w w.heap.size r A n c) :
    Calls Tryd.prog 23 #[.agg #[.string r.key, .int .i64 r.ls, .string r.lp, .string r.value, .slice A n c], .int .i64 st] w (RowRet w (undoRow r st) (undoCode r st)) := by
  have HR := Lib.hid h
  have hsm := h.recs.small
  have Hn := Lib.hid h.recs.at_.1
  have Hm : Hid (n ≤ maxLen) := by show _ ≤ _; unfold maxLen; omega
  have HG : Hid ((statusF r st).2.2 = 0 → n ≤ 100) := fun h0 => by
    have := (rowB_iff.1 (statusF_good h0).1).len
    rw [Hn.out] at this; exact this
  clear h
  go_enter Tryd.func23, Tryd.ntmps23
  go_wp2_with fail
  have hb0 := (((Below.refl w.heap.size w).alloc (Nat.le_refl _) (.cells #[.string r.key, .int .i64 r.ls, .string r.lp, .string r.value, .slice A n c] 27)).alloc (by simp) (.cells #[.string ⟨#[]⟩, .int .i64 0, .string ⟨#[]⟩, .string ⟨#[]⟩, .slice none 0 0] 27))
  refine (status_any r st A n c _ ((HR.out.recs.at_.below hb0 (Nat.le_refl _)).more (by simp; omega)) Hm.out).mono ?_
  rintro e w1 ⟨rfl, hb⟩
  have HL := Lib.hid (hb0.trans (hb.mono (by simp; omega)))
  have HB0 := Lib.hid (blk_keep hb (g := w.heap.size) (blk_old (blk_new w _ _) _) (by simp; omega))
  have HB1 := Lib.hid (blk_keep hb (g := w.heap.size + 1) (blk_new_at (w.alloc _) _ _ (by simp)) (by simp))
  clear hb hb0
  have hz := blk_lt HB1.out
  try clear hc0 hf0
  obtain ⟨hc0, hf0⟩ := blk_read HB0.out
  try clear hc1 hf1
  obtain ⟨hc1, hf1⟩ := blk_read HB1.out
  obtain ⟨hs1, hs2⟩ := statusF_bounds r st
  generalize hstat : statusF r st = stt at hs1 hs2
  obtain ⟨s1, s2, s3⟩ := stt
  have HS := Lib.hid hstat
  clear hstat
  unfold stVal
  dsimp only at hs1 hs2 ⊢
  by_cases h3 : s3 = 0
  rotate_left
  · have HF : Hid (undoCode r st = s3) := by show _ = _; unfold undoCode; rw [HS.out]; exact if_pos h3
    have e3 : (s3 != 0) = true := by simpa using h3
    have HZ : Hid (undoRow r st = zeroRow) := by show _ = _; unfold undoRow; rw [HF.out, if_neg h3]
    clear h3 hs1 hs2
    go_wp2_with fail
    refine bodyPost_ret (v := .tuple #[.agg #[.string ⟨#[]⟩, .int .i64 0, .string ⟨#[]⟩, .string ⟨#[]⟩, .slice none 0 0], .int .i64 s3]) (by simp [results, Tryd.results23, go_sem, hc1]) rfl ?_
    rw [HF.out, HZ.out]
    exact rowRet_zero (below_row5 HL.out (by omega) _ _ _ _ _)
  subst h3
  have hn100 : n ≤ 100 := HG.out (by rw [HS.out])
  clear hs2
  by_cases hg2 : s1 = 2
  · subst hg2
    have HF : Hid (undoCode r st = 6) := by show _ = _; unfold undoCode; rw [HS.out]; simp
    have HZ : Hid (undoRow r st = zeroRow) := by show _ = _; unfold undoRow; rw [HF.out]; exact if_neg (by decide)
    clear hs1
    go_wp2_with fail
    refine bodyPost_ret (v := .tuple #[.agg #[.string ⟨#[]⟩, .int .i64 0, .string ⟨#[]⟩, .string ⟨#[]⟩, .slice none 0 0], .int .i64 6]) (by simp [results, Tryd.results23, go_sem, hc1]) rfl ?_
    rw [HF.out, HZ.out]
    exact rowRet_zero (below_row5 HL.out (by omega) _ _ _ _ _)
  have e2 : (s1 == 2) = false := by simpa using hg2
  by_cases hg3 : s1 = 3
  · subst hg3
    have HF : Hid (undoCode r st = 0) := by show _ = _; unfold undoCode; rw [HS.out]; simp
    have HZ : Hid (undoRow r st = r) := by show _ = _; unfold undoRow; rw [HF.out, HS.out]; simp
    clear hs1 hg2
    go_wp2_with fail
    refine (rowCopy_any r A n c w1 ((HR.out.below HL.out (Nat.le_refl _)).more HL.out.size)).mono ?_
    rintro e w2 ⟨A2, c2, rfl, hown, hb⟩
    have HO := Lib.hid (own_more (base' := w.heap.size) hown HL.out.size)
    clear hown
    first | have hold := old0 HL hb (by first | exact Nat.le_refl _ | (simp; done) | (simp; omega)) | have hold := old1 HL hb (by first | exact Nat.le_refl _ | (simp; done) | (simp; omega)) | have hold := old2 HL hb (by first | exact Nat.le_refl _ | (simp; done) | (simp; omega)) | have hold := old3 HL hb (by first | exact Nat.le_refl _ | (simp; done) | (simp; omega))
    replace HB0 := hold.blk HB0
    replace HB1 := hold.blk HB1
    first | replace HL := keepL0 HL hb (by first | exact Nat.le_refl _ | (have := HL.out.size; omega) | (have := HL.out.size; simp at this; omega)) (by first | exact Nat.le_refl _ | (simp; done) | (simp; omega)) | replace HL := keepL1 HL hb (by first | exact Nat.le_refl _ | (have := HL.out.size; omega) | (have := HL.out.size; simp at this; omega)) (by first | exact Nat.le_refl _ | (simp; done) | (simp; omega)) | replace HL := keepL2 HL hb (by first | exact Nat.le_refl _ | (have := HL.out.size; omega) | (have := HL.out.size; simp at this; omega)) (by first | exact Nat.le_refl _ | (simp; done) | (simp; omega)) | replace HL := keepL3 HL hb (by first | exact Nat.le_refl _ | (have := HL.out.size; omega) | (have := HL.out.size; simp at this; omega)) (by first | exact Nat.le_refl _ | (simp; done) | (simp; omega))
    clear hb hold
    try clear hc0 hf0
    obtain ⟨hc0, hf0⟩ := blk_read HB0.out
    try clear hc1 hf1
    obtain ⟨hc1, hf1⟩ := blk_read HB1.out
    have hz := blk_lt HB1.out
    go_wp2_with fail
    refine bodyPost_ret (v := .tuple #[.agg #[.string r.key, .int .i64 r.ls, .string r.lp, .string r.value, .slice A2 n c2], .int .i64 0]) (by simp [results, Tryd.results23, go_sem, hc1]) rfl ?_
    rw [HF.out, HZ.out]
    refine ⟨A2, c2, by rw [Hn.out], ?_, below_row5 HL.out (by omega) _ _ _ _ _⟩
    rw [Hn.out]
    exact own_row5_far HO.out (own_ne HO.out HB1.out (by decide)) _ _ _ _ _
  have e3 : (s1 == 3) = false := by simpa using hg3
  have HG3 := Lib.hid hg3
  have HG2 := Lib.hid hg2
  clear hg3 hg2
  rcases fullB s1 r.ls n with hfull | hrest
  · have HF : Hid (undoCode r st = 1) := by show _ = _; unfold undoCode; rw [HS.out, Hn.out]; simp only [HG2.out, HG3.out]; simp; exact ⟨hfull.1, fun h => by omega⟩
    have HZ : Hid (undoRow r st = zeroRow) := by show _ = _; unfold undoRow; rw [HF.out]; exact if_neg (by decide)
    obtain ⟨h0, hf⟩ := hfull
    have e0 : (s1 == 0) = true := by simpa using h0
    have HH0 := Lib.hid h0
    clear hs1 h0
    by_cases hn : n = 100
    · have en : ((n : Int) == 100) = true := by simp; omega
      clear hf hn
      go_wp2_with fail
      refine bodyPost_ret (v := .tuple #[.agg #[.string ⟨#[]⟩, .int .i64 0, .string ⟨#[]⟩, .string ⟨#[]⟩, .slice none 0 0], .int .i64 1]) (by simp [results, Tryd.results23, go_sem, hc1]) rfl ?_
      rw [HF.out, HZ.out]
      exact rowRet_zero (below_row5 HL.out (by omega) _ _ _ _ _)
    · have en : ((n : Int) == 100) = false := by simp; omega
      have el : (r.ls != 0) = true := by simp; omega
      have en9 : ((n : Int) == 99) = true := by simp; omega
      clear hf hn
      go_wp2_with fail
      refine bodyPost_ret (v := .tuple #[.agg #[.string ⟨#[]⟩, .int .i64 0, .string ⟨#[]⟩, .string ⟨#[]⟩, .slice none 0 0], .int .i64 1]) (by simp [results, Tryd.results23, go_sem, hc1]) rfl ?_
      rw [HF.out, HZ.out]
      exact rowRet_zero (below_row5 HL.out (by omega) _ _ _ _ _)
  have HF : Hid (undoCode r st = 0) := by show _ = _; unfold undoCode; rw [HS.out, Hn.out]; simp only [HG2.out, HG3.out]; rw [if_neg (by omega), if_neg (by simp), if_neg (by simp), if_neg (by omega)]
  have HZ : Hid (undoRow r st = withF r ⟨st, 0, ⟨#[]⟩⟩) := by show _ = _; unfold undoRow; rw [HF.out, HS.out]; simp [HG3.out]
  have hs99 : (n + 1) * 32 ≤ 140737488351232 := by omega
  clear hs1 hn100
  rcases hrest with h0 | ⟨h0, hn, hl⟩
  · have e0 : (s1 == 0) = false := by simpa using h0
    clear h0
    go_wp2_with fail
    refine (with_any r ⟨st, 0, ⟨#[]⟩⟩ A n c w1 ((HR.out.below HL.out (Nat.le_refl _)).more HL.out.size) hs99).mono ?_
    rintro e w2 ⟨A2, c2, rfl, hown, hb⟩
    have HO := Lib.hid (own_more (base' := w.heap.size) hown HL.out.size)
    clear hown
    first | have hold := old0 HL hb (by first | exact Nat.le_refl _ | (simp; done) | (simp; omega)) | have hold := old1 HL hb (by first | exact Nat.le_refl _ | (simp; done) | (simp; omega)) | have hold := old2 HL hb (by first | exact Nat.le_refl _ | (simp; done) | (simp; omega)) | have hold := old3 HL hb (by first | exact Nat.le_refl _ | (simp; done) | (simp; omega))
    replace HB0 := hold.blk HB0
    replace HB1 := hold.blk HB1
    first | replace HL := keepL0 HL hb (by first | exact Nat.le_refl _ | (have := HL.out.size; omega) | (have := HL.out.size; simp at this; omega)) (by first | exact Nat.le_refl _ | (simp; done) | (simp; omega)) | replace HL := keepL1 HL hb (by first | exact Nat.le_refl _ | (have := HL.out.size; omega) | (have := HL.out.size; simp at this; omega)) (by first | exact Nat.le_refl _ | (simp; done) | (simp; omega)) | replace HL := keepL2 HL hb (by first | exact Nat.le_refl _ | (have := HL.out.size; omega) | (have := HL.out.size; simp at this; omega)) (by first | exact Nat.le_refl _ | (simp; done) | (simp; omega)) | replace HL := keepL3 HL hb (by first | exact Nat.le_refl _ | (have := HL.out.size; omega) | (have := HL.out.size; simp at this; omega)) (by first | exact Nat.le_refl _ | (simp; done) | (simp; omega))
    clear hb hold
    try clear hc0 hf0
    obtain ⟨hc0, hf0⟩ := blk_read HB0.out
    try clear hc1 hf1
    obtain ⟨hc1, hf1⟩ := blk_read HB1.out
    have hz := blk_lt HB1.out
    go_wp2_with fail
    refine bodyPost_ret (v := .tuple #[.agg #[.string r.key, .int .i64 (withF r ⟨st, 0, ⟨#[]⟩⟩).ls, .string (withF r ⟨st, 0, ⟨#[]⟩⟩).lp, .string (withF r ⟨st, 0, ⟨#[]⟩⟩).value, .slice A2 (n + 1) c2], .int .i64 0]) (by simp [results, Tryd.results23, go_sem, hc1]) rfl ?_
    rw [HF.out, HZ.out]
    exact rowRet_with Hn.out (own_row5_far HO.out (own_ne HO.out HB1.out (by decide)) _ _ _ _ _) (below_row5 HL.out (by omega) _ _ _ _ _)
  · have e0 : (s1 == 0) = true := by simpa using h0
    have en : ((n : Int) == 100) = false := by simp; omega
    clear h0 hn
    rcases hl with hl | ⟨hl, hn9⟩
    · have el : (r.ls != 0) = false := by simpa using hl
      clear hl
      go_wp2_with fail
      refine (with_any r ⟨st, 0, ⟨#[]⟩⟩ A n c w1 ((HR.out.below HL.out (Nat.le_refl _)).more HL.out.size) hs99).mono ?_
      rintro e w2 ⟨A2, c2, rfl, hown, hb⟩
      have HO := Lib.hid (own_more (base' := w.heap.size) hown HL.out.size)
      clear hown
      first | have hold := old0 HL hb (by first | exact Nat.le_refl _ | (simp; done) | (simp; omega)) | have hold := old1 HL hb (by first | exact Nat.le_refl _ | (simp; done) | (simp; omega)) | have hold := old2 HL hb (by first | exact Nat.le_refl _ | (simp; done) | (simp; omega)) | have hold := old3 HL hb (by first | exact Nat.le_refl _ | (simp; done) | (simp; omega))
      replace HB0 := hold.blk HB0
      replace HB1 := hold.blk HB1
      first | replace HL := keepL0 HL hb (by first | exact Nat.le_refl _ | (have := HL.out.size; omega) | (have := HL.out.size; simp at this; omega)) (by first | exact Nat.le_refl _ | (simp; done) | (simp; omega)) | replace HL := keepL1 HL hb (by first | exact Nat.le_refl _ | (have := HL.out.size; omega) | (have := HL.out.size; simp at this; omega)) (by first | exact Nat.le_refl _ | (simp; done) | (simp; omega)) | replace HL := keepL2 HL hb (by first | exact Nat.le_refl _ | (have := HL.out.size; omega) | (have := HL.out.size; simp at this; omega)) (by first | exact Nat.le_refl _ | (simp; done) | (simp; omega)) | replace HL := keepL3 HL hb (by first | exact Nat.le_refl _ | (have := HL.out.size; omega) | (have := HL.out.size; simp at this; omega)) (by first | exact Nat.le_refl _ | (simp; done) | (simp; omega))
      clear hb hold
      try clear hc0 hf0
      obtain ⟨hc0, hf0⟩ := blk_read HB0.out
      try clear hc1 hf1
      obtain ⟨hc1, hf1⟩ := blk_read HB1.out
      have hz := blk_lt HB1.out
      go_wp2_with fail
      refine bodyPost_ret (v := .tuple #[.agg #[.string r.key, .int .i64 (withF r ⟨st, 0, ⟨#[]⟩⟩).ls, .string (withF r ⟨st, 0, ⟨#[]⟩⟩).lp, .string (withF r ⟨st, 0, ⟨#[]⟩⟩).value, .slice A2 (n + 1) c2], .int .i64 0]) (by simp [results, Tryd.results23, go_sem, hc1]) rfl ?_
      rw [HF.out, HZ.out]
      exact rowRet_with Hn.out (own_row5_far HO.out (own_ne HO.out HB1.out (by decide)) _ _ _ _ _) (below_row5 HL.out (by omega) _ _ _ _ _)
    · have el : (r.ls != 0) = true := by simpa using hl
      have en9 : ((n : Int) == 99) = false := by simp; omega
      clear hl hn9
      go_wp2_with fail
      refine (with_any r ⟨st, 0, ⟨#[]⟩⟩ A n c w1 ((HR.out.below HL.out (Nat.le_refl _)).more HL.out.size) hs99).mono ?_
      rintro e w2 ⟨A2, c2, rfl, hown, hb⟩
      have HO := Lib.hid (own_more (base' := w.heap.size) hown HL.out.size)
      clear hown
      first | have hold := old0 HL hb (by first | exact Nat.le_refl _ | (simp; done) | (simp; omega)) | have hold := old1 HL hb (by first | exact Nat.le_refl _ | (simp; done) | (simp; omega)) | have hold := old2 HL hb (by first | exact Nat.le_refl _ | (simp; done) | (simp; omega)) | have hold := old3 HL hb (by first | exact Nat.le_refl _ | (simp; done) | (simp; omega))
      replace HB0 := hold.blk HB0
      replace HB1 := hold.blk HB1
      first | replace HL := keepL0 HL hb (by first | exact Nat.le_refl _ | (have := HL.out.size; omega) | (have := HL.out.size; simp at this; omega)) (by first | exact Nat.le_refl _ | (simp; done) | (simp; omega)) | replace HL := keepL1 HL hb (by first | exact Nat.le_refl _ | (have := HL.out.size; omega) | (have := HL.out.size; simp at this; omega)) (by first | exact Nat.le_refl _ | (simp; done) | (simp; omega)) | replace HL := keepL2 HL hb (by first | exact Nat.le_refl _ | (have := HL.out.size; omega) | (have := HL.out.size; simp at this; omega)) (by first | exact Nat.le_refl _ | (simp; done) | (simp; omega)) | replace HL := keepL3 HL hb (by first | exact Nat.le_refl _ | (have := HL.out.size; omega) | (have := HL.out.size; simp at this; omega)) (by first | exact Nat.le_refl _ | (simp; done) | (simp; omega))
      clear hb hold
      try clear hc0 hf0
      obtain ⟨hc0, hf0⟩ := blk_read HB0.out
      try clear hc1 hf1
      obtain ⟨hc1, hf1⟩ := blk_read HB1.out
      have hz := blk_lt HB1.out
      go_wp2_with fail
      refine bodyPost_ret (v := .tuple #[.agg #[.string r.key, .int .i64 (withF r ⟨st, 0, ⟨#[]⟩⟩).ls, .string (withF r ⟨st, 0, ⟨#[]⟩⟩).lp, .string (withF r ⟨st, 0, ⟨#[]⟩⟩).value, .slice A2 (n + 1) c2], .int .i64 0]) (by simp [results, Tryd.results23, go_sem, hc1]) rfl ?_
      rw [HF.out, HZ.out]
      exact rowRet_with Hn.out (own_row5_far HO.out (own_ne HO.out HB1.out (by decide)) _ _ _ _ _) (below_row5 HL.out (by omega) _ _ _ _ _)
end Go.Proofs.YtniomgngiiiklabDoor
