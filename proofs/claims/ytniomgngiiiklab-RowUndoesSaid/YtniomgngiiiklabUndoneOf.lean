/- The walk of the reference's UndoneOf. -/
import Derived.Test.YtniomgngiiiklabEnded
import Derived.Test.YtniomgngiiiklabUndo
import Derived.Test.YtniomgngiiiklabLockedOf
import Derived.Test.YtniomgngiiiklabEndedIns
namespace Go.Proofs.Ytniomgngiiiklab
open Go.RowKit

set_option maxRecDepth 100000 in
set_option maxHeartbeats 8000000 in
theorem undoneOf_any (r : MRow) (st : Int) (A : Option Addr) (n c : Nat) (w : World) (h : RowOk w w.heap.size r A n c) :
    Calls Try.prog 8 #[.agg #[.string r.key, .int .i64 r.ls, .string r.lp, .string r.value, .slice A n c], .int .i64 st] w (RowRet w (undoRow r st) (undoCode r st)) := by
  have HR := Lib.hid h
  have hsm := h.recs.small
  have Hn := Lib.hid h.recs.at_.1
  have Hm : Hid (n ≤ maxLen) := by show _ ≤ _; unfold maxLen; omega
  have HG : Hid ((statusF r st).2.2 = 0 → n ≤ 100) := fun h0 => by
    have := (rowB_iff.1 (statusF_good h0).1).len
    rw [Hn.out] at this; exact this
  clear h
  go_enter Try.func8, Try.ntmps8
  go_wp2_with fail
  have hb0 := (((Below.refl w.heap.size w).alloc (Nat.le_refl _) (.cells #[.string r.key, .int .i64 r.ls, .string r.lp, .string r.value, .slice A n c] 26)).alloc (by simp) (.cells #[.string ⟨#[]⟩, .int .i64 0, .string ⟨#[]⟩, .string ⟨#[]⟩, .slice none 0 0] 26))
  refine (statusOf_any r st A n c _ ((HR.out.below hb0 (Nat.le_refl _)).more (by simp; omega))).mono ?_
  rintro e w1 ⟨rfl, hb⟩
  have HL := Lib.hid (hb0.trans (hb.mono (by simp; omega)))
  have HB0 := Lib.hid (blk_keep hb (g := w.heap.size) (blk_old (blk_new w _ _) _) (by simp; omega))
  have HB1 := Lib.hid (blk_keep hb (g := w.heap.size + 1) (blk_new_at (w.alloc _) _ _ (by simp)) (by simp))
  clear hb hb0
  have hz := blk_lt HB1.out
  try clear hc0 hf0
  obtain ⟨hc0, hf0⟩ := blk_read HB0.out
  try clear hc1 hf1
  obtain ⟨hc1, hf1⟩ := blk_read HB1.out
  obtain ⟨hs1, hs2⟩ := statusF_bounds r st
  generalize hstat : statusF r st = stt at hs1 hs2
  obtain ⟨s1, s2, s3⟩ := stt
  have HS := Lib.hid hstat
  clear hstat
  unfold stVal
  dsimp only at hs1 hs2 ⊢
  by_cases h3 : s3 = 0
  rotate_left
  · have HF : Hid (undoCode r st = s3) := by show _ = _; unfold undoCode; rw [HS.out]; exact if_pos h3
    have e3 : (s3 != 0) = true := by simpa using h3
    have HZ : Hid (undoRow r st = zeroRow) := by show _ = _; unfold undoRow; rw [HF.out, if_neg h3]
    clear h3 hs1 hs2
    go_wp2_with fail
    refine bodyPost_ret (v := .tuple #[.agg #[.string ⟨#[]⟩, .int .i64 0, .string ⟨#[]⟩, .string ⟨#[]⟩, .slice none 0 0], .int .i64 s3]) (by simp [results, Try.results8, go_sem, hc1]) rfl ?_
    rw [HF.out, HZ.out]
    exact rowRet_zero (below_row5 HL.out (by omega) _ _ _ _ _)
  subst h3
  have hn100 : n ≤ 100 := HG.out (by rw [HS.out])
  clear hs2
  by_cases hls : r.ls = 0
  · have el : (r.ls != 0) = false := by simpa using hls
    have HLS := Lib.hid hls
    clear hls
    by_cases hg2 : s1 = 2
    · subst hg2
      have HF : Hid (undoCode r st = 6) := by show _ = _; unfold undoCode; rw [HS.out]; simp
      have HZ : Hid (undoRow r st = zeroRow) := by show _ = _; unfold undoRow; rw [HF.out]; exact if_neg (by decide)
      clear hs1
      go_wp2_with fail
      refine bodyPost_ret (v := .tuple #[.agg #[.string ⟨#[]⟩, .int .i64 0, .string ⟨#[]⟩, .string ⟨#[]⟩, .slice none 0 0], .int .i64 6]) (by simp [results, Try.results8, go_sem, hc1]) rfl ?_
      rw [HF.out, HZ.out]
      exact rowRet_zero (below_row5 HL.out (by omega) _ _ _ _ _)
    have e2 : (s1 == 2) = false := by simpa using hg2
    by_cases hg3 : s1 = 3
    · subst hg3
      have HF : Hid (undoCode r st = 0) := by show _ = _; unfold undoCode; rw [HS.out]; simp
      have HZ : Hid (undoRow r st = r) := by show _ = _; unfold undoRow; rw [HF.out, HS.out]; simp
      clear hs1 hg2
      go_wp2_with fail
      refine (refCopy_any r A n c w1 ((HR.out.below HL.out (Nat.le_refl _)).more HL.out.size)).mono ?_
      rintro e w2 ⟨A2, c2, rfl, hown, hb⟩
      have HO := Lib.hid (own_more (base' := w.heap.size) hown HL.out.size)
      clear hown
      first | have hold := old0 HL hb (by first | exact Nat.le_refl _ | (simp; done) | (simp; omega)) | have hold := old1 HL hb (by first | exact Nat.le_refl _ | (simp; done) | (simp; omega)) | have hold := old2 HL hb (by first | exact Nat.le_refl _ | (simp; done) | (simp; omega)) | have hold := old3 HL hb (by first | exact Nat.le_refl _ | (simp; done) | (simp; omega))
      replace HB0 := hold.blk HB0
      replace HB1 := hold.blk HB1
      first | replace HL := keepL0 HL hb (by first | exact Nat.le_refl _ | (have := HL.out.size; omega) | (have := HL.out.size; simp at this; omega)) (by first | exact Nat.le_refl _ | (simp; done) | (simp; omega)) | replace HL := keepL1 HL hb (by first | exact Nat.le_refl _ | (have := HL.out.size; omega) | (have := HL.out.size; simp at this; omega)) (by first | exact Nat.le_refl _ | (simp; done) | (simp; omega)) | replace HL := keepL2 HL hb (by first | exact Nat.le_refl _ | (have := HL.out.size; omega) | (have := HL.out.size; simp at this; omega)) (by first | exact Nat.le_refl _ | (simp; done) | (simp; omega)) | replace HL := keepL3 HL hb (by first | exact Nat.le_refl _ | (have := HL.out.size; omega) | (have := HL.out.size; simp at this; omega)) (by first | exact Nat.le_refl _ | (simp; done) | (simp; omega))
      clear hb hold
      try clear hc0 hf0
      obtain ⟨hc0, hf0⟩ := blk_read HB0.out
      try clear hc1 hf1
      obtain ⟨hc1, hf1⟩ := blk_read HB1.out
      have hz := blk_lt HB1.out
      go_wp2_with fail
      refine bodyPost_ret (v := .tuple #[.agg #[.string r.key, .int .i64 r.ls, .string r.lp, .string r.value, .slice A2 n c2], .int .i64 0]) (by simp [results, Try.results8, go_sem, hc1]) rfl ?_
      rw [HF.out, HZ.out]
      refine ⟨A2, c2, by rw [Hn.out], ?_, below_row5 HL.out (by omega) _ _ _ _ _⟩
      rw [Hn.out]
      exact own_row5_far HO.out (own_ne HO.out HB1.out (by decide)) _ _ _ _ _
    have e3 : (s1 == 3) = false := by simpa using hg3
    have HG3 := Lib.hid hg3
    have HG2 := Lib.hid hg2
    clear hg3 hg2
    by_cases hfull : s1 = 0 ∧ 100 ≤ n
    · have HF : Hid (undoCode r st = 1) := by show _ = _; unfold undoCode; rw [HS.out, Hn.out]; simp only [HG2.out, HG3.out]; simp; have := HLS.out; exact ⟨hfull.1, fun h => by omega⟩
      have HZ : Hid (undoRow r st = zeroRow) := by show _ = _; unfold undoRow; rw [HF.out]; exact if_neg (by decide)
      obtain ⟨h0, hf⟩ := hfull
      have e0 : (s1 == 0) = true := by simpa using h0
      have hge : (100 : Int) ≤ (n : Int) := by omega
      clear hs1 h0 hf
      go_wp2_with fail
      refine bodyPost_ret (v := .tuple #[.agg #[.string ⟨#[]⟩, .int .i64 0, .string ⟨#[]⟩, .string ⟨#[]⟩, .slice none 0 0], .int .i64 1]) (by simp [results, Try.results8, go_sem, hc1]) rfl ?_
      rw [HF.out, HZ.out]
      exact rowRet_zero (below_row5 HL.out (by omega) _ _ _ _ _)
    have HF : Hid (undoCode r st = 0) := by show _ = _; unfold undoCode; rw [HS.out, Hn.out]; have := HLS.out; simp only [HG2.out, HG3.out]; rw [if_neg (by omega), if_neg (by simp), if_neg (by simp), if_neg (by omega)]
    have HZ : Hid (undoRow r st = withF r ⟨st, 0, ⟨#[]⟩⟩) := by show _ = _; unfold undoRow; rw [HF.out, HS.out]; simp [HG3.out]
    have HRF : Hid (recFind r.recs st = none) := by
      obtain ⟨_, _, hh⟩ := undoCode_ok HF.out
      rcases hh with ⟨h3, _⟩ | ⟨_, hf, _⟩
      · rw [HS.out] at h3; exact absurd h3 HG3.out
      · exact hf
    have HRB : Hid (rowB r = true) := (undoCode_ok HF.out).1
    by_cases h0 : s1 = 0
    · have e0 : (s1 == 0) = true := by simpa using h0
      have hlt : (n : Int) < (100 : Int) := by omega
      have hnn : ¬ (100 : Int) ≤ (n : Int) := by omega
      clear hs1 h0 hfull
      go_wp2_with fail
      refine (ended_any r ⟨st, 0, ⟨#[]⟩⟩ A n c w1 ((HR.out.below HL.out (Nat.le_refl _)).more HL.out.size) hn100).mono ?_
      rintro e w2 ⟨A2, n2, c2, rfl, hown, hb⟩
      have HO := Lib.hid (own_more (base' := w.heap.size) hown HL.out.size)
      rw [ended_insRecs (x := ⟨st, 0, ⟨#[]⟩⟩) (rowB_iff.1 HRB.out) (recFind_none HRF.out)] at HO
      obtain rfl : n2 = n + 1 := own_insRecs HO.out Hn.out
      clear hown
      first | have hold := old0 HL hb (by first | exact Nat.le_refl _ | (simp; done) | (simp; omega)) | have hold := old1 HL hb (by first | exact Nat.le_refl _ | (simp; done) | (simp; omega)) | have hold := old2 HL hb (by first | exact Nat.le_refl _ | (simp; done) | (simp; omega)) | have hold := old3 HL hb (by first | exact Nat.le_refl _ | (simp; done) | (simp; omega))
      replace HB0 := hold.blk HB0
      replace HB1 := hold.blk HB1
      first | replace HL := keepL0 HL hb (by first | exact Nat.le_refl _ | (have := HL.out.size; omega) | (have := HL.out.size; simp at this; omega)) (by first | exact Nat.le_refl _ | (simp; done) | (simp; omega)) | replace HL := keepL1 HL hb (by first | exact Nat.le_refl _ | (have := HL.out.size; omega) | (have := HL.out.size; simp at this; omega)) (by first | exact Nat.le_refl _ | (simp; done) | (simp; omega)) | replace HL := keepL2 HL hb (by first | exact Nat.le_refl _ | (have := HL.out.size; omega) | (have := HL.out.size; simp at this; omega)) (by first | exact Nat.le_refl _ | (simp; done) | (simp; omega)) | replace HL := keepL3 HL hb (by first | exact Nat.le_refl _ | (have := HL.out.size; omega) | (have := HL.out.size; simp at this; omega)) (by first | exact Nat.le_refl _ | (simp; done) | (simp; omega))
      clear hb hold
      try clear hc0 hf0
      obtain ⟨hc0, hf0⟩ := blk_read HB0.out
      try clear hc1 hf1
      obtain ⟨hc1, hf1⟩ := blk_read HB1.out
      have hz := blk_lt HB1.out
      go_wp2_with fail
      refine bodyPost_ret (v := .tuple #[.agg #[.string r.key, .int .i64 (withF r ⟨st, 0, ⟨#[]⟩⟩).ls, .string (withF r ⟨st, 0, ⟨#[]⟩⟩).lp, .string (withF r ⟨st, 0, ⟨#[]⟩⟩).value, .slice A2 (n + 1) c2], .int .i64 0]) (by simp [results, Try.results8, go_sem, hc1]) rfl ?_
      rw [HF.out, HZ.out]
      exact rowRet_with Hn.out (own_row5_far HO.out (own_ne HO.out HB1.out (by decide)) _ _ _ _ _) (below_row5 HL.out (by omega) _ _ _ _ _)
    · have e0 : (s1 == 0) = false := by simpa using h0
      clear hs1 h0 hfull
      go_wp2_with fail
      refine (ended_any r ⟨st, 0, ⟨#[]⟩⟩ A n c w1 ((HR.out.below HL.out (Nat.le_refl _)).more HL.out.size) hn100).mono ?_
      rintro e w2 ⟨A2, n2, c2, rfl, hown, hb⟩
      have HO := Lib.hid (own_more (base' := w.heap.size) hown HL.out.size)
      rw [ended_insRecs (x := ⟨st, 0, ⟨#[]⟩⟩) (rowB_iff.1 HRB.out) (recFind_none HRF.out)] at HO
      obtain rfl : n2 = n + 1 := own_insRecs HO.out Hn.out
      clear hown
      first | have hold := old0 HL hb (by first | exact Nat.le_refl _ | (simp; done) | (simp; omega)) | have hold := old1 HL hb (by first | exact Nat.le_refl _ | (simp; done) | (simp; omega)) | have hold := old2 HL hb (by first | exact Nat.le_refl _ | (simp; done) | (simp; omega)) | have hold := old3 HL hb (by first | exact Nat.le_refl _ | (simp; done) | (simp; omega))
      replace HB0 := hold.blk HB0
      replace HB1 := hold.blk HB1
      first | replace HL := keepL0 HL hb (by first | exact Nat.le_refl _ | (have := HL.out.size; omega) | (have := HL.out.size; simp at this; omega)) (by first | exact Nat.le_refl _ | (simp; done) | (simp; omega)) | replace HL := keepL1 HL hb (by first | exact Nat.le_refl _ | (have := HL.out.size; omega) | (have := HL.out.size; simp at this; omega)) (by first | exact Nat.le_refl _ | (simp; done) | (simp; omega)) | replace HL := keepL2 HL hb (by first | exact Nat.le_refl _ | (have := HL.out.size; omega) | (have := HL.out.size; simp at this; omega)) (by first | exact Nat.le_refl _ | (simp; done) | (simp; omega)) | replace HL := keepL3 HL hb (by first | exact Nat.le_refl _ | (have := HL.out.size; omega) | (have := HL.out.size; simp at this; omega)) (by first | exact Nat.le_refl _ | (simp; done) | (simp; omega))
      clear hb hold
      try clear hc0 hf0
      obtain ⟨hc0, hf0⟩ := blk_read HB0.out
      try clear hc1 hf1
      obtain ⟨hc1, hf1⟩ := blk_read HB1.out
      have hz := blk_lt HB1.out
      go_wp2_with fail
      refine bodyPost_ret (v := .tuple #[.agg #[.string r.key, .int .i64 (withF r ⟨st, 0, ⟨#[]⟩⟩).ls, .string (withF r ⟨st, 0, ⟨#[]⟩⟩).lp, .string (withF r ⟨st, 0, ⟨#[]⟩⟩).value, .slice A2 (n + 1) c2], .int .i64 0]) (by simp [results, Try.results8, go_sem, hc1]) rfl ?_
      rw [HF.out, HZ.out]
      exact rowRet_with Hn.out (own_row5_far HO.out (own_ne HO.out HB1.out (by decide)) _ _ _ _ _) (below_row5 HL.out (by omega) _ _ _ _ _)
  · have el : (r.ls != 0) = true := by simpa using hls
    have HLS := Lib.hid hls
    clear hls
    by_cases hg2 : s1 = 2
    · subst hg2
      have HF : Hid (undoCode r st = 6) := by show _ = _; unfold undoCode; rw [HS.out]; simp
      have HZ : Hid (undoRow r st = zeroRow) := by show _ = _; unfold undoRow; rw [HF.out]; exact if_neg (by decide)
      clear hs1
      go_wp2_with fail
      refine bodyPost_ret (v := .tuple #[.agg #[.string ⟨#[]⟩, .int .i64 0, .string ⟨#[]⟩, .string ⟨#[]⟩, .slice none 0 0], .int .i64 6]) (by simp [results, Try.results8, go_sem, hc1]) rfl ?_
      rw [HF.out, HZ.out]
      exact rowRet_zero (below_row5 HL.out (by omega) _ _ _ _ _)
    have e2 : (s1 == 2) = false := by simpa using hg2
    by_cases hg3 : s1 = 3
    · subst hg3
      have HF : Hid (undoCode r st = 0) := by show _ = _; unfold undoCode; rw [HS.out]; simp
      have HZ : Hid (undoRow r st = r) := by show _ = _; unfold undoRow; rw [HF.out, HS.out]; simp
      clear hs1 hg2
      go_wp2_with fail
      refine (refCopy_any r A n c w1 ((HR.out.below HL.out (Nat.le_refl _)).more HL.out.size)).mono ?_
      rintro e w2 ⟨A2, c2, rfl, hown, hb⟩
      have HO := Lib.hid (own_more (base' := w.heap.size) hown HL.out.size)
      clear hown
      first | have hold := old0 HL hb (by first | exact Nat.le_refl _ | (simp; done) | (simp; omega)) | have hold := old1 HL hb (by first | exact Nat.le_refl _ | (simp; done) | (simp; omega)) | have hold := old2 HL hb (by first | exact Nat.le_refl _ | (simp; done) | (simp; omega)) | have hold := old3 HL hb (by first | exact Nat.le_refl _ | (simp; done) | (simp; omega))
      replace HB0 := hold.blk HB0
      replace HB1 := hold.blk HB1
      first | replace HL := keepL0 HL hb (by first | exact Nat.le_refl _ | (have := HL.out.size; omega) | (have := HL.out.size; simp at this; omega)) (by first | exact Nat.le_refl _ | (simp; done) | (simp; omega)) | replace HL := keepL1 HL hb (by first | exact Nat.le_refl _ | (have := HL.out.size; omega) | (have := HL.out.size; simp at this; omega)) (by first | exact Nat.le_refl _ | (simp; done) | (simp; omega)) | replace HL := keepL2 HL hb (by first | exact Nat.le_refl _ | (have := HL.out.size; omega) | (have := HL.out.size; simp at this; omega)) (by first | exact Nat.le_refl _ | (simp; done) | (simp; omega)) | replace HL := keepL3 HL hb (by first | exact Nat.le_refl _ | (have := HL.out.size; omega) | (have := HL.out.size; simp at this; omega)) (by first | exact Nat.le_refl _ | (simp; done) | (simp; omega))
      clear hb hold
      try clear hc0 hf0
      obtain ⟨hc0, hf0⟩ := blk_read HB0.out
      try clear hc1 hf1
      obtain ⟨hc1, hf1⟩ := blk_read HB1.out
      have hz := blk_lt HB1.out
      go_wp2_with fail
      refine bodyPost_ret (v := .tuple #[.agg #[.string r.key, .int .i64 r.ls, .string r.lp, .string r.value, .slice A2 n c2], .int .i64 0]) (by simp [results, Try.results8, go_sem, hc1]) rfl ?_
      rw [HF.out, HZ.out]
      refine ⟨A2, c2, by rw [Hn.out], ?_, below_row5 HL.out (by omega) _ _ _ _ _⟩
      rw [Hn.out]
      exact own_row5_far HO.out (own_ne HO.out HB1.out (by decide)) _ _ _ _ _
    have e3 : (s1 == 3) = false := by simpa using hg3
    have HG3 := Lib.hid hg3
    have HG2 := Lib.hid hg2
    clear hg3 hg2
    by_cases hfull : s1 = 0 ∧ 99 ≤ n
    · have HF : Hid (undoCode r st = 1) := by show _ = _; unfold undoCode; rw [HS.out, Hn.out]; simp only [HG2.out, HG3.out]; simp; have := HLS.out; exact ⟨hfull.1, fun h => by omega⟩
      have HZ : Hid (undoRow r st = zeroRow) := by show _ = _; unfold undoRow; rw [HF.out]; exact if_neg (by decide)
      obtain ⟨h0, hf⟩ := hfull
      have e0 : (s1 == 0) = true := by simpa using h0
      have hge : (99 : Int) ≤ (n : Int) := by omega
      clear hs1 h0 hf
      go_wp2_with fail
      refine bodyPost_ret (v := .tuple #[.agg #[.string ⟨#[]⟩, .int .i64 0, .string ⟨#[]⟩, .string ⟨#[]⟩, .slice none 0 0], .int .i64 1]) (by simp [results, Try.results8, go_sem, hc1]) rfl ?_
      rw [HF.out, HZ.out]
      exact rowRet_zero (below_row5 HL.out (by omega) _ _ _ _ _)
    have HF : Hid (undoCode r st = 0) := by show _ = _; unfold undoCode; rw [HS.out, Hn.out]; have := HLS.out; simp only [HG2.out, HG3.out]; rw [if_neg (by omega), if_neg (by simp), if_neg (by simp), if_neg (by omega)]
    have HZ : Hid (undoRow r st = withF r ⟨st, 0, ⟨#[]⟩⟩) := by show _ = _; unfold undoRow; rw [HF.out, HS.out]; simp [HG3.out]
    have HRF : Hid (recFind r.recs st = none) := by
      obtain ⟨_, _, hh⟩ := undoCode_ok HF.out
      rcases hh with ⟨h3, _⟩ | ⟨_, hf, _⟩
      · rw [HS.out] at h3; exact absurd h3 HG3.out
      · exact hf
    have HRB : Hid (rowB r = true) := (undoCode_ok HF.out).1
    by_cases h0 : s1 = 0
    · have e0 : (s1 == 0) = true := by simpa using h0
      have hlt : (n : Int) < (99 : Int) := by omega
      have hnn : ¬ (99 : Int) ≤ (n : Int) := by omega
      clear hs1 h0 hfull
      go_wp2_with fail
      refine (ended_any r ⟨st, 0, ⟨#[]⟩⟩ A n c w1 ((HR.out.below HL.out (Nat.le_refl _)).more HL.out.size) hn100).mono ?_
      rintro e w2 ⟨A2, n2, c2, rfl, hown, hb⟩
      have HO := Lib.hid (own_more (base' := w.heap.size) hown HL.out.size)
      rw [ended_insRecs (x := ⟨st, 0, ⟨#[]⟩⟩) (rowB_iff.1 HRB.out) (recFind_none HRF.out)] at HO
      obtain rfl : n2 = n + 1 := own_insRecs HO.out Hn.out
      clear hown
      first | have hold := old0 HL hb (by first | exact Nat.le_refl _ | (simp; done) | (simp; omega)) | have hold := old1 HL hb (by first | exact Nat.le_refl _ | (simp; done) | (simp; omega)) | have hold := old2 HL hb (by first | exact Nat.le_refl _ | (simp; done) | (simp; omega)) | have hold := old3 HL hb (by first | exact Nat.le_refl _ | (simp; done) | (simp; omega))
      replace HB0 := hold.blk HB0
      replace HB1 := hold.blk HB1
      first | replace HL := keepL0 HL hb (by first | exact Nat.le_refl _ | (have := HL.out.size; omega) | (have := HL.out.size; simp at this; omega)) (by first | exact Nat.le_refl _ | (simp; done) | (simp; omega)) | replace HL := keepL1 HL hb (by first | exact Nat.le_refl _ | (have := HL.out.size; omega) | (have := HL.out.size; simp at this; omega)) (by first | exact Nat.le_refl _ | (simp; done) | (simp; omega)) | replace HL := keepL2 HL hb (by first | exact Nat.le_refl _ | (have := HL.out.size; omega) | (have := HL.out.size; simp at this; omega)) (by first | exact Nat.le_refl _ | (simp; done) | (simp; omega)) | replace HL := keepL3 HL hb (by first | exact Nat.le_refl _ | (have := HL.out.size; omega) | (have := HL.out.size; simp at this; omega)) (by first | exact Nat.le_refl _ | (simp; done) | (simp; omega))
      clear hb hold
      try clear hc0 hf0
      obtain ⟨hc0, hf0⟩ := blk_read HB0.out
      try clear hc1 hf1
      obtain ⟨hc1, hf1⟩ := blk_read HB1.out
      have hz := blk_lt HB1.out
      go_wp2_with fail
      refine bodyPost_ret (v := .tuple #[.agg #[.string r.key, .int .i64 (withF r ⟨st, 0, ⟨#[]⟩⟩).ls, .string (withF r ⟨st, 0, ⟨#[]⟩⟩).lp, .string (withF r ⟨st, 0, ⟨#[]⟩⟩).value, .slice A2 (n + 1) c2], .int .i64 0]) (by simp [results, Try.results8, go_sem, hc1]) rfl ?_
      rw [HF.out, HZ.out]
      exact rowRet_with Hn.out (own_row5_far HO.out (own_ne HO.out HB1.out (by decide)) _ _ _ _ _) (below_row5 HL.out (by omega) _ _ _ _ _)
    · have e0 : (s1 == 0) = false := by simpa using h0
      clear hs1 h0 hfull
      go_wp2_with fail
      refine (ended_any r ⟨st, 0, ⟨#[]⟩⟩ A n c w1 ((HR.out.below HL.out (Nat.le_refl _)).more HL.out.size) hn100).mono ?_
      rintro e w2 ⟨A2, n2, c2, rfl, hown, hb⟩
      have HO := Lib.hid (own_more (base' := w.heap.size) hown HL.out.size)
      rw [ended_insRecs (x := ⟨st, 0, ⟨#[]⟩⟩) (rowB_iff.1 HRB.out) (recFind_none HRF.out)] at HO
      obtain rfl : n2 = n + 1 := own_insRecs HO.out Hn.out
      clear hown
      first | have hold := old0 HL hb (by first | exact Nat.le_refl _ | (simp; done) | (simp; omega)) | have hold := old1 HL hb (by first | exact Nat.le_refl _ | (simp; done) | (simp; omega)) | have hold := old2 HL hb (by first | exact Nat.le_refl _ | (simp; done) | (simp; omega)) | have hold := old3 HL hb (by first | exact Nat.le_refl _ | (simp; done) | (simp; omega))
      replace HB0 := hold.blk HB0
      replace HB1 := hold.blk HB1
      first | replace HL := keepL0 HL hb (by first | exact Nat.le_refl _ | (have := HL.out.size; omega) | (have := HL.out.size; simp at this; omega)) (by first | exact Nat.le_refl _ | (simp; done) | (simp; omega)) | replace HL := keepL1 HL hb (by first | exact Nat.le_refl _ | (have := HL.out.size; omega) | (have := HL.out.size; simp at this; omega)) (by first | exact Nat.le_refl _ | (simp; done) | (simp; omega)) | replace HL := keepL2 HL hb (by first | exact Nat.le_refl _ | (have := HL.out.size; omega) | (have := HL.out.size; simp at this; omega)) (by first | exact Nat.le_refl _ | (simp; done) | (simp; omega)) | replace HL := keepL3 HL hb (by first | exact Nat.le_refl _ | (have := HL.out.size; omega) | (have := HL.out.size; simp at this; omega)) (by first | exact Nat.le_refl _ | (simp; done) | (simp; omega))
      clear hb hold
      try clear hc0 hf0
      obtain ⟨hc0, hf0⟩ := blk_read HB0.out
      try clear hc1 hf1
      obtain ⟨hc1, hf1⟩ := blk_read HB1.out
      have hz := blk_lt HB1.out
      go_wp2_with fail
      refine bodyPost_ret (v := .tuple #[.agg #[.string r.key, .int .i64 (withF r ⟨st, 0, ⟨#[]⟩⟩).ls, .string (withF r ⟨st, 0, ⟨#[]⟩⟩).lp, .string (withF r ⟨st, 0, ⟨#[]⟩⟩).value, .slice A2 (n + 1) c2], .int .i64 0]) (by simp [results, Try.results8, go_sem, hc1]) rfl ?_
      rw [HF.out, HZ.out]
      exact rowRet_with Hn.out (own_row5_far HO.out (own_ne HO.out HB1.out (by decide)) _ _ _ _ _) (below_row5 HL.out (by omega) _ _ _ _ _)
end Go.Proofs.Ytniomgngiiiklab
