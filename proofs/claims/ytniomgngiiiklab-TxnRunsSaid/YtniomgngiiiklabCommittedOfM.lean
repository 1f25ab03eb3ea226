/- The walk of the reference's CommittedOf. -/
import Derived.Test.YtniomgngiiiklabRows2M
import Derived.Test.YtniomgngiiiklabEndsM
import Derived.Test.YtniomgngiiiklabPlainM
namespace Go.Proofs.Ytniomgngiiiklab
open Go.RowKit

set_option maxRecDepth 100000 in
set_option maxHeartbeats 8000000 in
theorem committedOf_any (r : MRow) (st cm : Int) (A : Option Addr) (n c : Nat) (w : World) (h : RowOk w w.heap.size r A n c) :
    Calls Try.prog 69 #[.agg #[.string r.key, .int .i64 r.ls, .string r.lp, .string r.value, .slice A n c], .int .i64 st, .int .i64 cm] w (RowRet w (commitRow r st cm) (commitCode r st cm)) := by
  have HR := Lib.hid h
  have hsm := h.recs.small
  have Hn := Lib.hid h.recs.at_.1
  have Hm : Hid (n ≤ maxLen) := by show _ ≤ _; unfold maxLen; omega
  have HG : Hid ((statusF r st).2.2 = 0 → n ≤ 100) := fun h0 => by
    have := (rowB_iff.1 (statusF_good h0).1).len
    rw [Hn.out] at this; exact this
  clear h
  go_enter Try.func69, Try.ntmps69
  go_wp2_with fail
  have hb0 := (((Below.refl w.heap.size w).alloc (Nat.le_refl _) (.cells #[.string r.key, .int .i64 r.ls, .string r.lp, .string r.value, .slice A n c] 26)).alloc (by simp) (.cells #[.string ⟨#[]⟩, .int .i64 0, .string ⟨#[]⟩, .string ⟨#[]⟩, .slice none 0 0] 26))
  refine (statusOf_any r st A n c _ ((HR.out.below hb0 (Nat.le_refl _)).more (by simp; omega))).mono ?_
  rintro e w1 ⟨rfl, hb⟩
  have HL := Lib.hid (hb0.trans (hb.mono (by simp; omega)))
  have HB0 := Lib.hid (blk_keep hb (g := w.heap.size) (blk_old (blk_new w _ _) _) (by simp; omega))
  have HB1 := Lib.hid (blk_keep hb (g := w.heap.size + 1) (blk_new_at (w.alloc _) _ _ (by simp)) (by simp))
  clear hb hb0
  have hz := blk_lt HB1.out
  try clear hc0 hf0
  obtain ⟨hc0, hf0⟩ := blk_read HB0.out
  try clear hc1 hf1
  obtain ⟨hc1, hf1⟩ := blk_read HB1.out
  obtain ⟨hs1, hs2⟩ := statusF_bounds r st
  generalize hstat : statusF r st = stt at hs1 hs2
  obtain ⟨s1, s2, s3⟩ := stt
  have HS := Lib.hid hstat
  clear hstat
  unfold stVal
  dsimp only at hs1 hs2 ⊢
  by_cases h3 : s3 = 0
  rotate_left
  · have HF : Hid (commitCode r st cm = s3) := by show _ = _; unfold commitCode; rw [HS.out]; exact if_pos h3
    have e3 : (s3 != 0) = true := by simpa using h3
    have HZ : Hid (commitRow r st cm = zeroRow) := by show _ = _; unfold commitRow; rw [HF.out, if_neg h3]
    clear h3 hs1 hs2
    go_wp2_with fail
    refine bodyPost_ret (v := .tuple #[.agg #[.string ⟨#[]⟩, .int .i64 0, .string ⟨#[]⟩, .string ⟨#[]⟩, .slice none 0 0], .int .i64 s3]) (by simp [results, Try.results69, go_sem, hc1]) rfl ?_
    rw [HF.out, HZ.out]
    exact rowRet_zero (below_row5 HL.out (by omega) _ _ _ _ _)
  subst h3
  have hn100 : n ≤ 100 := HG.out (by rw [HS.out])
  have hst0 := timeB_bounds (statusF_good (by rw [HS.out] : (statusF r st).2.2 = 0)).2
  have hst1 := hst0.1
  have hst2 := hst0.2
  clear hst0
  clear hs2
  by_cases hcm : cm ≤ st ∨ 1099511627776 < cm
  · have HF : Hid (commitCode r st cm = 2) := by show _ = _; unfold commitCode; rw [HS.out]; simp [hcm]
    have HZ : Hid (commitRow r st cm = zeroRow) := by show _ = _; unfold commitRow; rw [HF.out]; exact if_neg (by decide)
    clear hs1
    have eI : inB cm (st + 1) 1099511627776 = false := by unfold inB; simp; omega
    clear hcm
    go_wp2_with fail
    refine (in_any _ _ _ _).mono ?_
    rintro e w2 ⟨rfl, rfl⟩
    rw [eI]
    go_wp2_with fail
    refine bodyPost_ret (v := .tuple #[.agg #[.string ⟨#[]⟩, .int .i64 0, .string ⟨#[]⟩, .string ⟨#[]⟩, .slice none 0 0], .int .i64 2]) (by simp [results, Try.results69, go_sem, hc1]) rfl ?_
    rw [HF.out, HZ.out]
    exact rowRet_zero (below_row5 HL.out (by omega) _ _ _ _ _)
  have eI : inB cm (st + 1) 1099511627776 = true := by unfold inB; simp; omega
  have HCM := Lib.hid hcm
  clear hcm
  go_wp2_with fail
  refine (in_any _ _ _ _).mono ?_
  rintro e w2 ⟨rfl, rfl⟩
  rw [eI]
  by_cases hg3 : s1 = 3
  · subst hg3
    have HF : Hid (commitCode r st cm = 9) := by show _ = _; unfold commitCode; rw [HS.out]; simp [HCM.out]
    have HZ : Hid (commitRow r st cm = zeroRow) := by show _ = _; unfold commitRow; rw [HF.out]; exact if_neg (by decide)
    clear hs1
    go_wp2_with fail
    refine bodyPost_ret (v := .tuple #[.agg #[.string ⟨#[]⟩, .int .i64 0, .string ⟨#[]⟩, .string ⟨#[]⟩, .slice none 0 0], .int .i64 9]) (by simp [results, Try.results69, go_sem, hc1]) rfl ?_
    rw [HF.out, HZ.out]
    exact rowRet_zero (below_row5 HL.out (by omega) _ _ _ _ _)
  have e3 : (s1 == 3) = false := by simpa using hg3
  have HG3 := Lib.hid hg3
  clear hg3
  by_cases hg1 : s1 = 1
  rotate_left
  · have e1 : (s1 != 1) = true := by simpa using hg1
    have HF : Hid (commitCode r st cm = 5) := by show _ = _; unfold commitCode; rw [HS.out]; simp [HCM.out, HG3.out, hg1]
    have HZ : Hid (commitRow r st cm = zeroRow) := by show _ = _; unfold commitRow; rw [HF.out]; exact if_neg (by decide)
    clear hs1 hg1
    go_wp2_with fail
    refine bodyPost_ret (v := .tuple #[.agg #[.string ⟨#[]⟩, .int .i64 0, .string ⟨#[]⟩, .string ⟨#[]⟩, .slice none 0 0], .int .i64 5]) (by simp [results, Try.results69, go_sem, hc1]) rfl ?_
    rw [HF.out, HZ.out]
    exact rowRet_zero (below_row5 HL.out (by omega) _ _ _ _ _)
  subst hg1
  have HF : Hid (commitCode r st cm = 0) := by show _ = _; unfold commitCode; rw [HS.out]; simp [HCM.out]
  have HZ : Hid (commitRow r st cm = withF r ⟨st, cm, r.value⟩) := by show _ = _; unfold commitRow; rw [HF.out]; rfl
  clear hs1
  go_wp2_with fail
  refine (ended_any r ⟨st, cm, r.value⟩ A n c w1 ((HR.out.below HL.out (Nat.le_refl _)).more HL.out.size) hn100).mono ?_
  rintro e w2 ⟨A2, n2, c2, rfl, hown, hb⟩
  have HO := Lib.hid (own_more (base' := w.heap.size) hown HL.out.size)
  rw [ended_insRecs (x := ⟨st, cm, r.value⟩) (rowB_iff.1 (statusF_good (by rw [HS.out] : (statusF r st).2.2 = 0)).1) (status_locked_ne HS.out)] at HO
  obtain rfl : n2 = n + 1 := own_insRecs HO.out Hn.out
  clear hown
  first | have hold := old0 HL hb (by first | exact Nat.le_refl _ | (simp; done) | (simp; omega)) | have hold := old1 HL hb (by first | exact Nat.le_refl _ | (simp; done) | (simp; omega)) | have hold := old2 HL hb (by first | exact Nat.le_refl _ | (simp; done) | (simp; omega)) | have hold := old3 HL hb (by first | exact Nat.le_refl _ | (simp; done) | (simp; omega))
  replace HB0 := hold.blk HB0
  replace HB1 := hold.blk HB1
  first | replace HL := keepL0 HL hb (by first | exact Nat.le_refl _ | (have := HL.out.size; omega) | (have := HL.out.size; simp at this; omega)) (by first | exact Nat.le_refl _ | (simp; done) | (simp; omega)) | replace HL := keepL1 HL hb (by first | exact Nat.le_refl _ | (have := HL.out.size; omega) | (have := HL.out.size; simp at this; omega)) (by first | exact Nat.le_refl _ | (simp; done) | (simp; omega)) | replace HL := keepL2 HL hb (by first | exact Nat.le_refl _ | (have := HL.out.size; omega) | (have := HL.out.size; simp at this; omega)) (by first | exact Nat.le_refl _ | (simp; done) | (simp; omega)) | replace HL := keepL3 HL hb (by first | exact Nat.le_refl _ | (have := HL.out.size; omega) | (have := HL.out.size; simp at this; omega)) (by first | exact Nat.le_refl _ | (simp; done) | (simp; omega))
  clear hb hold
  try clear hc0 hf0
  obtain ⟨hc0, hf0⟩ := blk_read HB0.out
  try clear hc1 hf1
  obtain ⟨hc1, hf1⟩ := blk_read HB1.out
  have hz := blk_lt HB1.out
  go_wp2_with fail
  refine bodyPost_ret (v := .tuple #[.agg #[.string r.key, .int .i64 (withF r ⟨st, cm, r.value⟩).ls, .string (withF r ⟨st, cm, r.value⟩).lp, .string (withF r ⟨st, cm, r.value⟩).value, .slice A2 (n + 1) c2], .int .i64 0]) (by simp [results, Try.results69, go_sem, hc1]) rfl ?_
  rw [HF.out, HZ.out]
  exact rowRet_with Hn.out (own_row5_far HO.out (own_ne HO.out HB1.out (by decide)) _ _ _ _ _) (below_row5 HL.out (by omega) _ _ _ _ _)
end Go.Proofs.Ytniomgngiiiklab
