/- The walk of row.LockFor. -/
import Derived.Test.YtniomgngiiiklabDoorStatus
import Derived.Test.YtniomgngiiiklabDoorCopy
import Derived.Deep.DeepCutAuto
namespace Go.Proofs.YtniomgngiiiklabDoor
open Go.RowKit

set_option maxRecDepth 100000 in
set_option maxHeartbeats 8000000 in
theorem lockFor_any (r : MRow) (st : Int) (p v : ByteArray) (A : Option Addr) (n c : Nat) (w : World) (h : RowOk w w.heap.size r A n c) :
    Calls Tryd.prog 18 #[.agg #[.string r.key, .int .i64 r.ls, .string r.lp, .string r.value, .slice A n c], .int .i64 st, .string p, .string v] w (RowRet w (lockRow r st p v) (lockCode r st p v)) := by
  have HR := Lib.hid h
  have hsm := h.recs.small
  have Hn := Lib.hid h.recs.at_.1
  have Hm : Hid (n ≤ maxLen) := by show _ ≤ _; unfold maxLen; omega
  clear h
  go_enter Tryd.func18, Tryd.ntmps18
  go_wp2_with fail
  have hb0 := ((((Below.refl w.heap.size w).alloc (Nat.le_refl _) (.cells #[.string r.key, .int .i64 r.ls, .string r.lp, .string r.value, .slice A n c] 27)).alloc (by simp) (.cells #[.int .i64 st] 3)).alloc (by simp; omega) (.cells #[.string ⟨#[]⟩, .int .i64 0, .string ⟨#[]⟩, .string ⟨#[]⟩, .slice none 0 0] 27))
  refine (status_any r st A n c _ ((HR.out.recs.at_.below hb0 (Nat.le_refl _)).more (by simp; omega)) Hm.out).mono ?_
  rintro e w1 ⟨rfl, hb⟩
  have HL := Lib.hid (hb0.trans (hb.mono (by simp; omega)))
  have HB0 := Lib.hid (blk_keep hb (g := w.heap.size) (blk_old (blk_old (blk_new w _ _) _) _) (by simp; omega))
  have HB1 := Lib.hid (blk_keep hb (g := w.heap.size + 1) (blk_old (blk_new_at (w.alloc _) _ _ (by simp)) _) (by first | (simp; done) | (simp; omega)))
  have HB2 := Lib.hid (blk_keep hb (g := w.heap.size + 1 + 1) (blk_new_at ((w.alloc _).alloc _) _ _ (by simp)) (by simp))
  have hz := blk_lt HB2.out
  clear hb hb0
  obtain ⟨hc0, hf0⟩ := blk_read HB0.out
  obtain ⟨hc1, hf1⟩ := blk_read HB1.out
  obtain ⟨hc2, hf2⟩ := blk_read HB2.out
  obtain ⟨hs1, hs2⟩ := statusF_bounds r st
  generalize hstat : statusF r st = stt at hs1 hs2
  obtain ⟨s1, s2, s3⟩ := stt
  have HS := Lib.hid hstat
  clear hstat
  unfold stVal
  dsimp only at hs1 hs2 ⊢
  by_cases h3 : s3 = 0
  rotate_left
  · have HF : Hid (lockCode r st p v = s3) := by show _ = _; unfold lockCode; rw [HS.out]; exact if_pos h3
    have e3 : (s3 != 0) = true := by simpa using h3
    have HZ : Hid (lockRow r st p v = zeroRow) := by show _ = _; unfold lockRow; rw [HF.out, if_neg h3]
    clear h3 hs1 hs2
    go_wp2_with fail
    refine bodyPost_ret (v := .tuple #[.agg #[.string ⟨#[]⟩, .int .i64 0, .string ⟨#[]⟩, .string ⟨#[]⟩, .slice none 0 0], .int .i64 s3]) (by simp [results, Tryd.results18, go_sem, hc2]) rfl ?_
    rw [HF.out, HZ.out]
    refine rowRet_zero ?_
    have hb0 := HL.out
    repeat (refine Below.setCell ?_ (by first | (simp; done) | (simp; omega)) _)
    exact hb0
  subst h3
  clear hs2
  cases hk : keyB p
  · have HF : Hid (lockCode r st p v = 4) := by show _ = _; unfold lockCode; rw [HS.out]; simp [hk]
    have HZ : Hid (lockRow r st p v = zeroRow) := by show _ = _; unfold lockRow; rw [HF.out]; exact if_neg (by decide)
    clear hs1
    go_wp2_with fail
    refine (key_any _ _).mono ?_
    rintro e w2 ⟨rfl, hb⟩
    have HL2 := Lib.hid (HL.out.trans (hb.mono HL.out.size))
    have HB22 := Lib.hid (blk_keep hb HB2.out hz)
    clear hb hc2 hf2
    obtain ⟨hc2, hf2⟩ := blk_read HB22.out
    go_wp2_with fail
    refine bodyPost_ret (v := .tuple #[.agg #[.string ⟨#[]⟩, .int .i64 0, .string ⟨#[]⟩, .string ⟨#[]⟩, .slice none 0 0], .int .i64 4]) (by simp [results, Tryd.results18, go_sem, hc2]) rfl ?_
    rw [HF.out, HZ.out]
    refine rowRet_zero ?_
    have hb0 := HL2.out
    repeat (refine Below.setCell ?_ (by first | (simp; done) | (simp; omega)) _)
    exact hb0
  go_wp2_with fail
  refine (key_any _ _).mono ?_
  rintro e w2 ⟨rfl, hb⟩
  have HL2 := Lib.hid (HL.out.trans (hb.mono HL.out.size))
  have HB02 := Lib.hid (blk_keep hb HB0.out (blk_lt HB0.out))
  have HB12 := Lib.hid (blk_keep hb HB1.out (blk_lt HB1.out))
  have HB22 := Lib.hid (blk_keep hb HB2.out hz)
  clear hb hc0 hf0 hc1 hf1 hc2 hf2 hz HL HB0 HB1 HB2
  have hz := blk_lt HB22.out
  obtain ⟨hc0, hf0⟩ := blk_read HB02.out
  obtain ⟨hc1, hf1⟩ := blk_read HB12.out
  obtain ⟨hc2, hf2⟩ := blk_read HB22.out
  by_cases hv : 20 < v.size
  · have HF : Hid (lockCode r st p v = 1) := by show _ = _; unfold lockCode; rw [HS.out]; simp [hk, hv]
    have HZ : Hid (lockRow r st p v = zeroRow) := by show _ = _; unfold lockRow; rw [HF.out]; exact if_neg (by decide)
    clear hs1
    go_wp2_with fail
    refine bodyPost_ret (v := .tuple #[.agg #[.string ⟨#[]⟩, .int .i64 0, .string ⟨#[]⟩, .string ⟨#[]⟩, .slice none 0 0], .int .i64 1]) (by simp [results, Tryd.results18, go_sem, hc2]) rfl ?_
    rw [HF.out, HZ.out]
    refine rowRet_zero ?_
    have hb0 := HL2.out
    repeat (refine Below.setCell ?_ (by first | (simp; done) | (simp; omega)) _)
    exact hb0
  by_cases hg3 : s1 = 3
  · subst hg3
    have HF : Hid (lockCode r st p v = 9) := by show _ = _; unfold lockCode; rw [HS.out]; simp [hk, hv]
    have HZ : Hid (lockRow r st p v = zeroRow) := by show _ = _; unfold lockRow; rw [HF.out]; exact if_neg (by decide)
    clear hs1
    go_wp2_with fail
    refine bodyPost_ret (v := .tuple #[.agg #[.string ⟨#[]⟩, .int .i64 0, .string ⟨#[]⟩, .string ⟨#[]⟩, .slice none 0 0], .int .i64 9]) (by simp [results, Tryd.results18, go_sem, hc2]) rfl ?_
    rw [HF.out, HZ.out]
    refine rowRet_zero ?_
    have hb0 := HL2.out
    repeat (refine Below.setCell ?_ (by first | (simp; done) | (simp; omega)) _)
    exact hb0
  have e3 : (s1 == 3) = false := by simpa using hg3
  by_cases hg2 : s1 = 2
  · subst hg2
    have HF : Hid (lockCode r st p v = 8) := by show _ = _; unfold lockCode; rw [HS.out]; simp [hk, hv]
    have HZ : Hid (lockRow r st p v = zeroRow) := by show _ = _; unfold lockRow; rw [HF.out]; exact if_neg (by decide)
    clear hs1
    go_wp2_with fail
    refine bodyPost_ret (v := .tuple #[.agg #[.string ⟨#[]⟩, .int .i64 0, .string ⟨#[]⟩, .string ⟨#[]⟩, .slice none 0 0], .int .i64 8]) (by simp [results, Tryd.results18, go_sem, hc2]) rfl ?_
    rw [HF.out, HZ.out]
    refine rowRet_zero ?_
    have hb0 := HL2.out
    repeat (refine Below.setCell ?_ (by first | (simp; done) | (simp; omega)) _)
    exact hb0
  have e2 : (s1 == 2) = false := by simpa using hg2
  have HA := Lib.hid hg3
  have HA2 := Lib.hid hg2
  clear hg3 hg2 hs1
  go_wp2_with fail
  refine (hasR_any (w.heap.size + 1) st A n c r.recs w2 ((HR.out.recs.at_.below HL2.out (Nat.le_refl _)).more HL2.out.size) Hm.out (by omega) (by simpa using hc1 0)).mono ?_
  rintro e w3 ⟨rfl, hb⟩
  have HL3 := Lib.hid (HL2.out.trans (hb.mono HL2.out.size))
  have HB03 := Lib.hid (blk_keep hb HB02.out (blk_lt HB02.out))
  have HB13 := Lib.hid (blk_keep hb HB12.out (blk_lt HB12.out))
  have HB23 := Lib.hid (blk_keep hb HB22.out hz)
  clear hb hc0 hf0 hc1 hf1 hc2 hf2 hz HL2 HB02 HB12 HB22
  have hz := blk_lt HB23.out
  obtain ⟨hc0, hf0⟩ := blk_read HB03.out
  obtain ⟨hc1, hf1⟩ := blk_read HB13.out
  obtain ⟨hc2, hf2⟩ := blk_read HB23.out
  cases hany : (r.recs.any fun x => decide (st < x.commit))
  rotate_left
  · have HF : Hid (lockCode r st p v = 8) := by show _ = _; unfold lockCode; rw [HS.out]; simp only [HA.out, HA2.out, hk, hv, hany]; simp
    have HZ : Hid (lockRow r st p v = zeroRow) := by show _ = _; unfold lockRow; rw [HF.out]; exact if_neg (by decide)
    clear hany
    go_wp2_with fail
    refine bodyPost_ret (v := .tuple #[.agg #[.string ⟨#[]⟩, .int .i64 0, .string ⟨#[]⟩, .string ⟨#[]⟩, .slice none 0 0], .int .i64 8]) (by simp [results, Tryd.results18, go_sem, hc2]) rfl ?_
    rw [HF.out, HZ.out]
    refine rowRet_zero ?_
    have hb0 := HL3.out
    repeat (refine Below.setCell ?_ (by first | (simp; done) | (simp; omega)) _)
    exact hb0
  by_cases hl : r.ls = 0
  rotate_left
  · have el : (r.ls != 0) = true := by simpa using hl
    have HF : Hid (lockCode r st p v = 7) := by show _ = _; unfold lockCode; rw [HS.out]; simp [HA.out, HA2.out, hk, hv, hany, hl]
    have HZ : Hid (lockRow r st p v = zeroRow) := by show _ = _; unfold lockRow; rw [HF.out]; exact if_neg (by decide)
    clear hany hl
    go_wp2_with fail
    refine bodyPost_ret (v := .tuple #[.agg #[.string ⟨#[]⟩, .int .i64 0, .string ⟨#[]⟩, .string ⟨#[]⟩, .slice none 0 0], .int .i64 7]) (by simp [results, Tryd.results18, go_sem, hc2]) rfl ?_
    rw [HF.out, HZ.out]
    refine rowRet_zero ?_
    have hb0 := HL3.out
    repeat (refine Below.setCell ?_ (by first | (simp; done) | (simp; omega)) _)
    exact hb0
  have el : (r.ls != 0) = false := by simpa using hl
  have HLs := Lib.hid hl
  clear hl
  by_cases hn : n = 100
  · have en : ((n : Int) == 100) = true := by simp; omega
    have HF : Hid (lockCode r st p v = 1) := by show _ = _; unfold lockCode; rw [HS.out]; simp only [HA.out, HA2.out, hk, hv, hany, HLs.out, Hn.out, hn]; simp
    have HZ : Hid (lockRow r st p v = zeroRow) := by show _ = _; unfold lockRow; rw [HF.out]; exact if_neg (by decide)
    clear hany hn
    go_wp2_with fail
    refine bodyPost_ret (v := .tuple #[.agg #[.string ⟨#[]⟩, .int .i64 0, .string ⟨#[]⟩, .string ⟨#[]⟩, .slice none 0 0], .int .i64 1]) (by simp [results, Tryd.results18, go_sem, hc2]) rfl ?_
    rw [HF.out, HZ.out]
    refine rowRet_zero ?_
    have hb0 := HL3.out
    repeat (refine Below.setCell ?_ (by first | (simp; done) | (simp; omega)) _)
    exact hb0
  have en : ((n : Int) == 100) = false := by simp; omega
  have HF : Hid (lockCode r st p v = 0) := by show _ = _; unfold lockCode; rw [HS.out]; simp only [HA.out, HA2.out, hk, hv, hany, HLs.out, Hn.out, hn]; simp
  have HZ : Hid (lockRow r st p v = { r with ls := st, lp := p, value := v }) := by show _ = _; unfold lockRow; rw [HF.out]; rfl
  clear hany hn
  go_upto_region 16 with (fail)
  go_cut [] (fun wx => ∃ A' c', Below w.heap.size w wx ∧ wx.ownsRow w.heap.size 44 3 (.slice A' n c') n (recCells r.recs) ∧ wx.heap[w.heap.size]? = some (.cells #[.string r.key, .int .i64 r.ls, .string r.lp, .string r.value, .slice A' n c'] 27 (0, 0)) ∧ wx.heap[w.heap.size + 1]? = some (.cells #[.int .i64 st] 3 (0, 0)) ∧
    wx.heap[w.heap.size + 1 + 1]? = some (.cells #[.string ⟨#[]⟩, .int .i64 0, .string ⟨#[]⟩, .string ⟨#[]⟩, .slice none 0 0] 27 (0, 0)))
  case first =>
    go_wp2_with fail
    refine (rowCopy_any r A n c w3 ((HR.out.below HL3.out (Nat.le_refl _)).more HL3.out.size)).mono ?_
    rintro e w4 ⟨A', c', rfl, hown, hb⟩
    have HL4 := Lib.hid (HL3.out.trans (hb.mono HL3.out.size))
    have HO := Lib.hid (own_more hown HL3.out.size)
    have HB04 := Lib.hid (blk_keep hb HB03.out (blk_lt HB03.out))
    have HB14 := Lib.hid (blk_keep hb HB13.out (blk_lt HB13.out))
    have HB24 := Lib.hid (blk_keep hb HB23.out hz)
    clear hb hown hc0 hf0 hc1 hf1 hc2 hf2 hz
    obtain ⟨hc0, hf0⟩ := blk_read HB04.out
    go_wp2_with fail
    go_meet
    exact ⟨A', c', below_row5 HL4.out (Nat.le_refl _) _ _ _ _ _, own_row5_far HO.out (own_ne HO.out HB04.out (by decide)) _ _ _ _ _, blk_row5 HB04.out _ _ _ _ _, blk_row5_far HB14.out (by omega) _ _ _ _ _, blk_row5_far HB24.out (by omega) _ _ _ _ _⟩
  case rest =>
    obtain ⟨A', c', hb, hown, hB0, hB1, hB2⟩ := hcut
    have HO := Lib.hid hown
    have HL5 := Lib.hid hb
    have HB05 := Lib.hid hB0
    have HB25 := Lib.hid hB2
    have hz := blk_lt hB2
    clear hc0 hf0 hc1 hf1 hc2 hf2 hb hown
    obtain ⟨hc0, hf0⟩ := blk_read hB0
    obtain ⟨hc1, hf1⟩ := blk_read hB1
    obtain ⟨hc2, hf2⟩ := blk_read hB2
    clear hB0 hB1 hB2
    go_upto_region 17 with (fail)
    go_cut [] (fun wx => Below w.heap.size w wx ∧ wx.ownsRow w.heap.size 44 3 (.slice A' n c') n (recCells r.recs) ∧ wx.heap[w.heap.size]? = some (.cells #[.string r.key, .int .i64 st, .string p, .string v, .slice A' n c'] 27 (0, 0)) ∧
      wx.heap[w.heap.size + 1 + 1]? = some (.cells #[.string ⟨#[]⟩, .int .i64 0, .string ⟨#[]⟩, .string ⟨#[]⟩, .slice none 0 0] 27 (0, 0)))
    case first =>
      go_wp2_with fail
      go_meet
      have hne := own_ne HO.out HB05.out (by decide)
      exact ⟨((HL5.out.setCell (p := ⟨w.heap.size, 1, none⟩) (Nat.le_refl _) _).setCell (p := ⟨w.heap.size, 2, none⟩) (Nat.le_refl _) _).setCell (p := ⟨w.heap.size, 3, none⟩) (Nat.le_refl _) _, own_far (own_far (own_far HO.out hne _) hne _) hne _, by simpa using blk_set (blk_set (blk_set HB05.out 1 (.int .i64 st)) 2 (.string p)) 3 (.string v), blk_far (blk_far (blk_far HB25.out (by simp; omega) _) (by simp; omega) _) (by simp; omega) _⟩
    case rest =>
      obtain ⟨hb, hown, hB0, hB2⟩ := hcut
      have HO6 := Lib.hid hown
      have HL6 := Lib.hid hb
      have HB06 := Lib.hid hB0
      have HB26 := Lib.hid hB2
      clear hc0 hf0 hc1 hf1 hc2 hf2 hb hown
      obtain ⟨hc0, hf0⟩ := blk_read hB0
      obtain ⟨hc2, hf2⟩ := blk_read hB2
      clear hB0 hB2
      go_wp2_with fail
      refine bodyPost_ret (v := .tuple #[.agg #[.string r.key, .int .i64 st, .string p, .string v, .slice A' n c'], .int .i64 0]) (by simp [results, Tryd.results18, go_sem, hc2]) rfl ?_
      rw [HF.out, HZ.out]
      refine ⟨A', c', by rw [Hn.out], ?_, below_row5 HL6.out (by omega) _ _ _ _ _⟩
      show World.ownsRow _ _ _ _ (.slice A' r.recs.length c') r.recs.length (recCells r.recs)
      rw [Hn.out]
      exact own_row5_far HO6.out (own_ne HO6.out HB26.out (by decide)) _ _ _ _ _
end Go.Proofs.YtniomgngiiiklabDoor
