/- The walk of row.LockFor. -/
import Derived.Test.YtniomgngiiiklabRowsBM
import Derived.Test.YtniomgngiiiklabCopiesM
import Derived.Deep.DeepCutAuto
import Derived.Test.YtniomgngiiiklabSiteWM
import Derived.Test.YtniomgngiiiklabEndsM
import Derived.Test.YtniomgngiiiklabPlainM
namespace Go.Proofs.Ytniomgngiiiklab
open Go.RowKit

set_option maxRecDepth 100000 in
set_option maxHeartbeats 8000000 in
theorem lockFor_any (r : MRow) (st : Int) (p v : ByteArray) (A : Option Addr) (n c : Nat) (w : World) (h : RowOk w w.heap.size r A n c) :
    Calls Try.prog 83 #[.agg #[.string r.key, .int .i64 r.ls, .string r.lp, .string r.value, .slice A n c], .int .i64 st, .string p, .string v] w (RowRet w (lockRow r st p v) (lockCode r st p v)) := by
  have HR := Lib.hid h
  have hsm := h.recs.small
  have Hn := Lib.hid h.recs.at_.1
  have Hm : Hid (n ≤ maxLen) := by show _ ≤ _; unfold maxLen; omega
  clear h
  go_enter Try.func83, Try.ntmps83
  go_wp2_with fail
  have hb0 := ((((Below.refl w.heap.size w).alloc (Nat.le_refl _) (.cells #[.string r.key, .int .i64 r.ls, .string r.lp, .string r.value, .slice A n c] 26)).alloc (by simp) (.cells #[.int .i64 st] 3)).alloc (by simp; omega) (.cells #[.string ⟨#[]⟩, .int .i64 0, .string ⟨#[]⟩, .string ⟨#[]⟩, .slice none 0 0] 26))
  refine (status_any r st A n c _ ((HR.out.recs.at_.below hb0 (Nat.le_refl _)).more (by simp; omega)) Hm.out).mono ?_
  rintro e w1 ⟨rfl, hb⟩
  have HL := Lib.hid (hb0.trans (hb.mono (by simp; omega)))
  have HB0 := Lib.hid (blk_keep hb (g := w.heap.size) (blk_old (blk_old (blk_new w _ _) _) _) (by simp; omega))
  have HB1 := Lib.hid (blk_keep hb (g := w.heap.size + 1) (blk_old (blk_new_at (w.alloc _) _ _ (by simp)) _) (by first | (simp; done) | (simp; omega)))
  have HB2 := Lib.hid (blk_keep hb (g := w.heap.size + 1 + 1) (blk_new_at ((w.alloc _).alloc _) _ _ (by simp)) (by simp))
  have hz := blk_lt HB2.out
  clear hb hb0
  obtain ⟨hc0, hf0⟩ := blk_read HB0.out
  obtain ⟨hc1, hf1⟩ := blk_read HB1.out
  obtain ⟨hc2, hf2⟩ := blk_read HB2.out
  obtain ⟨hs1, hs2⟩ := statusF_bounds r st
  generalize hstat : statusF r st = stt at hs1 hs2
  obtain ⟨s1, s2, s3⟩ := stt
  have HS := Lib.hid hstat
  clear hstat
  unfold stVal
  dsimp only at hs1 hs2 ⊢
  by_cases h3 : s3 = 0
  rotate_left
  · have HF : Hid (lockCode r st p v = s3) := by show _ = _; unfold lockCode; rw [HS.out]; exact if_pos h3
    have e3 : (s3 != 0) = true := by simpa using h3
    have HZ : Hid (lockRow r st p v = zeroRow) := by show _ = _; unfold lockRow; rw [HF.out, if_neg h3]
    clear h3 hs1 hs2
    go_wp2_with fail
    refine bodyPost_ret (v := .tuple #[.agg #[.string ⟨#[]⟩, .int .i64 0, .string ⟨#[]⟩, .string ⟨#[]⟩, .slice none 0 0], .int .i64 s3]) (by simp [results, Try.results83, go_sem, hc2]) rfl ?_
    rw [HF.out, HZ.out]
    refine rowRet_zero ?_
    have hb0 := HL.out
    repeat (refine Below.setCell ?_ (by first | (simp; done) | (simp; omega)) _)
    exact hb0
  subst h3
  clear hs2
  cases hk : keyB p
  · have HF : Hid (lockCode r st p v = 4) := by show _ = _; unfold lockCode; rw [HS.out]; simp [hk]
    have HZ : Hid (lockRow r st p v = zeroRow) := by show _ = _; unfold lockRow; rw [HF.out]; exact if_neg (by decide)
    clear hs1
    go_wp2_with fail
    refine (key_any _ _).mono ?_
    rintro e w2 ⟨rfl, hb⟩
    have HL2 := Lib.hid (HL.out.trans (hb.mono HL.out.size))
    have HB22 := Lib.hid (blk_keep hb HB2.out hz)
    clear hb hc2 hf2
    obtain ⟨hc2, hf2⟩ := blk_read HB22.out
    go_wp2_with fail
    refine bodyPost_ret (v := .tuple #[.agg #[.string ⟨#[]⟩, .int .i64 0, .string ⟨#[]⟩, .string ⟨#[]⟩, .slice none 0 0], .int .i64 4]) (by simp [results, Try.results83, go_sem, hc2]) rfl ?_
    rw [HF.out, HZ.out]
    refine rowRet_zero ?_
    have hb0 := HL2.out
    repeat (refine Below.setCell ?_ (by first | (simp; done) | (simp; omega)) _)
    exact hb0
  go_wp2_with fail
  refine (key_any _ _).mono ?_
  rintro e w2 ⟨rfl, hb⟩
  have HL2 := Lib.hid (HL.out.trans (hb.mono HL.out.size))
  have HB02 := Lib.hid (blk_keep hb HB0.out (blk_lt HB0.out))
  have HB12 := Lib.hid (blk_keep hb HB1.out (blk_lt HB1.out))
  have HB22 := Lib.hid (blk_keep hb HB2.out hz)
  clear hb hc0 hf0 hc1 hf1 hc2 hf2 hz HL HB0 HB1 HB2
  have hz := blk_lt HB22.out
  obtain ⟨hc0, hf0⟩ := blk_read HB02.out
  obtain ⟨hc1, hf1⟩ := blk_read HB12.out
  obtain ⟨hc2, hf2⟩ := blk_read HB22.out
  by_cases hv : 20 < v.size
  · have HF : Hid (lockCode r st p v = 1) := by show _ = _; unfold lockCode; rw [HS.out]; simp [hk, hv]
    have HZ : Hid (lockRow r st p v = zeroRow) := by show _ = _; unfold lockRow; rw [HF.out]; exact if_neg (by decide)
    clear hs1
    go_wp2_with fail
    refine bodyPost_ret (v := .tuple #[.agg #[.string ⟨#[]⟩, .int .i64 0, .string ⟨#[]⟩, .string ⟨#[]⟩, .slice none 0 0], .int .i64 1]) (by simp [results, Try.results83, go_sem, hc2]) rfl ?_
    rw [HF.out, HZ.out]
    refine rowRet_zero ?_
    have hb0 := HL2.out
    repeat (refine Below.setCell ?_ (by first | (simp; done) | (simp; omega)) _)
    exact hb0
  by_cases hg3 : s1 = 3
  · subst hg3
    have HF : Hid (lockCode r st p v = 9) := by show _ = _; unfold lockCode; rw [HS.out]; simp [hk, hv]
    have HZ : Hid (lockRow r st p v = zeroRow) := by show _ = _; unfold lockRow; rw [HF.out]; exact if_neg (by decide)
    clear hs1
    go_wp2_with fail
    refine bodyPost_ret (v := .tuple #[.agg #[.string ⟨#[]⟩, .int .i64 0, .string ⟨#[]⟩, .string ⟨#[]⟩, .slice none 0 0], .int .i64 9]) (by simp [results, Try.results83, go_sem, hc2]) rfl ?_
    rw [HF.out, HZ.out]
    refine rowRet_zero ?_
    have hb0 := HL2.out
    repeat (refine Below.setCell ?_ (by first | (simp; done) | (simp; omega)) _)
    exact hb0
  have e3 : (s1 == 3) = false := by simpa using hg3
  by_cases hg2 : s1 = 2
  · subst hg2
    have HF : Hid (lockCode r st p v = 8) := by show _ = _; unfold lockCode; rw [HS.out]; simp [hk, hv]
    have HZ : Hid (lockRow r st p v = zeroRow) := by show _ = _; unfold lockRow; rw [HF.out]; exact if_neg (by decide)
    clear hs1
    go_wp2_with fail
    refine bodyPost_ret (v := .tuple #[.agg #[.string ⟨#[]⟩, .int .i64 0, .string ⟨#[]⟩, .string ⟨#[]⟩, .slice none 0 0], .int .i64 8]) (by simp [results, Try.results83, go_sem, hc2]) rfl ?_
    rw [HF.out, HZ.out]
    refine rowRet_zero ?_
    have hb0 := HL2.out
    repeat (refine Below.setCell ?_ (by first | (simp; done) | (simp; omega)) _)
    exact hb0
  have e2 : (s1 == 2) = false := by simpa using hg2
  have HA := Lib.hid hg3
  have HA2 := Lib.hid hg2
  clear hg3 hg2 hs1
  go_wp2_with fail
  refine (hasR_any (w.heap.size + 1) st A n c r.recs w2 ((HR.out.recs.at_.below HL2.out (Nat.le_refl _)).more HL2.out.size) Hm.out (by omega) (by simpa using hc1 0)).mono ?_
  rintro e w3 ⟨rfl, hb⟩
  have HL3 := Lib.hid (HL2.out.trans (hb.mono HL2.out.size))
  have HB03 := Lib.hid (blk_keep hb HB02.out (blk_lt HB02.out))
  have HB13 := Lib.hid (blk_keep hb HB12.out (blk_lt HB12.out))
  have HB23 := Lib.hid (blk_keep hb HB22.out hz)
  clear hb hc0 hf0 hc1 hf1 hc2 hf2 hz HL2 HB02 HB12 HB22
  have hz := blk_lt HB23.out
  obtain ⟨hc0, hf0⟩ := blk_read HB03.out
  obtain ⟨hc1, hf1⟩ := blk_read HB13.out
  obtain ⟨hc2, hf2⟩ := blk_read HB23.out
  cases hany : (r.recs.any fun x => decide (st < x.commit))
  rotate_left
  · have HF : Hid (lockCode r st p v = 8) := by show _ = _; unfold lockCode; rw [HS.out]; simp only [HA.out, HA2.out, hk, hv, hany]; simp
    have HZ : Hid (lockRow r st p v = zeroRow) := by show _ = _; unfold lockRow; rw [HF.out]; exact if_neg (by decide)
    clear hany
    go_wp2_with fail
    refine bodyPost_ret (v := .tuple #[.agg #[.string ⟨#[]⟩, .int .i64 0, .string ⟨#[]⟩, .string ⟨#[]⟩, .slice none 0 0], .int .i64 8]) (by simp [results, Try.results83, go_sem, hc2]) rfl ?_
    rw [HF.out, HZ.out]
    refine rowRet_zero ?_
    have hb0 := HL3.out
    repeat (refine Below.setCell ?_ (by first | (simp; done) | (simp; omega)) _)
    exact hb0
  by_cases hl : r.ls = 0
  rotate_left
  · have el : (r.ls != 0) = true := by simpa using hl
    have HF : Hid (lockCode r st p v = 7) := by show _ = _; unfold lockCode; rw [HS.out]; simp [HA.out, HA2.out, hk, hv, hany, hl]
    have HZ : Hid (lockRow r st p v = zeroRow) := by show _ = _; unfold lockRow; rw [HF.out]; exact if_neg (by decide)
    clear hany hl
    go_wp2_with fail
    refine bodyPost_ret (v := .tuple #[.agg #[.string ⟨#[]⟩, .int .i64 0, .string ⟨#[]⟩, .string ⟨#[]⟩, .slice none 0 0], .int .i64 7]) (by simp [results, Try.results83, go_sem, hc2]) rfl ?_
    rw [HF.out, HZ.out]
    refine rowRet_zero ?_
    have hb0 := HL3.out
    repeat (refine Below.setCell ?_ (by first | (simp; done) | (simp; omega)) _)
    exact hb0
  have el : (r.ls != 0) = false := by simpa using hl
  have HLs := Lib.hid hl
  clear hl
  by_cases hn : n = 100
  · have en : ((n : Int) == 100) = true := by simp; omega
    have HF : Hid (lockCode r st p v = 1) := by show _ = _; unfold lockCode; rw [HS.out]; simp only [HA.out, HA2.out, hk, hv, hany, HLs.out, Hn.out, hn]; simp
    have HZ : Hid (lockRow r st p v = zeroRow) := by show _ = _; unfold lockRow; rw [HF.out]; exact if_neg (by decide)
    clear hany hn
    go_wp2_with fail
    refine bodyPost_ret (v := .tuple #[.agg #[.string ⟨#[]⟩, .int .i64 0, .string ⟨#[]⟩, .string ⟨#[]⟩, .slice none 0 0], .int .i64 1]) (by simp [results, Try.results83, go_sem, hc2]) rfl ?_
    rw [HF.out, HZ.out]
    refine rowRet_zero ?_
    have hb0 := HL3.out
    repeat (refine Below.setCell ?_ (by first | (simp; done) | (simp; omega)) _)
    exact hb0
  have en : ((n : Int) == 100) = false := by simp; omega
  have HF : Hid (lockCode r st p v = 0) := by show _ = _; unfold lockCode; rw [HS.out]; simp only [HA.out, HA2.out, hk, hv, hany, HLs.out, Hn.out, hn]; simp
  have HZ : Hid (lockRow r st p v = { r with ls := st, lp := p, value := v }) := by show _ = _; unfold lockRow; rw [HF.out]; rfl
  clear hany hn
  go_upto_region 16 with (fail)
  go_cut [] (fun wx => ∃ A' c', Below w.heap.size w wx ∧ wx.ownsRow w.heap.size 55 3 (.slice A' n c') n (recCells r.recs) ∧ wx.heap[w.heap.size]? = some (.cells #[.string r.key, .int .i64 r.ls, .string r.lp, .string r.value, .slice A' n c'] 26 (0, 0)) ∧ wx.heap[w.heap.size + 1]? = some (.cells #[.int .i64 st] 3 (0, 0)) ∧
    wx.heap[w.heap.size + 1 + 1]? = some (.cells #[.string ⟨#[]⟩, .int .i64 0, .string ⟨#[]⟩, .string ⟨#[]⟩, .slice none 0 0] 26 (0, 0)))
  case first =>
    go_wp2_with fail
    refine (rowCopy_any r A n c w3 ((HR.out.below HL3.out (Nat.le_refl _)).more HL3.out.size)).mono ?_
    rintro e w4 ⟨A', c', rfl, hown, hb⟩
    have HL4 := Lib.hid (HL3.out.trans (hb.mono HL3.out.size))
    have HO := Lib.hid (own_more hown HL3.out.size)
    have HB04 := Lib.hid (blk_keep hb HB03.out (blk_lt HB03.out))
    have HB14 := Lib.hid (blk_keep hb HB13.out (blk_lt HB13.out))
    have HB24 := Lib.hid (blk_keep hb HB23.out hz)
    clear hb hown hc0 hf0 hc1 hf1 hc2 hf2 hz
    obtain ⟨hc0, hf0⟩ := blk_read HB04.out
    go_wp2_with fail
    go_meet
    exact ⟨A', c', below_row5 HL4.out (Nat.le_refl _) _ _ _ _ _, own_row5_far HO.out (own_ne HO.out HB04.out (by decide)) _ _ _ _ _, blk_row5 HB04.out _ _ _ _ _, blk_row5_far HB14.out (by omega) _ _ _ _ _, blk_row5_far HB24.out (by omega) _ _ _ _ _⟩
  case rest =>
    obtain ⟨A', c', hb, hown, hB0, hB1, hB2⟩ := hcut
    have HO := Lib.hid hown
    have HL5 := Lib.hid hb
    have HB05 := Lib.hid hB0
    have HB25 := Lib.hid hB2
    have hz := blk_lt hB2
    clear hc0 hf0 hc1 hf1 hc2 hf2 hb hown
    obtain ⟨hc0, hf0⟩ := blk_read hB0
    obtain ⟨hc1, hf1⟩ := blk_read hB1
    obtain ⟨hc2, hf2⟩ := blk_read hB2
    clear hB0 hB1 hB2
    go_upto_region 17 with (fail)
    go_cut [] (fun wx => Below w.heap.size w wx ∧ wx.ownsRow w.heap.size 55 3 (.slice A' n c') n (recCells r.recs) ∧ wx.heap[w.heap.size]? = some (.cells #[.string r.key, .int .i64 st, .string p, .string v, .slice A' n c'] 26 (0, 0)) ∧
      wx.heap[w.heap.size + 1 + 1]? = some (.cells #[.string ⟨#[]⟩, .int .i64 0, .string ⟨#[]⟩, .string ⟨#[]⟩, .slice none 0 0] 26 (0, 0)))
    case first =>
      go_wp2_with fail
      go_meet
      have hne := own_ne HO.out HB05.out (by decide)
      exact ⟨((HL5.out.setCell (p := ⟨w.heap.size, 1, none⟩) (Nat.le_refl _) _).setCell (p := ⟨w.heap.size, 2, none⟩) (Nat.le_refl _) _).setCell (p := ⟨w.heap.size, 3, none⟩) (Nat.le_refl _) _, own_far (own_far (own_far HO.out hne _) hne _) hne _, by simpa using blk_set (blk_set (blk_set HB05.out 1 (.int .i64 st)) 2 (.string p)) 3 (.string v), blk_far (blk_far (blk_far HB25.out (by simp; omega) _) (by simp; omega) _) (by simp; omega) _⟩
    case rest =>
      obtain ⟨hb, hown, hB0, hB2⟩ := hcut
      have HO6 := Lib.hid hown
      have HL6 := Lib.hid hb
      have HB06 := Lib.hid hB0
      have HB26 := Lib.hid hB2
      clear hc0 hf0 hc1 hf1 hc2 hf2 hb hown
      obtain ⟨hc0, hf0⟩ := blk_read hB0
      obtain ⟨hc2, hf2⟩ := blk_read hB2
      clear hB0 hB2
      go_wp2_with fail
      refine bodyPost_ret (v := .tuple #[.agg #[.string r.key, .int .i64 st, .string p, .string v, .slice A' n c'], .int .i64 0]) (by simp [results, Try.results83, go_sem, hc2]) rfl ?_
      rw [HF.out, HZ.out]
      refine ⟨A', c', by rw [Hn.out], ?_, below_row5 HL6.out (by omega) _ _ _ _ _⟩
      show World.ownsRow _ _ _ _ (.slice A' r.recs.length c') r.recs.length (recCells r.recs)
      rw [Hn.out]
      exact own_row5_far HO6.out (own_ne HO6.out HB26.out (by decide)) _ _ _ _ _
end Go.Proofs.Ytniomgngiiiklab

/- The walks of the closures of (*site).lock, (*site).close and (*site).resolve. -/
namespace Go.Proofs.Ytniomgngiiiklab
open Go.RowKit

set_option maxRecDepth 100000 in
set_option maxHeartbeats 2000000 in
theorem resolve1_any (r : MRow) (gl gm : Nat) (st cm : Int) (A : Option Addr) (n c : Nat) (w : World) (h : RowOk w w.heap.size r A n c) (hl : gl < w.heap.size) (hm : gm < w.heap.size) (hcl : w.cell? ⟨gl, 0, none⟩ = some (.int .i64 st)) (hcm : w.cell? ⟨gm, 0, none⟩ = some (.int .i64 cm)) :
    Calls Try.prog 62 #[.agg #[.string r.key, .int .i64 r.ls, .string r.lp, .string r.value, .slice A n c], .pointer (some ⟨gl, 0, none⟩), .pointer (some ⟨gm, 0, none⟩)] w (RowRet w (commitRow r st cm) (commitCode r st cm)) := by
  have HR := Lib.hid h
  clear h
  go_enter Try.func62, Try.ntmps62
  go_wp2_with fail
  have hb0 := ((Below.refl w.heap.size w).alloc (Nat.le_refl _) (.cells #[.string r.key, .int .i64 r.ls, .string r.lp, .string r.value, .slice A n c] 26)).alloc (by simp) (.cells #[.string ⟨#[]⟩, .int .i64 0, .string ⟨#[]⟩, .string ⟨#[]⟩, .slice none 0 0] 26)
  refine (commit_any r st cm A n c _ ((HR.out.below hb0 (Nat.le_refl _)).more (by simp; omega))).mono ?_
  rintro e w1 ⟨A', c', rfl, hown, hb⟩
  have HL := Lib.hid (hb0.trans (hb.mono (by simp; omega)))
  have HB1 := Lib.hid (blk_keep hb (g := w.heap.size + 1) (blk_new_at (w.alloc _) _ _ (by simp)) (by simp))
  have HO := Lib.hid (own_more (base' := w.heap.size) hown (by simp; omega))
  clear hb hb0 hown hcl hcm
  obtain ⟨hc1, hf1⟩ := blk_read HB1.out
  have hz := blk_lt HB1.out
  go_wp2_with fail
  refine bodyPost_ret (v := .tuple #[.agg #[.string (commitRow r st cm).key, .int .i64 (commitRow r st cm).ls, .string (commitRow r st cm).lp, .string (commitRow r st cm).value, .slice A' (commitRow r st cm).recs.length c'], .int .i64 (commitCode r st cm)]) (by simp [results, Try.results62, go_sem, hc1]) rfl ?_
  exact ⟨A', c', rfl, own_row5_far HO.out (own_ne HO.out HB1.out (by decide)) _ _ _ _ _, below_row5 HL.out (by omega) _ _ _ _ _⟩

set_option maxRecDepth 100000 in
set_option maxHeartbeats 4000000 in
theorem close1_any (r : MRow) (gb : Nat) (A : Option Addr) (n c : Nat) (w : World) (h : RowOk w w.heap.size r A n c) (base gs gw gc C : Nat) (M : MWorld) (x : MClient) (hS : Site w base gs gw gc C M) (hx : M.clients[C]? = some x) (hgb : gb < w.heap.size) (hcb : w.cell? ⟨gb, 0, none⟩ = some (.pointer (some ⟨gs, 0, none⟩))) :
    Calls Try.prog 85 #[.agg #[.string r.key, .int .i64 r.ls, .string r.lp, .string r.value, .slice A n c], .pointer (some ⟨gb, 0, none⟩)] w (RowRet w (commitRow r x.start x.commit) (commitCode r x.start x.commit)) := by
  obtain ⟨A1, n1, d1, m1, e1, H1, H1', hS⟩ := hS
  obtain ⟨_, hd, _, hhd, _⟩ := hS.parts
  have HR := Lib.hid h
  have HS := Lib.hid hS
  have HX := Lib.hid hx
  have HD := Lib.hid hhd
  clear h hS hx hhd
  go_enter Try.func85, Try.ntmps85
  go_wp2_with fail
  obtain ⟨v, hv⟩ : ∃ v, v = (w.alloc (.cells #[.string r.key, .int .i64 r.ls, .string r.lp, .string r.value, .slice A n c] 26)).alloc (.cells #[.string ⟨#[]⟩, .int .i64 0, .string ⟨#[]⟩, .string ⟨#[]⟩, .slice none 0 0] 26) := ⟨_, rfl⟩
  rw [← hv]
  obtain ⟨hb0, hB0, hB1⟩ : Below w.heap.size w v ∧ v.heap[w.heap.size]? = some (.cells #[.string r.key, .int .i64 r.ls, .string r.lp, .string r.value, .slice A n c] 26 (0, 0)) ∧ v.heap[w.heap.size + 1]? = some (.cells #[.string ⟨#[]⟩, .int .i64 0, .string ⟨#[]⟩, .string ⟨#[]⟩, .slice none 0 0] 26 (0, 0)) := by
    rw [hv]; exact blk_new2 w
  have HL := Lib.hid hb0
  have HB0 := Lib.hid hB0
  have HB1 := Lib.hid hB1
  have HS1 := Lib.hid (HS.out.below hb0 (Nat.le_refl _))
  have HRv : Hid (RowOk v v.heap.size r A n c) := (HR.out.below hb0 (Nat.le_refl _)).more hb0.size
  have hcb1 := (hb0.cell (p := ⟨gb, 0, none⟩) hgb).trans hcb
  have HCB := Lib.hid hcb1
  clear hcb hb0 hB0 hB1 hv
  have hsz := blk_lt HB1.out
  obtain ⟨hc0, hf0⟩ := blk_read HB0.out
  obtain ⟨hcs, hfs⟩ := blk_read HS1.out.site
  obtain ⟨c0, c1, c2, c3, c4⟩ := HS1.out.cells HX.out HD.out
  have hgs : gs < w.heap.size := blk_lt HS.out.site
  have hgc : gc < w.heap.size := by obtain ⟨cur, hcur, _⟩ := own_blk HS.out.clients.2.2.1; exact blk_lt hcur
  have hn1 : ¬ (w.heap.size + 1 = gb) := by omega
  have hn2 : ¬ (w.heap.size + 1 = gs) := by omega
  have hn3 : ¬ (w.heap.size + 1 = gc) := by omega
  have hn4 : ¬ (gb = w.heap.size + 1) := by omega
  have hn5 : ¬ (gs = w.heap.size + 1) := by omega
  have hn6 : ¬ (gc = w.heap.size + 1) := by omega
  go_region_held3 (fun w' => w'.cell? ⟨w.heap.size, 0, none⟩ = some (.string r.key) ∧ w'.cell? ⟨w.heap.size, 1, none⟩ = some (.int .i64 r.ls) ∧ w'.cell? ⟨w.heap.size, 2, none⟩ = some (.string r.lp) ∧ w'.cell? ⟨w.heap.size, 3, none⟩ = some (.string r.value) ∧ w'.cell? ⟨w.heap.size, 4, none⟩ = some (.slice A n c) ∧
      w'.cell? ⟨gb, 0, none⟩ = some (.pointer (some ⟨gs, 0, none⟩)) ∧ w'.cell? ⟨gs, 1, none⟩ = some (.pointer (some ⟨gc, C * 5, none⟩)) ∧ w'.cell? ⟨gc, C * 5 + 1, none⟩ = some (.int .i64 x.start) ∧ w'.cell? ⟨gc, C * 5 + 2, none⟩ = some (.int .i64 x.commit))
    (first | go_keep)
    ((go_simp; go_at_call 63; refine (commit_any r x.start x.commit A n c _ (by exact HRv.out.below ((Below.refl _ v).drew) (Nat.le_refl _))).mono ?_; rintro e w1 ⟨A', c', rfl, hown, hb⟩; have hb' : Below v.heap.size v w1 := ((Below.refl _ v).drew).trans hb; obtain ⟨hc01, hf01⟩ := blk_read (blk_keep hb' HB0.out (by omega)); obtain ⟨hc11, hf11⟩ := blk_read (blk_keep hb' HB1.out hsz); obtain ⟨hcs1, hfs1⟩ := blk_read (HS1.out.below hb' (Nat.le_refl _)).site; obtain ⟨d0, d1, d2, d3, d4⟩ := (HS1.out.below hb' (Nat.le_refl _)).cells HX.out HD.out; have hcb2 := (hb'.cell (p := ⟨gb, 0, none⟩) (by show gb < v.heap.size; omega)).trans HCB.out))
  go_wp2_with fail
  refine bodyPost_ret (v := .tuple #[.agg #[.string (commitRow r x.start x.commit).key, .int .i64 (commitRow r x.start x.commit).ls, .string (commitRow r x.start x.commit).lp, .string (commitRow r x.start x.commit).value, .slice A' (commitRow r x.start x.commit).recs.length c'], .int .i64 (commitCode r x.start x.commit)]) (by simp [results, Try.results85, go_sem, hc11]) rfl ?_
  have hB1 := blk_keep hb' HB1.out hsz
  exact ⟨A', c', rfl, own_row5_far (own_more (base' := w.heap.size) hown (by show _ ≤ v.heap.size; omega)) (own_ne hown hB1 (by decide)) _ _ _ _ _, below_row5 (HL.out.trans (hb'.mono (by omega))) (by omega) _ _ _ _ _⟩
set_option maxRecDepth 100000 in
set_option maxHeartbeats 4000000 in
theorem lock1_any (r : MRow) (gb gx : Nat) (A : Option Addr) (n c : Nat) (w : World) (h : RowOk w w.heap.size r A n c) (base gs gw gc C : Nat) (M : MWorld) (x : MClient) (hS : Site w base gs gw gc C M) (hx : M.clients[C]? = some x) (hgb : gb < w.heap.size) (hcb : w.cell? ⟨gb, 0, none⟩ = some (.pointer (some ⟨gs, 0, none⟩))) (y0 y : MWrite) (hy0 : x.writes[0]? = some y0) (hgx : gx < w.heap.size) (hcx : w.cell? ⟨gx, 1, none⟩ = some (.string y.value)) :
    Calls Try.prog 82 #[.agg #[.string r.key, .int .i64 r.ls, .string r.lp, .string r.value, .slice A n c], .pointer (some ⟨gb, 0, none⟩), .pointer (some ⟨gx, 0, none⟩)] w (RowRet w (lockRow r x.start y0.key y.value) (lockCode r x.start y0.key y.value)) := by
  obtain ⟨A1, n1, d1, m1, e1, H1, H1', hS⟩ := hS
  obtain ⟨_, hd, _, hhd, _⟩ := hS.parts
  have HR := Lib.hid h
  have HS := Lib.hid hS
  have HX := Lib.hid hx
  have HD := Lib.hid hhd
  have HY0 := Lib.hid hy0
  have HW := Lib.hid (hS.writes hx hhd)
  clear h hS hx hhd hy0
  go_enter Try.func82, Try.ntmps82
  go_wp2_with fail
  obtain ⟨v, hv⟩ : ∃ v, v = (w.alloc (.cells #[.string r.key, .int .i64 r.ls, .string r.lp, .string r.value, .slice A n c] 26)).alloc (.cells #[.string ⟨#[]⟩, .int .i64 0, .string ⟨#[]⟩, .string ⟨#[]⟩, .slice none 0 0] 26) := ⟨_, rfl⟩
  rw [← hv]
  obtain ⟨hb0, hB0, hB1⟩ : Below w.heap.size w v ∧ v.heap[w.heap.size]? = some (.cells #[.string r.key, .int .i64 r.ls, .string r.lp, .string r.value, .slice A n c] 26 (0, 0)) ∧ v.heap[w.heap.size + 1]? = some (.cells #[.string ⟨#[]⟩, .int .i64 0, .string ⟨#[]⟩, .string ⟨#[]⟩, .slice none 0 0] 26 (0, 0)) := by
    rw [hv]; exact blk_new2 w
  have HL := Lib.hid hb0
  have HB0 := Lib.hid hB0
  have HB1 := Lib.hid hB1
  have HS1 := Lib.hid (HS.out.below hb0 (Nat.le_refl _))
  have HRv : Hid (RowOk v v.heap.size r A n c) := (HR.out.below hb0 (Nat.le_refl _)).more hb0.size
  have hcb1 := (hb0.cell (p := ⟨gb, 0, none⟩) hgb).trans hcb
  have HCB := Lib.hid hcb1
  have hcx1 := (hb0.cell (p := ⟨gx, 1, none⟩) hgx).trans hcx
  have HCX := Lib.hid hcx1
  clear hcx hcb hb0 hB0 hB1 hv
  have hsz := blk_lt HB1.out
  obtain ⟨hc0, hf0⟩ := blk_read HB0.out
  obtain ⟨hcs, hfs⟩ := blk_read HS1.out.site
  obtain ⟨c0, c1, c2, c3, c4⟩ := HS1.out.cells HX.out HD.out
  have hgs : gs < w.heap.size := blk_lt HS.out.site
  have hgc : gc < w.heap.size := by obtain ⟨cur, hcur, _⟩ := own_blk HS.out.clients.2.2.1; exact blk_lt hcur
  have hn1 : ¬ (w.heap.size + 1 = gb) := by omega
  have hn2 : ¬ (w.heap.size + 1 = gs) := by omega
  have hn3 : ¬ (w.heap.size + 1 = gc) := by omega
  have hn4 : ¬ (gb = w.heap.size + 1) := by omega
  have hn5 : ¬ (gs = w.heap.size + 1) := by omega
  have hn6 : ¬ (gc = w.heap.size + 1) := by omega
  have hW1 := HS1.out.writes HX.out HD.out
  have hl0 : 0 < x.writes.length := (List.getElem?_eq_some_iff.1 HY0.out).1
  obtain ⟨ga, hga, hgal, ha0⟩ := own_cell hW1 (writeCells_at x.writes 0 0 y0 _ HY0.out rfl)
  have hl0' : (0 : Int) < (x.writes.length : Int) := by omega
  have ha1 : v.cell? ⟨ga, 0, none⟩ = some (.string y0.key) := by simpa using ha0
  have HGA := Lib.hid hga
  rw [hga] at c3
  have hn7 : ¬ (w.heap.size + 1 = gx) := by omega
  have hn8 : ¬ (gx = w.heap.size + 1) := by omega
  have hgaw : ga < w.heap.size := by
    obtain ⟨g', e', h', _⟩ := own_cell HW.out (writeCells_at x.writes 0 0 y0 _ HY0.out rfl)
    rw [hga] at e'; injection e' with e'; injection e' with e'; omega
  have hn9 : ¬ (w.heap.size + 1 = ga) := by omega
  have hn0 : ¬ (ga = w.heap.size + 1) := by omega
  have HA1 := Lib.hid ha1
  clear hW1 ha0 hga
  go_region_held3 (fun w' => w'.cell? ⟨w.heap.size, 0, none⟩ = some (.string r.key) ∧ w'.cell? ⟨w.heap.size, 1, none⟩ = some (.int .i64 r.ls) ∧ w'.cell? ⟨w.heap.size, 2, none⟩ = some (.string r.lp) ∧ w'.cell? ⟨w.heap.size, 3, none⟩ = some (.string r.value) ∧ w'.cell? ⟨w.heap.size, 4, none⟩ = some (.slice A n c) ∧
      w'.cell? ⟨gb, 0, none⟩ = some (.pointer (some ⟨gs, 0, none⟩)) ∧ w'.cell? ⟨gs, 1, none⟩ = some (.pointer (some ⟨gc, C * 5, none⟩)) ∧ w'.cell? ⟨gc, C * 5 + 1, none⟩ = some (.int .i64 x.start) ∧ w'.cell? ⟨gc, C * 5 + 3, none⟩ = some (.slice (some ⟨ga, 0, none⟩) x.writes.length hd.2) ∧ w'.cell? ⟨ga, 0, none⟩ = some (.string y0.key) ∧ w'.cell? ⟨gx, 1, none⟩ = some (.string y.value))
    (first | go_keep)
    ((go_simp; go_at_call 83; refine (lockFor_any r x.start y0.key y.value A n c _ (by exact HRv.out.below ((Below.refl _ v).drew) (Nat.le_refl _))).mono ?_; rintro e w1 ⟨A', c', rfl, hown, hb⟩; have hb' : Below v.heap.size v w1 := ((Below.refl _ v).drew).trans hb; obtain ⟨hc01, hf01⟩ := blk_read (blk_keep hb' HB0.out (by omega)); obtain ⟨hc11, hf11⟩ := blk_read (blk_keep hb' HB1.out hsz); obtain ⟨hcs1, hfs1⟩ := blk_read (HS1.out.below hb' (Nat.le_refl _)).site; obtain ⟨d0, d1, d2, d3, d4⟩ := (HS1.out.below hb' (Nat.le_refl _)).cells HX.out HD.out; have hcb2 := (hb'.cell (p := ⟨gb, 0, none⟩) (by show gb < v.heap.size; omega)).trans HCB.out; have hcx2 := (hb'.cell (p := ⟨gx, 1, none⟩) (by show gx < v.heap.size; omega)).trans HCX.out; have ha2 := (hb'.cell (p := ⟨ga, 0, none⟩) (by show ga < v.heap.size; omega)).trans HA1.out; rw [HGA.out] at d3))
  go_wp2_with fail
  refine bodyPost_ret (v := .tuple #[.agg #[.string (lockRow r x.start y0.key y.value).key, .int .i64 (lockRow r x.start y0.key y.value).ls, .string (lockRow r x.start y0.key y.value).lp, .string (lockRow r x.start y0.key y.value).value, .slice A' (lockRow r x.start y0.key y.value).recs.length c'], .int .i64 (lockCode r x.start y0.key y.value)]) (by simp [results, Try.results82, go_sem, hc11]) rfl ?_
  have hB1 := blk_keep hb' HB1.out hsz
  exact ⟨A', c', rfl, own_row5_far (own_more (base' := w.heap.size) hown (by show _ ≤ v.heap.size; omega)) (own_ne hown hB1 (by decide)) _ _ _ _ _, below_row5 (HL.out.trans (hb'.mono (by omega))) (by omega) _ _ _ _ _⟩
end Go.Proofs.Ytniomgngiiiklab

/- The walks of (*site).lock and (*site).close. -/
namespace Go.Proofs.Ytniomgngiiiklab
open Go.RowKit

theorem lockRow_key {r : MRow} {st : Int} {p v : ByteArray} (h : lockCode r st p v = 0) : (lockRow r st p v).key = r.key := by rw [(lockRow_good h).2]
theorem commitRow_key {r : MRow} {st cm : Int} (h : commitCode r st cm = 0) : (commitRow r st cm).key = r.key := by rw [(commitRow_good h).2, withF_key]
theorem setC_same {M : MWorld} {C : Nat} {x : MClient} (hx : M.clients[C]? = some x) : setC M C x = M := by
  obtain ⟨h, rfl⟩ := List.getElem?_eq_some_iff.1 hx
  unfold setC
  rw [List.set_getElem_self]
theorem writeNo_of {x : MClient} {k : Int} {j : Nat} {y : MWrite} (hk : k = j) (hy : x.writes[j]? = some y) : writeNo x k = y := by
  subst hk
  unfold writeNo
  rw [Int.toNat_natCast, hy]; rfl

/-- What a step of a client does to memory. -/
def StepRes (w : World) (base gs gw gc C : Nat) (p : MWorld × Int) (e : Ending) (w' : World) : Prop :=
  e = .returned (.int .i64 p.2) ∧ Site w' base gs gw gc C p.1 ∧ Keeps [26, 36, 58] base w w'

set_option maxRecDepth 100000 in
set_option maxHeartbeats 4000000 in
theorem site_lock_any (base gs gw gc C : Nat) (M : MWorld) (x : MClient) (w : World) (hS : Site w base gs gw gc C M) (hv : RowsVal M.clock M.rows) (hck : 0 ≤ M.clock) (hx : M.clients[C]? = some x) (hst : x.start ≤ M.clock) (hwk : ∀ y ∈ x.writes, y.key.size ≤ maxLen) (hwl : x.writes.length ≤ 6) (hat : 0 ≤ x.at_ ∧ x.at_ < x.writes.length) :
    Calls Try.prog 58 #[.pointer (some ⟨gs, 0, none⟩)] w (StepRes w base gs gw gc C (lockM M C x)) := by
  obtain ⟨A, n, c, m, c', H, H', hS⟩ := hS
  obtain ⟨_, hd, _, hhd, _⟩ := hS.parts
  obtain ⟨j, hj⟩ : ∃ j : Nat, x.at_ = j := ⟨x.at_.toNat, by omega⟩
  have hjl : j < x.writes.length := by omega
  have hy : x.writes[j]? = some x.writes[j] := List.getElem?_eq_getElem hjl
  have hy0 : x.writes[0]? = some (x.writes[0]'(by omega)) := List.getElem?_eq_getElem (by omega)
  generalize x.writes[j] = y at hy
  generalize x.writes[0]'(by omega) = y0 at hy0
  have HY := Lib.hid hy
  have HY0 := Lib.hid hy0
  have HS := Lib.hid hS
  have HV := Lib.hid hv
  have HCK := Lib.hid hck
  have HX := Lib.hid hx
  have HD := Lib.hid hhd
  have HST := Lib.hid hst
  have HWK := Lib.hid hwk
  have HWL := Lib.hid hwl
  have HJ := Lib.hid hj
  have HKY : Hid (y.key.size ≤ maxLen) := hwk y (List.mem_of_getElem? hy)
  clear hS hv hck hx hhd hst hwk hat hy hy0
  go_enter Try.func58, Try.ntmps58
  go_upto_region 1 with (fail)
  obtain ⟨v, hv⟩ : ∃ v, v = w.alloc (.cells #[.pointer (some ⟨gs, 0, none⟩)] 60) := ⟨_, rfl⟩
  rw [← hv]
  have HK1 : Hid (Keeps [26, 36] base w v) := by rw [hv]; exact (Keeps.refl _ _ w).alloc _ HS.out.size
  have HS1 : Hid (SiteAt v base gs gw gc C M A n c m c' H H') := by rw [hv]; exact HS.out.below ((Below.refl _ _).alloc (Nat.le_refl _) _) (Nat.le_refl _)
  have HB1 : Hid (v.heap[w.heap.size]? = some (.cells #[.pointer (some ⟨gs, 0, none⟩)] 60 (0, 0))) := by show _ = _; rw [hv]; exact blk_new _ _ _
  clear hv
  obtain ⟨hcs, hfs⟩ := blk_read HS1.out.site
  obtain ⟨hcb, hfb⟩ := blk_read HB1.out
  obtain ⟨c0, c1, c2, c3, c4⟩ := HS1.out.cells HX.out HD.out
  obtain ⟨ga, hga, hzga, ha0⟩ := own_cell (HS1.out.writes HX.out HD.out) (writeCells_at x.writes j 0 y _ HY.out rfl)
  obtain ⟨ga', hga', _, ha1⟩ := own_cell (HS1.out.writes HX.out HD.out) (writeCells_at x.writes j 1 y _ HY.out rfl)
  obtain rfl : ga = ga' := by rw [hga] at hga'; injection hga' with e; injection e with e
  simp only [Nat.add_zero] at ha0
  rw [HJ.out] at c4
  rw [hga] at c3
  have hj0 : (0 : Int) ≤ (j : Int) := by omega
  have hji : (j : Int) < (x.writes.length : Int) := by omega
  clear hga hga'
  have hzs := blk_lt HS1.out.site
  have hzb := blk_lt HB1.out
  have hzc : gc < v.heap.size := by obtain ⟨cur, hcur, _⟩ := own_blk HS1.out.clients.2.2.1; exact blk_lt hcur
  go_region_held3 (fun w' => w'.cell? ⟨w.heap.size, 0, none⟩ = some (.pointer (some ⟨gs, 0, none⟩)) ∧ w'.cell? ⟨gs, 1, none⟩ = some (.pointer (some ⟨gc, C * 5, none⟩)) ∧ w'.cell? ⟨gc, C * 5 + 3, none⟩ = some (.slice (some ⟨ga, 0, none⟩) x.writes.length hd.2) ∧ w'.cell? ⟨gc, C * 5 + 4, none⟩ = some (.int .i64 (j : Int)) ∧ w'.cell? ⟨ga, j * 2, none⟩ = some (.string y.key) ∧ w'.cell? ⟨ga, j * 2 + 1, none⟩ = some (.string y.value))
    (go_keep)
    ((fail))
  go_upto_region 2 with (fail)
  obtain ⟨v2, hv2⟩ : ∃ v2, v2 = (v.alloc (.cells #[.string y.key, .string y.value] 76)).drew := ⟨_, rfl⟩
  rw [← hv2]
  have HK2 : Hid (Keeps [26, 36] base w v2) := by rw [hv2]; exact (HK1.out.alloc _ HS1.out.size).drew
  have hb2 : Below v.heap.size v v2 := by rw [hv2]; exact ((Below.refl _ _).alloc (Nat.le_refl _) _).drew
  have HS2 := Lib.hid (HS1.out.below hb2 (Nat.le_refl _))
  have HB2 := Lib.hid (blk_keep hb2 HB1.out (blk_lt HB1.out))
  have HX2 : Hid (v2.heap[v.heap.size]? = some (.cells #[.string y.key, .string y.value] 76 (0, 0))) := by show _ = _; rw [hv2]; exact blk_new _ _ _
  clear hv2 hb2 hcs hfs hcb hfb c0 c1 c2 c3 c4 ha0 ha1 hzs hzb hzc hzga
  obtain ⟨hcb, hfb⟩ := blk_read HB2.out
  obtain ⟨hcx, hfx⟩ := blk_read HX2.out
  have hzb := blk_lt HB2.out
  have hzx := blk_lt HX2.out
  go_wp2_with fail
  refine (site_at_any 82 _ (.inr (.inr (.inl ⟨rfl, _, _, rfl⟩))) (fun r => lockRow r x.start y0.key y.value) (fun r => lockCode r x.start y0.key y.value) (fun r hr => lockRow_key hr) M.clock y.key HKY.out base gs gw gc C M _ HS2.out.any HV.out (fun r A n c W hb hr => ?hp)).mono ?_
  case hp => exact lock1_any r w.heap.size v.heap.size A n c W hr base gs gw gc C M x (HS2.out.any.below hb (Nat.le_refl _)) HX.out (Nat.lt_of_lt_of_le hzb hb.size) ((hb.cell (p := ⟨w.heap.size, 0, none⟩) hzb).trans (by simpa using hcb 0)) y0 y HY0.out (Nat.lt_of_lt_of_le hzx hb.size) ((hb.cell (p := ⟨v.heap.size, 1, none⟩) hzx).trans (by simpa using hcx 1))
  rintro e w3 ⟨rfl, hS3, hk3⟩
  obtain ⟨p, hp⟩ : ∃ p, p = lockAt M.rows x := ⟨_, rfl⟩
  have hpe : atRow M.rows y.key (fun r => lockRow r x.start y0.key y.value) (fun r => lockCode r x.start y0.key y.value) = p := by
    rw [hp]; unfold lockAt; rw [writeNo_of HJ.out HY.out, writeNo_of (k := 0) (j := 0) rfl HY0.out]
  rw [hpe] at hS3 ⊢
  obtain ⟨A3, n3, d3, m3, e3, H3, H3', hS3⟩ := hS3
  have HP := Lib.hid hp
  have HS3 := Lib.hid hS3
  have HB3 := Lib.hid (hk3.blk HB2.out (by decide))
  have HK3 := Lib.hid (HK2.out.trans hk3)
  have HMISS : Hid (p.2 ≠ 0 → p.1 = M.rows) := fun h => by rw [← hpe] at h ⊢; exact atRow_miss h
  clear hp hpe hS3 hk3 hcb hfb hcx hfx hzb hzx
  obtain ⟨l, code⟩ := p
  dsimp only at HS3 HMISS ⊢
  obtain ⟨_, hd3, _, hhd3, _⟩ := HS3.out.parts
  have HD3 := Lib.hid hhd3
  clear hhd3
  obtain ⟨hcb, hfb⟩ := blk_read HB3.out
  obtain ⟨hcs, hfs⟩ := blk_read HS3.out.site
  obtain ⟨c0, c1, c2, c3, c4⟩ := HS3.out.cells HX.out HD3.out
  rw [HJ.out] at c4
  by_cases h0 : code = 0
  · subst h0
    have HL : Hid (lockM M C x = ({ M with rows := l, clients := M.clients.set C { x with at_ := x.at_ + 1 } }, 0)) := by show _ = _; unfold lockM; rw [← HP.out]; rfl
    obtain ⟨cur, hcur, _⟩ := own_blk HS3.out.clients.2.2.1
    have hfc := (blk_read hcur).2
    clear hcur
    go_wp2_with fail
    go_ret
    rw [HL.out]
    have hfin := HS3.out.put1 (i := 4) (x' := { x with at_ := x.at_ + 1 }) (u := .int .i64 (j + 1)) HX.out HD3.out (by simp [clientCells, HJ.out]) (by omega) rfl
    exact ⟨rfl, hfin.1.any, (HK3.out.wide (by simp)).trans (hfin.2.wide (by simp))⟩
  · have HM := HMISS.out h0
    subst HM
    have h0' : (code == 0) = false := by simpa using h0
    by_cases h7 : code = 7
    · subst h7
      have HL : Hid (lockM M C x = (M, 7)) := by show _ = _; unfold lockM; rw [← HP.out]; rw [if_neg h0, if_pos rfl, setC_same HX.out]
      clear h0
      go_wp2_with fail
      go_ret
      rw [HL.out]
      exact ⟨rfl, HS3.out.any, HK3.out.wide (by simp)⟩
    · have h7' : (code == 7) = false := by simpa using h7
      have HL : Hid (lockM M C x = (failM M C x, code)) := by show _ = _; unfold lockM; rw [← HP.out]; rw [if_neg h0, if_neg h7]
      clear h0 h7
      go_wp2_with fail
      refine (site_fail_any code base gs gw gc C M x w3 HS3.out.any HV.out HCK.out HX.out HST.out HWK.out HWL.out).mono ?_
      rintro e w4 ⟨rfl, hS4, hk4⟩
      have HS4 := Lib.hid hS4
      have HK4 := Lib.hid hk4
      clear hS4 hk4 hcb hfb hcs hfs c0 c1 c2 c3 c4
      go_wp2_with fail
      go_ret
      rw [HL.out]
      exact ⟨rfl, HS4.out, (HK3.out.wide (by simp)).trans HK4.out⟩
end Go.Proofs.Ytniomgngiiiklab
