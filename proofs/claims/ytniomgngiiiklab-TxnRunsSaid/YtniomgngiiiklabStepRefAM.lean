/- The walk of the reference's stepped: no step, no writes, the time. -/
import Derived.Test.YtniomgngiiiklabFactsM
namespace Go.Proofs.Ytniomgngiiiklab
open Go.RowKit

set_option maxRecDepth 100000 in
set_option maxHeartbeats 8000000 in
theorem stepped_front (C base gc n c m c' : Nat) (M : MWorld) (x : MClient) (A : Option Addr) (H H' : Heads) (w : World) (hS : RefAt w base gc M A n c m c' H H') (hg : WorldGood M) (hlt : M.clock ≠ 1099511627376) (hx : M.clients[C]? = some x) (hway : x.phase = 0 ∨ x.writes.length = 0 ∨ (x.phase ≤ 2 ∧ x.at_ = x.writes.length)) :
    Calls Try.prog 35 #[.agg #[.slice A n c, .int .i64 M.clock, .slice (some ⟨gc, 0, none⟩) m c'], .int .i64 (C : Int)] w (StepRet w base gc m c' (stepM M C x)) := by
  obtain ⟨hCm, hd, hhd⟩ := hS.head hx
  have hm5 := hS.clients.1
  have hcl := hg.clients x (List.mem_of_getElem? hx)
  have hgw := writes_good hcl
  have hwk : ∀ y ∈ x.writes, y.key.size ≤ maxLen := fun y hy => by have := key_size (hgw.2.1 y hy).1; unfold maxLen; omega
  have hck0 : 0 ≤ M.clock := hg.clock.1
  have hck1 : M.clock < 1099511627376 := by have := hg.clock.2; omega
  have HG := Lib.hid hg
  have HS := Lib.hid hS
  have HX := Lib.hid hx
  have HCL := Lib.hid hcl
  have HGW := Lib.hid hgw
  have HWK := Lib.hid hwk
  have HWO : Hid (WritesOk w w.heap.size hd.1 x.writes.length hd.2 x.writes) := WritesOk.own (hS.writes hx hhd) (by have := hgw.1; omega) hwk
  obtain ⟨nw, hnw⟩ : ∃ nw, nw = x.writes.length := ⟨_, rfl⟩
  obtain ⟨c0, c1, c2, c3, c4⟩ := hS.cells hx hhd
  have HHD := Lib.hid hhd
  obtain ⟨hA, hcap⟩ := hd
  dsimp only at c3 HWO
  rw [← hnw] at HWO c3
  have hwl : nw ≤ 6 := by rw [hnw]; exact hgw.1
  have HNW := Lib.hid hnw
  have hCi : (C : Int) < (m : Int) := by omega
  have hC0 : (0 : Int) ≤ (C : Int) := by omega
  have hzc := hS.lt.2
  clear hS hg hx hhd hcl hgw hwk hlt hnw hm5
  go_enter Try.func35, Try.ntmps35
  go_upto_region 2 with (fail)
  obtain ⟨hb0, k2, k4, k5, k6⟩ := blk_new4 w (a := #[.slice A n c, .int .i64 M.clock, .slice (some ⟨gc, 0, none⟩) m c']) (b := #[.slice none 0 0, .int .i64 0, .slice none 0 0]) (c := #[.int .i64 0, .bool false, .string ⟨#[]⟩, .int .i64 0, .int .i64 0]) (d := #[.int .i64 0, .bool false, .string ⟨#[]⟩, .int .i64 0, .int .i64 0]) (ta := 36) (tb := 36) (tc := 41) (td := 41)
  obtain ⟨wp, hwp⟩ : ∃ wp, wp = (((w.alloc (.cells #[.slice A n c, .int .i64 M.clock, .slice (some ⟨gc, 0, none⟩) m c'] 36)).alloc (.cells #[.slice none 0 0, .int .i64 0, .slice none 0 0] 36)).alloc (.cells #[.int .i64 0, .bool false, .string ⟨#[]⟩, .int .i64 0, .int .i64 0] 41)).alloc (.cells #[.int .i64 0, .bool false, .string ⟨#[]⟩, .int .i64 0, .int .i64 0] 41) := ⟨_, rfl⟩
  rw [← hwp] at hb0 k2 k4 k5 k6 ⊢
  have hsz : wp.heap.size = w.heap.size + 1 + 1 + 1 + 1 := by rw [hwp]; simp
  have HSZ := Lib.hid hsz
  obtain ⟨hc2, hf2⟩ := blk_read k2
  have HK2 := Lib.hid k2
  have HK4 := Lib.hid k4
  have HK5 := Lib.hid k5
  have HK6 := Lib.hid k6
  have HB0 := Lib.hid hb0
  clear hwp hsz c0 c1 c2 c3 c4 k2 k4 k5 k6 hb0
  obtain ⟨c0, c1, c2, c3, c4⟩ := (HS.out.below HB0.out (Nat.le_refl _)).cells HX.out HHD.out
  dsimp only at c3
  rw [← HNW.out] at c3
  go_upto_region 3 with (fail)
  obtain ⟨wq, hwq⟩ : ∃ wq, wq = wp.alloc (.cells #[.int .i64 x.phase, .int .i64 x.start, .int .i64 x.commit, .slice hA nw hcap, .int .i64 x.at_] 58) := ⟨_, rfl⟩
  rw [← hwq, HSZ.out]
  have hsz := HSZ.out
  have k2 := HK2.out
  have k4 := HK4.out
  have k5 := HK5.out
  have k6 := HK6.out
  have hb0 := HB0.out
  have k7 : wq.heap[w.heap.size + 1 + 1 + 1 + 1]? = some (.cells #[.int .i64 x.phase, .int .i64 x.start, .int .i64 x.commit, .slice hA nw hcap, .int .i64 x.at_] 58 (0, 0)) := by rw [hwq]; exact blk_new_at _ _ _ hsz.symm
  have hbq : Below wp.heap.size wp wq := by rw [hwq]; exact (Below.refl _ _).alloc (Nat.le_refl _) _
  obtain ⟨g2, e2⟩ : ∃ g2, g2 = w.heap.size := ⟨_, rfl⟩
  obtain ⟨g4, e4⟩ : ∃ g4, g4 = g2 + 1 := ⟨_, rfl⟩
  obtain ⟨g5, e5⟩ : ∃ g5, g5 = g2 + 1 + 1 := ⟨_, rfl⟩
  obtain ⟨g6, e6⟩ : ∃ g6, g6 = g2 + 1 + 1 + 1 := ⟨_, rfl⟩
  obtain ⟨g7, e7⟩ : ∃ g7, g7 = g2 + 1 + 1 + 1 + 1 := ⟨_, rfl⟩
  rw [← e2] at k2
  rw [← e2, ← e4] at k4
  rw [← e2, ← e5] at k5
  rw [← e2, ← e6] at k6
  rw [← e2, ← e7] at k7
  rw [← e2, ← e7, ← e6, ← e5, ← e4]
  have HP : Hid (StPos w base gc g2 g4 g5 g6 g7) := ⟨e2, by omega, by omega, by omega, by omega, HS.out.size, hzc⟩
  have HNE : Hid (¬ (g2 = g4) ∧ ¬ (g4 = g2) ∧ ¬ (g2 = g5) ∧ ¬ (g5 = g2) ∧ ¬ (g6 = g4) ∧ ¬ (g4 = g6) ∧ ¬ (g6 = g5) ∧ ¬ (g5 = g6) ∧ ¬ (g4 = g5) ∧ ¬ (g5 = g4)) := by show _ ∧ _; omega
  have HLE : Hid (w.heap.size ≤ g4 ∧ w.heap.size ≤ g5 ∧ g4 ≠ g5) := by show _ ∧ _; omega
  have hba := hb0.trans (hbq.mono hb0.size)
  have HST : Hid (StAt w wq base gc m c' g2 g4 g5 g6 M A n c H H' 0 0) :=
    ⟨HS.out.below hba (Nat.le_refl _), Keeps.of_below hba (Nat.le_refl _) HS.out.size, blk_keep hbq k2 (blk_lt k2), blk_keep hbq k4 (blk_lt k4), blk_keep hbq k5 (blk_lt k5), blk_keep hbq k6 (blk_lt k6)⟩
  have HB7 := Lib.hid k7
  have HBA := Lib.hid hba
  clear HK2 HK4 HK5 HK6 HB0 HSZ hc2 hf2 hwq hb0 k2 k4 k5 k6 k7 hsz hbq e2 e4 e5 e6 e7 hba c0 c1 c2 c3 c4 hzc
  obtain ⟨hc7, hf7⟩ := blk_read HB7.out
  by_cases p0 : x.phase = 0
  · have HE : Hid (stepM M C x = (M, 6, 0)) := step_idle p0
    have e0 : (x.phase == 0) = true := by simpa using p0
    clear p0
    obtain ⟨hc6, hf6⟩ := blk_read HST.out.b6
    go_upto_region 6 with (fail)
    obtain ⟨w2, hw2⟩ : ∃ w2, w2 = wq.setCell ⟨g6, 0, none⟩ (.int .i64 6) := ⟨_, rfl⟩
    rw [← hw2]
    have HST2 : Hid (StAt w w2 base gc m c' g2 g4 g5 g6 M A n c H H' 6 0) := by
      show StAt _ _ _ _ _ _ _ _ _ _ _ _ _ _ _ _ _ _
      rw [hw2]; exact HST.out.setCode HP.out 6
    clear hw2 hc6 hf6 hc7 hf7
    go_upto_region 6 with (fail)
    obtain ⟨hc2, hf2⟩ := blk_read (show w2.heap[g2]? = some (.cells #[.slice A n c, .int .i64 (M.clock), .slice (some ⟨gc, 0, none⟩) m c'] 36 (0, 0)) from HST2.out.b2)
    obtain ⟨hc4, hf4⟩ := blk_read HST2.out.b4
    obtain ⟨hc5, hf5⟩ := blk_read HST2.out.b5
    obtain ⟨hc6, hf6⟩ := blk_read HST2.out.b6
    obtain ⟨n1, n2, n3, n4, n5, n6, n7, n8, n9, n10⟩ := HNE.out
    go_cut [] (fun wx => wx.heap[g4]? = some (.cells #[.slice A n c, .int .i64 (M.clock), .slice (some ⟨gc, 0, none⟩) m c'] 36 (0, 0)) ∧ wx.heap[g5]? = some (.cells #[.int .i64 (6), .bool false, .string ⟨#[]⟩, .int .i64 0, .int .i64 (0)] 41 (0, 0)) ∧ Below w.heap.size w2 wx ∧ Keeps [36, 41] w.heap.size w2 wx)
    case first =>
      go_region
      all_goals
        go_wp2_with fail
        go_meet
        exact ref_end HST2.out.b4 HST2.out.b5 HLE.out.1 HLE.out.2.1 HLE.out.2.2 _ _ _ _ _ _ _ _
    case rest =>
      obtain ⟨h4, h5, hb, hk⟩ := hcut
      have HRES := Lib.hid (HST2.out.ended HP.out hb hk)
      clear hb hk hc2 hf2 hc4 hf4 hc5 hf5 hc6 hf6 n1 n2 n3 n4 n5 n6 n7 n8 n9 n10
      obtain ⟨hc4, hf4⟩ := blk_read h4
      obtain ⟨hc5, hf5⟩ := blk_read h5
      clear h4 h5
      go_wp2_with fail
      refine bodyPost_ret (v := .tuple #[.agg #[.slice A n c, .int .i64 (M.clock), .slice (some ⟨gc, 0, none⟩) m c'], .agg #[.int .i64 (6), .bool false, .string ⟨#[]⟩, .int .i64 0, .int .i64 (0)]]) (by simp [results, Try.results35, go_sem, hc4, hc5]) rfl ?_
      rw [HE.out]
      exact ⟨A, n, c, rfl, HRES.out⟩
  have p0' : (x.phase == 0) = false := by simpa using p0
  have HWK' : Hid (Works x) := works_of HCL.out p0
  by_cases h0 : nw = 0
  · have HE : Hid (stepM M C x = (setC M C zeroClient, 0, 0)) := step_empty HWK'.out (by rw [← HNW.out]; exact h0)
    have e0 : ((nw : Int) == 0) = true := by simp [h0]
    clear p0
    obtain ⟨hc2, hf2⟩ := blk_read HST.out.b2
    obtain ⟨c0, c1, c2, c3, c4⟩ := HST.out.at_.cells HX.out HHD.out
    have hfc := HST.out.at_.frozen
    subst h0
    go_upto_region 8 with (fail)
    go_cut [] (fun wx => StAt w wx base gc m c' g2 g4 g5 g6 (setC M C zeroClient) A n c H (H'.set C (none, 0)) 0 0)
    case first =>
      go_wp2_with fail
      go_meet
      exact HST.out.turn (HST.out.at_.putZero hCm) rfl
    case rest =>
      have HST2 := Lib.hid hcut
      clear hcut hc2 hf2 c0 c1 c2 c3 c4 hfc hc7 hf7
      go_upto_region 9 with (fail)
      obtain ⟨hc2, hf2⟩ := blk_read (show wc.heap[g2]? = some (.cells #[.slice A n c, .int .i64 (M.clock), .slice (some ⟨gc, 0, none⟩) m c'] 36 (0, 0)) from HST2.out.b2)
      obtain ⟨hc4, hf4⟩ := blk_read HST2.out.b4
      obtain ⟨hc5, hf5⟩ := blk_read HST2.out.b5
      obtain ⟨hc6, hf6⟩ := blk_read HST2.out.b6
      obtain ⟨n1, n2, n3, n4, n5, n6, n7, n8, n9, n10⟩ := HNE.out
      go_cut [] (fun wx => wx.heap[g4]? = some (.cells #[.slice A n c, .int .i64 (M.clock), .slice (some ⟨gc, 0, none⟩) m c'] 36 (0, 0)) ∧ wx.heap[g5]? = some (.cells #[.int .i64 (0), .bool false, .string ⟨#[]⟩, .int .i64 0, .int .i64 (0)] 41 (0, 0)) ∧ Below w.heap.size wc wx ∧ Keeps [36, 41] w.heap.size wc wx)
      case first =>
        go_region
        all_goals
          go_wp2_with fail
          go_meet
          exact ref_end HST2.out.b4 HST2.out.b5 HLE.out.1 HLE.out.2.1 HLE.out.2.2 _ _ _ _ _ _ _ _
      case rest =>
        obtain ⟨h4, h5, hb, hk⟩ := hcut
        have HRES := Lib.hid (HST2.out.ended HP.out hb hk)
        clear hb hk hc2 hf2 hc4 hf4 hc5 hf5 hc6 hf6 n1 n2 n3 n4 n5 n6 n7 n8 n9 n10
        obtain ⟨hc4, hf4⟩ := blk_read h4
        obtain ⟨hc5, hf5⟩ := blk_read h5
        clear h4 h5
        go_wp2_with fail
        refine bodyPost_ret (v := .tuple #[.agg #[.slice A n c, .int .i64 (M.clock), .slice (some ⟨gc, 0, none⟩) m c'], .agg #[.int .i64 (0), .bool false, .string ⟨#[]⟩, .int .i64 0, .int .i64 (0)]]) (by simp [results, Try.results35, go_sem, hc4, hc5]) rfl ?_
        rw [HE.out]
        exact ⟨A, n, c, rfl, HRES.out⟩
  have h0' : ((nw : Int) == 0) = false := by simpa using h0
  have HN0 : Hid (x.writes.length ≠ 0) := by show _ ≠ _; rw [← HNW.out]; exact h0
  by_cases hps : x.phase ≤ 2 ∧ x.at_ = (nw : Int)
  · obtain ⟨hp2, hat⟩ := hps
    have d1 : decide (x.phase ≤ 2) = true := decide_eq_true hp2
    have d2 : (x.at_ == (nw : Int)) = true := by simpa using hat
    have HE : Hid (stepM M C x = (setC { M with clock := M.clock + 1 } C { x with phase := 3, at_ := 0, commit := M.clock + 1 }, 0, M.clock + 1)) := step_seal HWK'.out HN0.out hp2 (by rw [← HNW.out]; exact hat)
    clear hp2 hat
    obtain ⟨hc2, hf2⟩ := blk_read HST.out.b2
    have m1 : ¬ (g2 = g7) := by have := HP.out.e2; have := HP.out.e7; omega
    have m2 : ¬ (g7 = g2) := fun e => m1 e.symm
    go_upto_region 15 with (fail)
    obtain ⟨w2, hw2⟩ : ∃ w2, w2 = (((wq.setCell ⟨g2, 1, none⟩ (.int .i64 (M.clock + 1))).setCell ⟨g7, 0, none⟩ (.int .i64 3)).setCell ⟨g7, 2, none⟩ (.int .i64 (M.clock + 1))).setCell ⟨g7, 4, none⟩ (.int .i64 0) := ⟨_, rfl⟩
    rw [← hw2]
    have HB72 : Hid (w2.heap[g7]? = some (.cells #[.int .i64 3, .int .i64 x.start, .int .i64 (M.clock + 1), .slice hA nw hcap, .int .i64 0] 58 (0, 0))) := by show _ = _; rw [hw2]; exact blk_set (blk_set (blk_set (blk_far HB7.out (p := ⟨g2, 1, none⟩) m2 _) 0 _) 2 _) 4 _
    have HST2 : Hid (StAt w w2 base gc m c' g2 g4 g5 g6 { M with clock := M.clock + 1 } A n c H H' 0 0) := by
      show StAt _ _ _ _ _ _ _ _ _ _ _ _ _ _ _ _ _ _
      rw [hw2]
      have a7 := blk_far HB7.out (p := ⟨g2, 1, none⟩) m2 (.int .i64 (M.clock + 1))
      exact (((HST.out.setClock HP.out (M.clock + 1)).setX HP.out a7).setX HP.out (blk_set a7 0 _)).setX HP.out (blk_set (blk_set a7 0 _) 2 _)
    clear hw2 hc2 hf2 hc7 hf7 m1 m2
    obtain ⟨hc2, hf2⟩ := blk_read (show w2.heap[g2]? = some (.cells #[.slice A n c, .int .i64 (M.clock + 1), .slice (some ⟨gc, 0, none⟩) m c'] 36 (0, 0)) from HST2.out.b2)
    obtain ⟨hc7, hf7⟩ := blk_read HB72.out
    obtain ⟨c0, c1, c2, c3, c4⟩ := HST2.out.at_.cells HX.out HHD.out
    have hfc := HST2.out.at_.frozen
    have hpt := HST2.out.at_.putSame (C := C) (x := { x with phase := 3, at_ := 0, commit := M.clock + 1 }) HX.out HHD.out rfl
    have HPT := Lib.hid hpt
    clear hpt
    go_cut [] (fun wx => StAt w wx base gc m c' g2 g4 g5 g6 (setC { M with clock := M.clock + 1 } C { x with phase := 3, at_ := 0, commit := M.clock + 1 }) A n c H H' 0 0)
    case first =>
      go_wp2_with fail
      go_meet
      refine HST2.out.turn ?_ rfl
      have hp := HPT.out
      rw [← HNW.out] at hp
      exact hp
    case rest =>
      have HST3 := Lib.hid hcut
      clear hcut hc2 hf2 c0 c1 c2 c3 c4 hfc hc7 hf7 HPT
      obtain ⟨hc2, hf2⟩ := blk_read (show wc.heap[g2]? = some (.cells #[.slice A n c, .int .i64 (M.clock + 1), .slice (some ⟨gc, 0, none⟩) m c'] 36 (0, 0)) from HST3.out.b2)
      obtain ⟨hc6, hf6⟩ := blk_read HST3.out.b6
      go_upto_region 17 with (fail)
      obtain ⟨w4, hw4⟩ : ∃ w4, w4 = wc.setCell ⟨g6, 4, none⟩ (.int .i64 (M.clock + 1)) := ⟨_, rfl⟩
      rw [← hw4]
      have HST4 : Hid (StAt w w4 base gc m c' g2 g4 g5 g6 (setC { M with clock := M.clock + 1 } C { x with phase := 3, at_ := 0, commit := M.clock + 1 }) A n c H H' 0 (M.clock + 1)) := by
        show StAt _ _ _ _ _ _ _ _ _ _ _ _ _ _ _ _ _ _
        rw [hw4]; exact HST3.out.setTime HP.out (M.clock + 1)
      clear hw4 hc2 hf2 hc6 hf6
      go_upto_region 17 with (fail)
      obtain ⟨hc2, hf2⟩ := blk_read (show w4.heap[g2]? = some (.cells #[.slice A n c, .int .i64 (M.clock + 1), .slice (some ⟨gc, 0, none⟩) m c'] 36 (0, 0)) from HST4.out.b2)
      obtain ⟨hc4, hf4⟩ := blk_read HST4.out.b4
      obtain ⟨hc5, hf5⟩ := blk_read HST4.out.b5
      obtain ⟨hc6, hf6⟩ := blk_read HST4.out.b6
      obtain ⟨n1, n2, n3, n4, n5, n6, n7, n8, n9, n10⟩ := HNE.out
      go_cut [] (fun wx => wx.heap[g4]? = some (.cells #[.slice A n c, .int .i64 (M.clock + 1), .slice (some ⟨gc, 0, none⟩) m c'] 36 (0, 0)) ∧ wx.heap[g5]? = some (.cells #[.int .i64 (0), .bool false, .string ⟨#[]⟩, .int .i64 0, .int .i64 (M.clock + 1)] 41 (0, 0)) ∧ Below w.heap.size w4 wx ∧ Keeps [36, 41] w.heap.size w4 wx)
      case first =>
        go_region
        all_goals
          go_wp2_with fail
          go_meet
          exact ref_end HST4.out.b4 HST4.out.b5 HLE.out.1 HLE.out.2.1 HLE.out.2.2 _ _ _ _ _ _ _ _
      case rest =>
        obtain ⟨h4, h5, hb, hk⟩ := hcut
        have HRES := Lib.hid (HST4.out.ended HP.out hb hk)
        clear hb hk hc2 hf2 hc4 hf4 hc5 hf5 hc6 hf6 n1 n2 n3 n4 n5 n6 n7 n8 n9 n10
        obtain ⟨hc4, hf4⟩ := blk_read h4
        obtain ⟨hc5, hf5⟩ := blk_read h5
        clear h4 h5
        go_wp2_with fail
        refine bodyPost_ret (v := .tuple #[.agg #[.slice A n c, .int .i64 (M.clock + 1), .slice (some ⟨gc, 0, none⟩) m c'], .agg #[.int .i64 (0), .bool false, .string ⟨#[]⟩, .int .i64 0, .int .i64 (M.clock + 1)]]) (by simp [results, Try.results35, go_sem, hc4, hc5]) rfl ?_
        rw [HE.out]
        exact ⟨A, n, c, rfl, HRES.out⟩
  exact absurd hway (by have h1 := HNW.out; intro h; rcases h with h | h | h; (· exact p0 h); (· exact h0 (by omega)); (· exact hps ⟨h.1, by omega⟩))
end Go.Proofs.Ytniomgngiiiklab
