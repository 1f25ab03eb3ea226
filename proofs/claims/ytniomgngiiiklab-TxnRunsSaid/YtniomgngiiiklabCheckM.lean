/- The walk of row.Check. -/
import Derived.Test.YtniomgngiiiklabRows1M
import Derived.Deep.DeepCutAuto
namespace Go.Proofs.Ytniomgngiiiklab
open Go.RowKit

set_option maxRecDepth 100000 in
set_option maxHeartbeats 1000000 in
theorem check_head (key : ByteArray) (ls : Int) (lp val : ByteArray) (rs : List MRec) (A : Option Addr) (n c : Nat) (w : World) (h : RecsAt w w.heap.size A n rs) (hm : n ≤ maxLen) (hh : headB ⟨key, ls, lp, val, rs⟩ = true) :
    Calls Try.prog 38 #[.agg #[.string key, .int .i64 ls, .string lp, .string val, .slice A n c]] w fun e w' => e = .returned (.int .i64 (okCode (rowB ⟨key, ls, lp, val, rs⟩))) ∧ Below w.heap.size w w' := by
  have H := Lib.hid h
  have Hn := Lib.hid h.1
  have HH := Lib.hid hh
  simp only [headB, Bool.and_eq_true, decide_eq_true_eq] at hh
  obtain ⟨h1, h2, h3, h4⟩ := hh
  rw [Hn.out] at h3
  have hlk : (ls = 0 ∧ ¬ 1 ≤ lp.size ∧ ¬ 1 ≤ val.size) ∨ (ls ≠ 0 ∧ timeB ls = true ∧ keyB lp = true ∧ findB ⟨key, ls, lp, val, rs⟩ ls < 0) := by
    unfold lockB at h4
    by_cases h0 : ls = 0
    · simp only [h0, if_true, Bool.and_eq_true, decide_eq_true_eq] at h4
      exact .inl ⟨h0, by omega, by omega⟩
    · simp only [h0, if_false, Bool.and_eq_true, decide_eq_true_eq] at h4
      exact .inr ⟨h0, h4.1, h4.2.1, h4.2.2⟩
  have HK := Lib.hid hlk
  clear h h4 hlk
  go_enter Try.func38, Try.ntmps38
  go_wp2_with fail
  refine (key_any _ _).mono ?_
  rintro e w1 ⟨rfl, hb1⟩
  have HL := Lib.hid (((Below.refl w.heap.size w).alloc (Nat.le_refl _) _).trans (hb1.mono (by simp)))
  have HB := Lib.hid (blk_keep hb1 (blk_new w _ _) (by simp))
  obtain ⟨hc0, hf0⟩ := blk_read HB.out
  clear hb1
  go_upto_if 25 with (fail)
  go_outline

  go_cut [] (fun wx => Below w.heap.size w wx ∧ wx.heap[w.heap.size]? = some (.cells #[.string key, .int .i64 ls, .string lp, .string val, .slice A n c] 26 (0, 0)))
  case first =>
    rcases HK.out with ⟨rfl, hl1, hl2⟩ | ⟨h0, hl1, hl2, hl3⟩
    · obtain ⟨e1, e2⟩ := str_none hl1
      obtain ⟨e3, e4⟩ := str_none hl2
      go_wp2_with fail
      go_meet
      exact ⟨HL.out, HB.out⟩
    · have e0 : (ls == 0) = false := by simpa using h0
      clear h0
      go_wp2_with fail
      refine (time_any _ _).mono ?_
      rintro e w2 ⟨rfl, rfl⟩
      go_wp2_with fail
      refine (key_any _ _).mono ?_
      rintro e w2 ⟨rfl, hb2⟩
      have HL2 := Lib.hid (HL.out.trans (hb2.mono HL.out.size))
      have HB2 := Lib.hid (blk_keep hb2 HB.out (blk_lt HB.out))
      obtain ⟨hc2, hf2⟩ := blk_read HB2.out
      clear hb2
      go_wp2_with fail
      refine (find_any ⟨key, ls, lp, val, rs⟩ ls A n c w2 ((H.out.below HL2.out (Nat.le_refl _)).more HL2.out.size) hm).mono ?_
      rintro e w3 ⟨rfl, hb3⟩
      have HL3 := Lib.hid (HL2.out.trans (hb3.mono HL2.out.size))
      have HB3 := Lib.hid (blk_keep hb3 HB2.out (blk_lt HB2.out))
      clear hb3 hc2 hf2
      go_wp2_with fail
      go_meet
      exact ⟨HL3.out, HB3.out⟩
  case rest =>
    obtain ⟨hb, hB⟩ := hcut
    clear hc0 hf0 HL HB
    have HB0 := Lib.hid hB
    have HL0 := Lib.hid hb
    obtain ⟨hc0, hf0⟩ := blk_read HB0.out
    clear hb hB
    go_wp2_with fail
    go_loopw [3, 58] (fun l i wr => (∃ (k : Nat) (last : Int), k ≤ n ∧ i = .int .i64 k ∧ l = .int .i64 last ∧ recsTo rs k = some last) ∧ Below w.heap.size w wr ∧ wr.heap[w.heap.size]? = some (.cells #[.string key, .int .i64 ls, .string lp, .string val, .slice A n c] 26 (0, 0))) (fun _ i _ => n - (intOf i).toNat)
    case atStart => exact ⟨⟨0, 0, Nat.zero_le _, rfl, rfl, rfl⟩, HL0.out, HB0.out⟩
    case round =>
      obtain ⟨⟨k, last, hk, rfl, rfl, hto⟩, hbel, hblk⟩ := hrel
      have HT := Lib.hid hto
      have HL := Lib.hid hbel
      have HB := Lib.hid hblk
      clear hto hbel hblk hc0 hf0 HB0 HL0
      obtain ⟨hc0, hf0⟩ := blk_read HB.out
      have hz := blk_lt HB.out
      by_cases hlt : k < n
      · obtain ⟨x, b, off, hx, rfl, hbb, g0, g1, g2⟩ := (H.out.below HL.out (Nat.le_refl _)).at_ hlt
        have HX := Lib.hid hx
        have hbz : b < wr.heap.size := by have := HL.out.size; omega
        clear hx
        cases ht : timeB x.start
        · go_wp2_with fail
          go_quiet ((go_at_call 39; exact quiet_left (time_any _ _)))
          go_wp2_with fail
          go_ret
          exact ⟨ret_int (row_bad (r := ⟨key, ls, lp, val, rs⟩) HT.out HX.out (step_time ht)), below_drewN (HL.out.alloc HL.out.size _) _⟩
        obtain ⟨t1, t2⟩ := timeB_bounds ht
        have hprev : (k = 0 ∨ ∃ (j : Nat) (y : MRec), k = j + 1 ∧ rs[j]? = some y ∧ wr.cell? ⟨b, off + j * 3, none⟩ = some (.int .i64 y.start) ∧ prevOf rs k = y.start) := by
          rcases k with _ | j
          · exact .inl rfl
          · obtain ⟨y, b', off', hy, e, _, g0', _, _⟩ := (H.out.below HL.out (Nat.le_refl _)).at_ (show j < n by omega)
            injection e with e
            injection e with e1 e2
            subst e1; subst e2
            exact .inr ⟨j, y, rfl, hy, g0', prevOf_succ hy⟩
        by_cases hp : x.start ≤ prevOf rs k
        · rcases hprev with rfl | ⟨j, y, rfl, hy, gy, hpy⟩
          · exfalso
            have : prevOf rs 0 = 0 := rfl
            omega
          · have hle : x.start ≤ y.start := by omega
            have HP := Lib.hid hpy
            clear hpy hp hy
            have hgd : decide ((0 : Int) < (j : Int) + 1) = true := decide_eq_true (by omega)
            have hwr : IntKind.i64.wrap (j : Int) = j := IntWalk.i64_in _ (by omega)
            have hjn : (j : Int) < n := by omega
            have hj0 : (0 : Int) ≤ (j : Int) := by omega
            go_wp2_with fail
            go_quiet ((go_at_call 39; exact quiet_left (time_any _ _)))
            go_wp2_with fail
            go_ret
            exact ⟨ret_int (row_bad (r := ⟨key, ls, lp, val, rs⟩) HT.out HX.out (step_prev (by rw [HP.out]; exact hle))), below_drewN (HL.out.alloc HL.out.size _) _⟩
        by_cases hs : x.value.size ≤ 20
        · have hP : prevOf rs k < x.start := by omega
          have HP := Lib.hid hP
          have hgs : decide ((20 : Int) < (x.value.size : Int)) = false := decide_eq_false (by omega)
          clear hp hP
          rcases hprev with rfl | ⟨j, y, rfl, hy, gy, hpy⟩
          rotate_left
          · have hlt2 : y.start < x.start := by have := HP.out; omega
            have hgd : decide ((0 : Int) < (j : Int) + 1) = true := decide_eq_true (by omega)
            have hwr : IntKind.i64.wrap (j : Int) = j := IntWalk.i64_in _ (by omega)
            have hjn : (j : Int) < n := by omega
            have hj0 : (0 : Int) ≤ (j : Int) := by omega
            have hge : decide (x.start ≤ y.start) = false := decide_eq_false (by omega)
            clear hpy hy
            go_wp2_with fail
            go_quiet ((go_at_call 39; exact quiet_left (time_any _ _)))
            by_cases h0 : x.commit = 0
            · have e0 : (x.commit == 0) = true := by simpa using h0
              have H0 := Lib.hid h0
              clear h0
              by_cases hv : 1 ≤ x.value.size
              · obtain ⟨e1, e2⟩ := str_some hv
                go_wp2_with fail
                go_ret
                exact ⟨ret_int (row_bad (r := ⟨key, ls, lp, val, rs⟩) HT.out HX.out (step_zero_bad H0.out hv)), below_drewN (HL.out.alloc HL.out.size _) _⟩
              · obtain ⟨e1, e2⟩ := str_none hv
                go_wp2_with fail
                go_roundw
                case rel => exact ⟨⟨(j + 1) + 1, last, by omega, by go_num, rfl, row_next HT.out HX.out (step_zero ht HP.out hs H0.out hv)⟩, below_drewN (HL.out.alloc HL.out.size _) _, blk_old HB.out _⟩
                case measure => simp [intOf]; omega
            · have e0 : (x.commit == 0) = false := by simpa using h0
              by_cases h1 : x.commit ≤ x.start
              · go_wp2_with fail
                go_ret
                exact ⟨ret_int (row_bad (r := ⟨key, ls, lp, val, rs⟩) HT.out HX.out (step_le h0 h1)), below_drewN (HL.out.alloc HL.out.size _) _⟩
              · by_cases h2 : 1099511627776 < x.commit
                · go_wp2_with fail
                  go_ret
                  exact ⟨ret_int (row_bad (r := ⟨key, ls, lp, val, rs⟩) HT.out HX.out (step_max h0 h2)), below_drewN (HL.out.alloc HL.out.size _) _⟩
                · by_cases h3 : x.start < last
                  · go_wp2_with fail
                    go_ret
                    exact ⟨ret_int (row_bad (r := ⟨key, ls, lp, val, rs⟩) HT.out HX.out (step_last h0 h3)), below_drewN (HL.out.alloc HL.out.size _) _⟩
                  · go_wp2_with fail
                    go_roundw
                    case rel => exact ⟨⟨(j + 1) + 1, x.commit, by omega, by go_num, rfl, row_next HT.out HX.out (step_ok ht HP.out hs h0 (by omega) (by omega) (by omega))⟩, below_drewN (HL.out.alloc HL.out.size _) _, blk_old HB.out _⟩
                    case measure => simp [intOf]; omega
          · simp only [Nat.zero_mul, Nat.add_zero] at g0 g1 g2
            go_wp2_with fail
            go_quiet ((go_at_call 39; exact quiet_left (time_any _ _)))
            by_cases h0 : x.commit = 0
            · have e0 : (x.commit == 0) = true := by simpa using h0
              have H0 := Lib.hid h0
              clear h0
              by_cases hv : 1 ≤ x.value.size
              · obtain ⟨e1, e2⟩ := str_some hv
                go_wp2_with fail
                go_ret
                exact ⟨ret_int (row_bad (r := ⟨key, ls, lp, val, rs⟩) HT.out HX.out (step_zero_bad H0.out hv)), below_drewN (HL.out.alloc HL.out.size _) _⟩
              · obtain ⟨e1, e2⟩ := str_none hv
                go_wp2_with fail
                go_roundw
                case rel => exact ⟨⟨0 + 1, last, by omega, by go_num, rfl, row_next HT.out HX.out (step_zero ht HP.out hs H0.out hv)⟩, below_drewN (HL.out.alloc HL.out.size _) _, blk_old HB.out _⟩
                case measure => simp [intOf]; omega
            · have e0 : (x.commit == 0) = false := by simpa using h0
              by_cases h1 : x.commit ≤ x.start
              · go_wp2_with fail
                go_ret
                exact ⟨ret_int (row_bad (r := ⟨key, ls, lp, val, rs⟩) HT.out HX.out (step_le h0 h1)), below_drewN (HL.out.alloc HL.out.size _) _⟩
              · by_cases h2 : 1099511627776 < x.commit
                · go_wp2_with fail
                  go_ret
                  exact ⟨ret_int (row_bad (r := ⟨key, ls, lp, val, rs⟩) HT.out HX.out (step_max h0 h2)), below_drewN (HL.out.alloc HL.out.size _) _⟩
                · by_cases h3 : x.start < last
                  · go_wp2_with fail
                    go_ret
                    exact ⟨ret_int (row_bad (r := ⟨key, ls, lp, val, rs⟩) HT.out HX.out (step_last h0 h3)), below_drewN (HL.out.alloc HL.out.size _) _⟩
                  · go_wp2_with fail
                    go_roundw
                    case rel => exact ⟨⟨0 + 1, x.commit, by omega, by go_num, rfl, row_next HT.out HX.out (step_ok ht HP.out hs h0 (by omega) (by omega) (by omega))⟩, below_drewN (HL.out.alloc HL.out.size _) _, blk_old HB.out _⟩
                    case measure => simp [intOf]; omega
        · have hgs : decide ((20 : Int) < (x.value.size : Int)) = true := decide_eq_true (by omega)
          rcases hprev with rfl | ⟨j, y, rfl, hy, gy, hpy⟩
          · simp only [Nat.zero_mul, Nat.add_zero] at g0 g1 g2
            go_wp2_with fail
            go_quiet ((go_at_call 39; exact quiet_left (time_any _ _)))
            go_wp2_with fail
            go_ret
            exact ⟨ret_int (row_bad (r := ⟨key, ls, lp, val, rs⟩) HT.out HX.out (step_size hs)), below_drewN (HL.out.alloc HL.out.size _) _⟩
          · have hlt2 : y.start < x.start := by omega
            have hgd : decide ((0 : Int) < (j : Int) + 1) = true := decide_eq_true (by omega)
            have hwr : IntKind.i64.wrap (j : Int) = j := IntWalk.i64_in _ (by omega)
            have hjn : (j : Int) < n := by omega
            have hj0 : (0 : Int) ≤ (j : Int) := by omega
            have hge : decide (x.start ≤ y.start) = false := decide_eq_false (by omega)
            clear hpy hp hy
            go_wp2_with fail
            go_quiet ((go_at_call 39; exact quiet_left (time_any _ _)))
            go_wp2_with fail
            go_ret
            exact ⟨ret_int (row_bad (r := ⟨key, ls, lp, val, rs⟩) HT.out HX.out (step_size hs)), below_drewN (HL.out.alloc HL.out.size _) _⟩
      · have HE := Lib.hid (row_end HH.out (r := ⟨key, ls, lp, val, rs⟩) HT.out (by have := Hn.out; show rs.length ≤ k; omega))
        have HN : Hid (rs.length = n) := Hn.out
        by_cases h0 : ls = 0
        · have e0 : (ls == 0) = true := by simpa using h0
          have H0 := Lib.hid h0
          clear h0
          go_wp2_with fail
          go_ret
          exact ⟨ret_int (by rw [HE.out]; simp [tailB, H0.out, okCode]), HL.out⟩
        · have e0 : (ls == 0) = false := by simpa using h0
          by_cases h1 : ls < last
          · go_wp2_with fail
            go_ret
            exact ⟨ret_int (by rw [HE.out]; simp [tailB, h0, okCode]; omega), HL.out⟩
          · by_cases h2 : n = 100
            · have e2 : ((n : Int) == 100) = true := by simp; omega
              have H2 := Lib.hid h2
              clear h2
              go_wp2_with fail
              go_ret
              exact ⟨ret_int (by rw [HE.out]; simp [tailB, h0, okCode, HN.out, H2.out]), HL.out⟩
            · have e2 : ((n : Int) == 100) = false := by simp; omega
              go_wp2_with fail
              go_ret
              exact ⟨ret_int (by rw [HE.out]; have : last ≤ ls := by omega
                                 simp [tailB, this, okCode, HN.out, h2]), HL.out⟩
set_option maxRecDepth 100000 in
set_option maxHeartbeats 1000000 in
theorem check_bad (key : ByteArray) (ls : Int) (lp val : ByteArray) (rs : List MRec) (A : Option Addr) (n c : Nat) (w : World) (h : RecsAt w w.heap.size A n rs) (hm : n ≤ maxLen) (hh : headB ⟨key, ls, lp, val, rs⟩ = false) :
    Calls Try.prog 38 #[.agg #[.string key, .int .i64 ls, .string lp, .string val, .slice A n c]] w fun e w' => e = .returned (.int .i64 6) ∧ Below w.heap.size w w' := by
  have H := Lib.hid h
  have Hn := Lib.hid h.1
  have HH := Lib.hid hh
  clear h hh
  cases h1 : keyB key
  · go_enter Try.func38, Try.ntmps38
    go_wp2_with fail
    refine (key_any _ _).mono ?_
    rintro e w1 ⟨rfl, hb1⟩
    have HL := Lib.hid (((Below.refl w.heap.size w).alloc (Nat.le_refl _) _).trans (hb1.mono (by simp)))
    have HB := Lib.hid (blk_keep hb1 (blk_new w _ _) (by simp))
    obtain ⟨hc0, hf0⟩ := blk_read HB.out
    clear hb1
    go_wp2_with fail
    go_ret
    exact ⟨rfl, HL.out⟩
  by_cases h2 : val.size ≤ 20
  rotate_left
  · go_enter Try.func38, Try.ntmps38
    go_wp2_with fail
    refine (key_any _ _).mono ?_
    rintro e w1 ⟨rfl, hb1⟩
    have HL := Lib.hid (((Below.refl w.heap.size w).alloc (Nat.le_refl _) _).trans (hb1.mono (by simp)))
    have HB := Lib.hid (blk_keep hb1 (blk_new w _ _) (by simp))
    obtain ⟨hc0, hf0⟩ := blk_read HB.out
    clear hb1
    go_wp2_with fail
    go_ret
    exact ⟨rfl, HL.out⟩
  by_cases h3 : n ≤ 100
  rotate_left
  · go_enter Try.func38, Try.ntmps38
    go_wp2_with fail
    refine (key_any _ _).mono ?_
    rintro e w1 ⟨rfl, hb1⟩
    have HL := Lib.hid (((Below.refl w.heap.size w).alloc (Nat.le_refl _) _).trans (hb1.mono (by simp)))
    have HB := Lib.hid (blk_keep hb1 (blk_new w _ _) (by simp))
    obtain ⟨hc0, hf0⟩ := blk_read HB.out
    clear hb1
    go_wp2_with fail
    go_ret
    exact ⟨rfl, HL.out⟩
  have hl : lockB ⟨key, ls, lp, val, rs⟩ = false := by
    have := HH.out
    have hn : rs.length = n := Hn.out
    simpa [headB, h1, h2, hn, h3] using this
  by_cases h0 : ls = 0
  · have hx : 1 ≤ lp.size ∨ 1 ≤ val.size := by
      simp only [lockB, h0, if_true, Bool.and_eq_false_iff, decide_eq_false_iff_not] at hl
      omega
    subst h0
    clear hl
    by_cases hlp : 1 ≤ lp.size
    · obtain ⟨e1, e2⟩ := str_some hlp
      go_enter Try.func38, Try.ntmps38
      go_wp2_with fail
      refine (key_any _ _).mono ?_
      rintro e w1 ⟨rfl, hb1⟩
      have HL := Lib.hid (((Below.refl w.heap.size w).alloc (Nat.le_refl _) _).trans (hb1.mono (by simp)))
      have HB := Lib.hid (blk_keep hb1 (blk_new w _ _) (by simp))
      obtain ⟨hc0, hf0⟩ := blk_read HB.out
      clear hb1
      go_wp2_with fail
      go_ret
      exact ⟨rfl, HL.out⟩
    · obtain ⟨e1, e2⟩ := str_none hlp
      obtain ⟨e3, e4⟩ := str_some (s := val) (by omega)
      go_enter Try.func38, Try.ntmps38
      go_wp2_with fail
      refine (key_any _ _).mono ?_
      rintro e w1 ⟨rfl, hb1⟩
      have HL := Lib.hid (((Below.refl w.heap.size w).alloc (Nat.le_refl _) _).trans (hb1.mono (by simp)))
      have HB := Lib.hid (blk_keep hb1 (blk_new w _ _) (by simp))
      obtain ⟨hc0, hf0⟩ := blk_read HB.out
      clear hb1
      go_wp2_with fail
      go_ret
      exact ⟨rfl, HL.out⟩
  · have hl' : (timeB ls && (keyB lp && decide (findB ⟨key, ls, lp, val, rs⟩ ls < 0))) = false := by simpa only [lockB, h0, if_false] using hl
    have HF := Lib.hid hl'
    have e0 : (ls == 0) = false := by simpa using h0
    clear hl hl' h0
    go_enter Try.func38, Try.ntmps38
    go_wp2_with fail
    refine (key_any _ _).mono ?_
    rintro e w1 ⟨rfl, hb1⟩
    have HL := Lib.hid (((Below.refl w.heap.size w).alloc (Nat.le_refl _) _).trans (hb1.mono (by simp)))
    have HB := Lib.hid (blk_keep hb1 (blk_new w _ _) (by simp))
    obtain ⟨hc0, hf0⟩ := blk_read HB.out
    clear hb1
    cases ht : timeB ls
    · go_wp2_with fail
      refine (time_any _ _).mono ?_
      rintro e w2 ⟨rfl, rfl⟩
      go_wp2_with fail
      go_ret
      exact ⟨rfl, HL.out⟩
    go_wp2_with fail
    refine (time_any _ _).mono ?_
    rintro e w2 ⟨rfl, rfl⟩
    go_wp2_with fail
    refine (key_any _ _).mono ?_
    rintro e w2 ⟨rfl, hb2⟩
    have HL2 := Lib.hid (HL.out.trans (hb2.mono HL.out.size))
    have HB2 := Lib.hid (blk_keep hb2 HB.out (blk_lt HB.out))
    obtain ⟨hc2, hf2⟩ := blk_read HB2.out
    clear hb2
    cases hk : keyB lp
    · go_wp2_with fail
      go_ret
      exact ⟨rfl, HL2.out⟩
    have hfd : 0 ≤ findB ⟨key, ls, lp, val, rs⟩ ls := by
      have := HF.out
      simp only [ht, hk, Bool.true_and, decide_eq_false_iff_not] at this
      omega
    go_wp2_with fail
    refine (find_any ⟨key, ls, lp, val, rs⟩ ls A n c w2 ((H.out.below HL2.out (Nat.le_refl _)).more HL2.out.size) hm).mono ?_
    rintro e w3 ⟨rfl, hb3⟩
    have HL3 := Lib.hid (HL2.out.trans (hb3.mono HL2.out.size))
    clear hb3 hc2 hf2
    go_wp2_with fail
    go_ret
    exact ⟨rfl, HL3.out⟩

/-- row.Check: OK at a valid row, else ErrState. -/
theorem check_any (r : MRow) (A : Option Addr) (n c : Nat) (w : World) (h : RecsAt w w.heap.size A n r.recs) (hm : n ≤ maxLen) :
    Calls Try.prog 38 #[.agg #[.string r.key, .int .i64 r.ls, .string r.lp, .string r.value, .slice A n c]] w fun e w' => e = .returned (.int .i64 (okCode (rowB r))) ∧ Below w.heap.size w w' := by
  cases hh : headB r
  · exact (check_bad r.key r.ls r.lp r.value r.recs A n c w h hm hh).mono fun _ _ ⟨he, hb⟩ => ⟨he.trans (ret_int (row_head hh)), hb⟩
  · exact check_head r.key r.ls r.lp r.value r.recs A n c w h hm hh
end Go.Proofs.Ytniomgngiiiklab
