/- The walk of the reference's recordOf. -/
import Derived.Test.YtniomgngiiiklabRows1M
import Derived.Test.YtniomgngiiiklabKeysM
import Derived.Test.YtniomgngiiiklabCopiesM
import Derived.Test.YtniomgngiiiklabGroundM
import Derived.Deep.DeepCutAuto
namespace Go.Proofs.Ytniomgngiiiklab
open Go.RowKit

def recVal (o : Option MRec) : Value := match o with | some x => x.val | none => MRec.zero.val

set_option maxHeartbeats 1000000 in
theorem recOf_any (r : MRow) (st : Int) (A : Option Addr) (n c : Nat) (w : World) (h : RecsAt w w.heap.size A n r.recs) (hm : n ≤ maxLen) :
    Calls Try.prog 47 #[.agg #[.string r.key, .int .i64 r.ls, .string r.lp, .string r.value, .slice A n c], .int .i64 st] w
      fun e w' => e = .returned (.tuple #[recVal (recFind r.recs st), .bool (recFind r.recs st).isSome]) ∧ Below w.heap.size w w' := by
  unfold maxLen at hm
  have H := Lib.hid h
  have Hn := Lib.hid h.1
  clear h
  go_enter Try.func47, Try.ntmps47
  go_wp2_with fail
  go_loopw [6] (fun i wr => (∃ k : Nat, k ≤ n ∧ i = .int .i64 k ∧ ∀ (j : Nat) (y : MRec), j < k → r.recs[j]? = some y → (y.start == st) = false) ∧ Below w.heap.size w wr ∧ wr.heap[w.heap.size]? = some (.cells #[.string r.key, .int .i64 r.ls, .string r.lp, .string r.value, .slice A n c] 26 (0, 0)) ∧ wr.heap[w.heap.size + 1]? = some (.cells #[.int .i64 0, .int .i64 0, .string ⟨#[]⟩] 55 (0, 0))) (fun i _ => n - (intOf i).toNat)
  case atStart => exact ⟨⟨0, Nat.zero_le _, rfl, by intro j y h; omega⟩, ((Below.refl _ _).alloc (Nat.le_refl _) _).alloc (by simp) _, blk_old (blk_new w _ _) _, by simpa using blk_new (w.alloc _) _ _⟩
  case round =>
    obtain ⟨⟨k, hk, rfl, hb⟩, hbel, hblk, hblk1⟩ := hrel
    have HT := Lib.hid hb
    have HL := Lib.hid hbel
    have HB := Lib.hid hblk
    have HB1 := Lib.hid hblk1
    clear hb hbel hblk hblk1
    obtain ⟨hc0, hf0⟩ := blk_read HB.out
    obtain ⟨hc1, hf1⟩ := blk_read HB1.out
    have hz := blk_lt HB1.out
    by_cases hlt : k < n
    · obtain ⟨x, b, off, hx, rfl, hbb, g0, g1, g2⟩ := (H.out.below HL.out (Nat.le_refl _)).at_ hlt
      have HX := Lib.hid hx
      have hbz : b < wr.heap.size := by have := HL.out.size; omega
      clear hx
      cases he : (x.start == st)
      · go_wp2_with fail
        go_roundw
        case rel => exact ⟨⟨k + 1, by omega, by go_num, none_snoc (p := fun y : MRec => y.start == st) HX.out he HT.out⟩, HL.out, HB.out, HB1.out⟩
        case measure => simp [intOf]; omega
      · have hst : x.start = st := by simpa using he
        have HF := Lib.hid (recFind_hit HX.out hst HT.out)
        clear hst
        go_wp2_with fail
        refine bodyPost_ret (v := .tuple #[.agg #[.int .i64 x.start, .int .i64 x.commit, .string x.value], .bool true]) (by simp [results, Try.results47, go_sem, hc1]) rfl ⟨?_, ?_⟩
        · rw [HF.out]; rfl
        · have hb0 := HL.out
          repeat (refine Below.setCell ?_ (by first | (simp; done) | (simp; omega)) _)
          exact hb0
    · have HF := Lib.hid (recFind_miss (none_all (p := fun y : MRec => y.start == st) (k := k) (by have := Hn.out; omega) HT.out))
      go_wp2_with fail
      refine bodyPost_ret (v := .tuple #[.agg #[.int .i64 0, .int .i64 0, .string ⟨#[]⟩], .bool false]) (by simp [results, Try.results47, go_sem, hc1]) rfl ⟨?_, ?_⟩
      · rw [HF.out]; rfl
      · have hb0 := HL.out
        repeat (refine Below.setCell ?_ (by first | (simp; done) | (simp; omega)) _)
        exact hb0
end Go.Proofs.Ytniomgngiiiklab

/- The walk of the reference's RowMay. -/
namespace Go.Proofs.Ytniomgngiiiklab
open Go.RowKit

def roomOf (ls : Int) : Int := if ls = 0 then 100 else 99

set_option maxRecDepth 100000 in
set_option maxHeartbeats 2000000 in
theorem may_head (key : ByteArray) (ls : Int) (lp val : ByteArray) (rs : List MRec) (A : Option Addr) (n c : Nat) (w : World) (h : RecsAt w w.heap.size A n rs) (hm : n ≤ maxLen) (hks : key.size ≤ maxLen) (hls : lp.size ≤ maxLen)
    (h1 : keyB key = true) (h2 : val.size ≤ 20) (h4 : lockB ⟨key, ls, lp, val, rs⟩ = true) :
    Calls Try.prog 45 #[.agg #[.string key, .int .i64 ls, .string lp, .string val, .slice A n c]] w fun e w' => e = .returned (.bool (rowB ⟨key, ls, lp, val, rs⟩)) ∧ Below w.heap.size w w' := by
  have H := Lib.hid h
  have Hn := Lib.hid h.1
  have Hm := Lib.hid hm
  unfold maxLen at hm
  have Hks := Lib.hid hks
  have Hls := Lib.hid hls
  have hlk : (ls = 0 ∧ ¬ 1 ≤ lp.size ∧ ¬ 1 ≤ val.size) ∨ (ls ≠ 0 ∧ timeB ls = true ∧ keyB lp = true ∧ (recFind rs ls).isSome = false) := by
    unfold lockB at h4
    by_cases h0 : ls = 0
    · simp only [h0, if_true, Bool.and_eq_true, decide_eq_true_eq] at h4
      exact .inl ⟨h0, by omega, by omega⟩
    · simp only [h0, if_false, Bool.and_eq_true, recFind_find] at h4
      exact .inr ⟨h0, h4.1, h4.2.1, by simpa using h4.2.2⟩
  have HLB := Lib.hid h4
  have HK := Lib.hid hlk
  clear h h4 hlk hks hls
  go_enter Try.func45, Try.ntmps45
  go_wp2_with fail
  refine (keyMay_any _ _ Hks.out).mono ?_
  rintro e w1 ⟨rfl, rfl⟩
  have HL := Lib.hid ((Below.refl w.heap.size w).alloc (Nat.le_refl _) (.cells #[.string key, .int .i64 ls, .string lp, .string val, .slice A n c] 26))
  have HB := Lib.hid (blk_new w #[.string key, .int .i64 ls, .string lp, .string val, .slice A n c] 26)
  go_upto_if 22 with (fail)
  go_cut [3] (fun s3 wx => s3 = .int .i64 (roomOf ls) ∧ Below w.heap.size w wx ∧ wx.heap[w.heap.size]? = some (.cells #[.string key, .int .i64 ls, .string lp, .string val, .slice A n c] 26 (0, 0)))
  case first =>
    rcases HK.out with ⟨rfl, hl1, hl2⟩ | ⟨h0, hl1, hl2, hl3⟩
    · obtain ⟨e1, e2⟩ := str_none hl1
      obtain ⟨e3, e4⟩ := str_none hl2
      go_wp2_with fail
      go_meet
      exact ⟨rfl, HL.out, HB.out⟩
    · have e0 : (ls == 0) = false := by simpa using h0
      have H0 := Lib.hid h0
      clear h0
      go_wp2_with fail
      refine (recOf_any ⟨key, ls, lp, val, rs⟩ ls A n c _ ((H.out.below HL.out (Nat.le_refl _)).more (by simp)) Hm.out).mono ?_
      rintro e w3 ⟨rfl, hb3⟩
      have HL3 := Lib.hid (HL.out.trans (hb3.mono (by simp)))
      have HB3 := Lib.hid (blk_keep hb3 HB.out (by simp))
      clear hb3
      obtain ⟨hc3, hf3⟩ := blk_read HB3.out
      have hz3 := blk_lt HB3.out
      obtain ⟨x, hx⟩ : ∃ x : MRec, recVal (recFind rs ls) = .agg #[.int .i64 x.start, .int .i64 x.commit, .string x.value] := by
        cases recFind rs ls with
        | none => exact ⟨MRec.zero, rfl⟩
        | some x => exact ⟨x, rfl⟩
      rw [hx]
      clear hx
      go_wp2_with fail
      refine (isTime_any _ _).mono ?_
      rintro e w4 ⟨rfl, rfl⟩
      go_wp2_with fail
      refine (keyMay_any _ _ Hls.out).mono ?_
      rintro e w4 ⟨rfl, rfl⟩
      go_wp2_with fail
      go_meet
      refine ⟨by simp [roomOf, H0.out], ?_, ?_⟩
      · have hb0 := HL3.out.alloc HL3.out.size (.cells #[.int .i64 x.start, .int .i64 x.commit, .string x.value] 55)
        exact hb0
      · exact blk_old HB3.out _
  case rest =>
    obtain ⟨rfl, hb, hB⟩ := hcut
    have HB0 := Lib.hid hB
    have HL0 := Lib.hid hb
    clear hb hB HL HB
    obtain ⟨hc0, hf0⟩ := blk_read HB0.out
    by_cases h3 : (n : Int) ≤ roomOf ls
    rotate_left
    · go_wp2_with fail
      go_ret
      refine ⟨ret_bool ?_, HL0.out⟩
      have hlen := Hn.out
      by_cases h0 : ls = 0
      · simp only [roomOf, h0, if_true] at h3
        exact (head_false (by simp [headB, hlen]; omega)).symm
      · simp only [roomOf, h0, if_false] at h3
        exact (row_full (r := ⟨key, ls, lp, val, rs⟩) (by show 99 < rs.length; omega) h0).symm
    go_wp2_with fail
    go_loopw [6] (fun i wr => (∃ (k : Nat) (last : Int), k ≤ n ∧ i = .int .i64 k ∧ recsTo rs k = some last ∧ (ls ≠ 0 → last ≤ ls)) ∧ Below w.heap.size w wr ∧ wr.heap[w.heap.size]? = some (.cells #[.string key, .int .i64 ls, .string lp, .string val, .slice A n c] 26 (0, 0))) (fun i _ => n - (intOf i).toNat)
    case atStart => exact ⟨⟨0, 0, Nat.zero_le _, rfl, rfl, fun hne => by
      rcases HK.out with ⟨h0, _⟩ | ⟨_, ht, _⟩
      · exact absurd h0 hne
      · have := timeB_bounds ht; omega⟩, HL0.out, HB0.out⟩
    case round =>
      obtain ⟨⟨k, last, hk, rfl, hto, hlim⟩, hbel, hblk⟩ := hrel
      have HT := Lib.hid hto
      have HL := Lib.hid hbel
      have HB := Lib.hid hblk
      have HM := Lib.hid hlim
      clear hto hbel hblk hlim hc0 hf0 HB0 HL0
      obtain ⟨hc0, hf0⟩ := blk_read HB.out
      have hz := blk_lt HB.out
      by_cases hlt : k < n
      · obtain ⟨x, b, off, hx, rfl, hbb, g0, g1, g2⟩ := (H.out.below HL.out (Nat.le_refl _)).at_ hlt
        have HX := Lib.hid hx
        have hbz : b < wr.heap.size := by have := HL.out.size; omega
        clear hx
        cases ht : timeB x.start
        · go_wp2_with fail
          go_quiet ((go_at_call 46; exact quiet_left (isTime_any _ _)))
          go_wp2_with fail
          go_ret
          exact ⟨ret_bool (row_bad' (r := ⟨key, ls, lp, val, rs⟩) HT.out HX.out (step_time ht)), below_drewN (HL.out.alloc HL.out.size _) _⟩
        obtain ⟨t1, t2⟩ := timeB_bounds ht
        by_cases hs : x.value.size ≤ 20
        rotate_left
        · have hgs : decide ((20 : Int) < (x.value.size : Int)) = true := decide_eq_true (by omega)
          go_wp2_with fail
          go_quiet ((go_at_call 46; exact quiet_left (isTime_any _ _)))
          go_wp2_with fail
          go_ret
          exact ⟨ret_bool (row_bad' (r := ⟨key, ls, lp, val, rs⟩) HT.out HX.out (step_size hs)), below_drewN (HL.out.alloc HL.out.size _) _⟩
        have hgs : decide ((20 : Int) < (x.value.size : Int)) = false := decide_eq_false (by omega)
        have hprev : (Hid (prevOf rs k = 0) ∧ decide ((0 : Int) < (k : Int)) = false ∧ decide (0 < k) = false) ∨ ∃ (j : Nat) (y : MRec), Hid (prevOf rs k = y.start) ∧ decide ((0 : Int) < (k : Int)) = true ∧ decide (0 < k) = true ∧ IntKind.i64.wrap ((k : Int) - 1) = (j : Int) ∧ (j : Int) < (n : Int) ∧ (0 : Int) ≤ (j : Int) ∧ wr.cell? ⟨b, off + j * 3, none⟩ = some (.int .i64 y.start) := by
          rcases k with _ | j
          · exact .inl ⟨rfl, rfl, rfl⟩
          · obtain ⟨y, b', off', hy, e, _, g0', _, _⟩ := (H.out.below HL.out (Nat.le_refl _)).at_ (show j < n by omega)
            injection e with e
            injection e with e1 e2
            subst e1; subst e2
            exact .inr ⟨j, y, prevOf_succ hy, decide_eq_true (by omega), decide_eq_true (by omega), by rw [show (((j + 1 : Nat) : Int) - 1) = (j : Int) by omega]; exact IntWalk.i64_in _ (by omega), by omega, by omega, g0'⟩
        by_cases hp : x.start ≤ prevOf rs k
        · rcases hprev with ⟨h0, _⟩ | ⟨j, y, hpy, q1, q1', q2, q3, q4, q5⟩
          · exfalso
            have := h0.out
            omega
          · have hle : decide (x.start ≤ y.start) = true := decide_eq_true (by have := hpy.out; omega)
            have Hp := Lib.hid hp
            clear hp
            go_wp2_with fail
            go_quiet ((go_at_call 46; exact quiet_left (isTime_any _ _)))
            go_wp2_with fail
            go_ret
            exact ⟨ret_bool (row_bad' (r := ⟨key, ls, lp, val, rs⟩) HT.out HX.out (step_prev Hp.out)), below_drewN (HL.out.alloc HL.out.size _) _⟩
        have hP : prevOf rs k < x.start := by omega
        have HP := Lib.hid hP
        clear hp hP
        have hprev2 : (Hid (prevOf rs k = 0) ∧ decide ((0 : Int) < (k : Int)) = false ∧ decide (0 < k) = false) ∨ ∃ (j : Nat) (y : MRec), Hid (prevOf rs k = y.start) ∧ decide ((0 : Int) < (k : Int)) = true ∧ decide (0 < k) = true ∧ IntKind.i64.wrap ((k : Int) - 1) = (j : Int) ∧ (j : Int) < (n : Int) ∧ (0 : Int) ≤ (j : Int) ∧ wr.cell? ⟨b, off + j * 3, none⟩ = some (.int .i64 y.start) ∧ decide (x.start ≤ y.start) = false := by
          rcases hprev with h | ⟨j, y, hpy, q1, q1', q2, q3, q4, q5⟩
          · exact .inl h
          · exact .inr ⟨j, y, hpy, q1, q1', q2, q3, q4, q5, decide_eq_false (by have := hpy.out; have := HP.out; omega)⟩
        clear hprev
        rcases hprev2 with ⟨h0, hg1, hg2⟩ | ⟨j, y, hpy, q1, q1', q2, q3, q4, q5, q6⟩
        all_goals go_wp2_with fail
        all_goals go_quiet ((go_at_call 46; exact quiet_left (isTime_any _ _)))
        all_goals
          by_cases hc : x.commit = 0
          · have e0 : (x.commit == 0) = true := by simpa using hc
            have e1 : (x.commit != 0) = false := by simpa using hc
            have HC := Lib.hid hc
            clear hc
            by_cases hv : 1 ≤ x.value.size
            · obtain ⟨v1, v2⟩ := str_some hv
              go_wp2_with fail
              go_ret
              exact ⟨ret_bool (row_bad' (r := ⟨key, ls, lp, val, rs⟩) HT.out HX.out (step_zero_bad HC.out hv)), below_drewN (HL.out.alloc HL.out.size _) _⟩
            · obtain ⟨v1, v2⟩ := str_none hv
              go_wp2_with fail
              have HTT := Lib.hid ht
              clear ht
              clear hgs
              try clear q1 q1' q2 q3 q4 q5 q6 hpy
              try clear hg1 hg2 h0
              obtain ⟨wo, ho⟩ : ∃ wo : World, wo = wr := ⟨_, rfl⟩
              subst ho
              have HLo := Lib.hid HL.out
              have HBo := Lib.hid HB.out
              clear HL HB hc0 hf0 g0 g1 g2
              go_loopw [8] (fun i ws => (∃ m : Nat, m ≤ k ∧ i = .int .i64 m ∧ ∀ (j : Nat) (z : MRec), j < m → rs[j]? = some z → (decide (x.commit ≠ 0) && decide (x.start < z.commit)) = false) ∧ Below w.heap.size w ws ∧ ws.heap[w.heap.size]? = some (.cells #[.string key, .int .i64 ls, .string lp, .string val, .slice (some ⟨b, off, none⟩) n c] 26 (0, 0)) ∧ ws.heap[wo.heap.size]? = some (.cells #[.int .i64 x.start, .int .i64 x.commit, .string x.value] 55 (0, 0))) (fun i _ => k - (intOf i).toNat)
              case atStart => exact ⟨⟨0, Nat.zero_le _, rfl, by intro j z h; omega⟩, below_drewN (HLo.out.alloc HLo.out.size _) _, blk_old HBo.out _, blk_new wo _ _⟩
              case round =>
                obtain ⟨⟨m, hmk, rfl, hall⟩, hbel, hblk, hblx⟩ := hrel
                have HA := Lib.hid hall
                have HL := Lib.hid hbel
                have HB := Lib.hid hblk
                have HBX := Lib.hid hblx
                clear hall hbel hblk hblx
                obtain ⟨hc0, hf0⟩ := blk_read HB.out
                obtain ⟨hcx, hfx⟩ := blk_read HBX.out
                by_cases hlt2 : m < k
                · obtain ⟨z, b', off', hzz, e, _, g0', g1', _⟩ := (H.out.below HL.out (Nat.le_refl _)).at_ (show m < n by omega)
                  injection e with e
                  injection e with e1' e2'
                  subst e1'; subst e2'
                  have HZ := Lib.hid hzz
                  have hmn : (m : Int) < (n : Int) := by omega
                  have hm0 : (0 : Int) ≤ (m : Int) := by omega
                  clear hzz
                  go_wp2_with fail
                  go_quiet (fail)
                  go_wp2_with fail
                  go_roundw
                  case rel => exact ⟨⟨m + 1, by omega, by go_num, none_snoc (p := fun z : MRec => decide (x.commit ≠ 0) && decide (x.start < z.commit)) HZ.out (by simp [HC.out]) HA.out⟩, below_drewN HL.out _, HB.out, HBX.out⟩
                  case measure => simp [intOf]; omega
                · have HS := Lib.hid (row_next HT.out HX.out (step_zero HTT.out HP.out hs HC.out hv))
                  have hfin : ls ≠ 0 → ¬ ls < x.commit := fun hne => by
                    rcases HK.out with ⟨h0, _⟩ | ⟨_, ht, _⟩
                    · exact absurd h0 hne
                    · have := timeB_bounds ht; have := HC.out; omega
                  have HF := Lib.hid hfin
                  clear hfin
                  by_cases hl0 : ls = 0
                  · have l0 : (ls != 0) = false := by simpa using hl0
                    have HL0 := Lib.hid hl0
                    clear hl0
                    go_wp2_with fail
                    go_roundw
                    case rel => exact ⟨⟨k + 1, last, by omega, by go_num, HS.out, fun hne => absurd HL0.out hne⟩, HL.out, HB.out⟩
                    case measure => simp [intOf]; omega
                  · have l0 : (ls != 0) = true := by simpa using hl0
                    have HL0 := Lib.hid hl0
                    have hno := HF.out hl0
                    clear hl0
                    go_wp2_with fail
                    go_roundw
                    case rel => exact ⟨⟨k + 1, last, by omega, by go_num, HS.out, HM.out⟩, HL.out, HB.out⟩
                    case measure => simp [intOf]; omega
          · have e0 : (x.commit == 0) = false := by simpa using hc
            have e1 : (x.commit != 0) = true := by simpa using hc
            have HC := Lib.hid hc
            clear hc
            by_cases h1 : x.start < x.commit ∧ x.commit ≤ 1099511627776
            · have hin : inB x.commit (x.start + 1) 1099511627776 = true := by simp [inB]; omega
              go_wp2_with (go_at_call 29; refine (in_any _ _ _ _).mono ?_; rintro e w' ⟨rfl, rfl⟩)
              clear hgs
              try clear q1 q1' q2 q3 q4 q5 q6 hpy
              try clear hg1 hg2 h0
              obtain ⟨wo, ho⟩ : ∃ wo : World, wo = wr := ⟨_, rfl⟩
              subst ho
              have HLo := Lib.hid HL.out
              have HBo := Lib.hid HB.out
              clear HL HB hc0 hf0 g0 g1 g2
              go_loopw [8] (fun i ws => (∃ m : Nat, m ≤ k ∧ i = .int .i64 m ∧ ∀ (j : Nat) (z : MRec), j < m → rs[j]? = some z → (decide (x.commit ≠ 0) && decide (x.start < z.commit)) = false) ∧ Below w.heap.size w ws ∧ ws.heap[w.heap.size]? = some (.cells #[.string key, .int .i64 ls, .string lp, .string val, .slice (some ⟨b, off, none⟩) n c] 26 (0, 0)) ∧ ws.heap[wo.heap.size]? = some (.cells #[.int .i64 x.start, .int .i64 x.commit, .string x.value] 55 (0, 0))) (fun i _ => k - (intOf i).toNat)
              case atStart => exact ⟨⟨0, Nat.zero_le _, rfl, by intro j z h; omega⟩, below_drewN (HLo.out.alloc HLo.out.size _) _, blk_old HBo.out _, blk_new wo _ _⟩
              case round =>
                obtain ⟨⟨m, hmk, rfl, hall⟩, hbel, hblk, hblx⟩ := hrel
                have HA := Lib.hid hall
                have HL := Lib.hid hbel
                have HB := Lib.hid hblk
                have HBX := Lib.hid hblx
                clear hall hbel hblk hblx
                obtain ⟨hc0, hf0⟩ := blk_read HB.out
                obtain ⟨hcx, hfx⟩ := blk_read HBX.out
                by_cases hlt2 : m < k
                · obtain ⟨z, b', off', hzz, e, _, g0', g1', _⟩ := (H.out.below HL.out (Nat.le_refl _)).at_ (show m < n by omega)
                  injection e with e
                  injection e with e1' e2'
                  subst e1'; subst e2'
                  have HZ := Lib.hid hzz
                  have hmn : (m : Int) < (n : Int) := by omega
                  have hm0 : (0 : Int) ≤ (m : Int) := by omega
                  clear hzz
                  by_cases hbad : x.start < z.commit
                  · have hd : decide (x.start < z.commit) = true := decide_eq_true hbad
                    have HD := Lib.hid hbad
                    clear hbad
                    go_wp2_with fail
                    go_quiet (fail)
                    go_wp2_with fail
                    go_ret
                    refine ⟨ret_bool (row_bad' (r := ⟨key, ls, lp, val, rs⟩) HT.out HX.out (step_last HC.out ?_)), below_drewN HL.out _⟩
                    have := (recsTo_max (by have := Hn.out; omega) HT.out).2.1 m z (by omega) HZ.out
                    have := HD.out
                    omega
                  · have hd : decide (x.start < z.commit) = false := decide_eq_false hbad
                    have HD := Lib.hid hd
                    go_wp2_with fail
                    go_quiet (fail)
                    go_wp2_with fail
                    go_roundw
                    case rel => exact ⟨⟨m + 1, by omega, by go_num, none_snoc (p := fun z : MRec => decide (x.commit ≠ 0) && decide (x.start < z.commit)) HZ.out (by show (_ && decide (x.start < z.commit)) = false; rw [HD.out, Bool.and_false]) HA.out⟩, below_drewN HL.out _, HB.out, HBX.out⟩
                    case measure => simp [intOf]; omega
                · have hmax : last ≤ x.start := by
                    obtain ⟨_, _, h3 | ⟨j, z, hj, hz1, hz2⟩⟩ := recsTo_max (by have := Hn.out; omega) HT.out
                    · omega
                    · have := HA.out j z (by omega) hz1
                      have hne := HC.out
                      simp only [ne_eq, hne, not_false_eq_true, decide_true, Bool.true_and, decide_eq_false_iff_not] at this
                      omega
                  have HS := Lib.hid (row_next HT.out HX.out (step_ok ht HP.out hs HC.out h1.1 h1.2 hmax))
                  clear hmax
                  by_cases hl0 : ls = 0
                  · have l0 : (ls != 0) = false := by simpa using hl0
                    have HL0 := Lib.hid hl0
                    clear hl0
                    go_wp2_with fail
                    go_roundw
                    case rel => exact ⟨⟨k + 1, x.commit, by omega, by go_num, HS.out, fun hne => absurd HL0.out hne⟩, HL.out, HB.out⟩
                    case measure => simp [intOf]; omega
                  · have l0 : (ls != 0) = true := by simpa using hl0
                    have HL0 := Lib.hid hl0
                    clear hl0
                    by_cases hgt : ls < x.commit
                    · go_wp2_with fail
                      go_ret
                      exact ⟨ret_bool (row_lock (r := ⟨key, ls, lp, val, rs⟩) (by omega) HL0.out HS.out hgt).symm, HL.out⟩
                    · go_wp2_with fail
                      go_roundw
                      case rel => exact ⟨⟨k + 1, x.commit, by omega, by go_num, HS.out, fun _ => by omega⟩, HL.out, HB.out⟩
                      case measure => simp [intOf]; omega
            · have hin : inB x.commit (x.start + 1) 1099511627776 = false := by simp [inB]; omega
              go_wp2_with (go_at_call 29; refine (in_any _ _ _ _).mono ?_; rintro e w' ⟨rfl, rfl⟩)
              go_ret
              refine ⟨ret_bool (row_bad' (r := ⟨key, ls, lp, val, rs⟩) HT.out HX.out ?_), below_drewN (HL.out.alloc HL.out.size _) _⟩
              by_cases h2 : x.commit ≤ x.start
              · exact step_le HC.out h2
              · exact step_max HC.out (by omega)
      · have HE := Lib.hid (recsTo_all (rs := rs) (k := k) (by have := Hn.out; omega))
        go_wp2_with fail
        go_ret
        refine ⟨ret_bool ?_, HL.out⟩
        have hto := HT.out
        rw [HE.out] at hto
        have hlen := Hn.out
        have hroom : n ≤ 100 := by have := h3; unfold roomOf at this; split at this <;> omega
        have hhead : headB ⟨key, ls, lp, val, rs⟩ = true := by simp only [headB, h1, h2, HLB.out, hlen, hroom, decide_true, Bool.and_self]
        simp only [rowB, hhead, hto, tailB, Bool.true_and]
        by_cases h0 : ls = 0
        · simp [h0]
        · have := HM.out h0
          have hne : n ≠ 100 := by have := h3; unfold roomOf at this; rw [if_neg h0] at this; omega
          simp [h0, this, hlen, hne]
set_option maxRecDepth 100000 in
set_option maxHeartbeats 1000000 in
theorem may_bad (key : ByteArray) (ls : Int) (lp val : ByteArray) (rs : List MRec) (A : Option Addr) (n c : Nat) (w : World) (h : RecsAt w w.heap.size A n rs) (hm : n ≤ maxLen) (hks : key.size ≤ maxLen) (hls : lp.size ≤ maxLen) (hh : keyB key = false ∨ 20 < val.size ∨ lockB ⟨key, ls, lp, val, rs⟩ = false) :
    Calls Try.prog 45 #[.agg #[.string key, .int .i64 ls, .string lp, .string val, .slice A n c]] w fun e w' => e = .returned (.bool false) ∧ Below w.heap.size w w' := by
  have H := Lib.hid h
  have Hm := Lib.hid hm
  have Hks := Lib.hid hks
  have Hls := Lib.hid hls
  have HH := Lib.hid hh
  clear h hh hm hks hls
  cases h1 : keyB key
  · go_enter Try.func45, Try.ntmps45
    go_wp2_with fail
    refine (keyMay_any _ _ Hks.out).mono ?_
    rintro e w1 ⟨rfl, rfl⟩
    have HL := Lib.hid ((Below.refl w.heap.size w).alloc (Nat.le_refl _) (.cells #[.string key, .int .i64 ls, .string lp, .string val, .slice A n c] 26))
    have HB := Lib.hid (blk_new w #[.string key, .int .i64 ls, .string lp, .string val, .slice A n c] 26)
    go_wp2_with fail
    go_ret
    exact ⟨rfl, HL.out⟩
  by_cases h2 : val.size ≤ 20
  rotate_left
  · go_enter Try.func45, Try.ntmps45
    go_wp2_with fail
    refine (keyMay_any _ _ Hks.out).mono ?_
    rintro e w1 ⟨rfl, rfl⟩
    have HL := Lib.hid ((Below.refl w.heap.size w).alloc (Nat.le_refl _) (.cells #[.string key, .int .i64 ls, .string lp, .string val, .slice A n c] 26))
    have HB := Lib.hid (blk_new w #[.string key, .int .i64 ls, .string lp, .string val, .slice A n c] 26)
    go_wp2_with fail
    go_ret
    exact ⟨rfl, HL.out⟩
  have hl : lockB ⟨key, ls, lp, val, rs⟩ = false := by
    rcases HH.out with h | h | h
    · rw [h1] at h; cases h
    · omega
    · exact h
  by_cases h0 : ls = 0
  · have hx : 1 ≤ lp.size ∨ 1 ≤ val.size := by
      simp only [lockB, h0, if_true, Bool.and_eq_false_iff, decide_eq_false_iff_not] at hl
      omega
    subst h0
    clear hl
    by_cases hlp : 1 ≤ lp.size
    · obtain ⟨e1, e2⟩ := str_some hlp
      go_enter Try.func45, Try.ntmps45
      go_wp2_with fail
      refine (keyMay_any _ _ Hks.out).mono ?_
      rintro e w1 ⟨rfl, rfl⟩
      have HL := Lib.hid ((Below.refl w.heap.size w).alloc (Nat.le_refl _) (.cells #[.string key, .int .i64 0, .string lp, .string val, .slice A n c] 26))
      have HB := Lib.hid (blk_new w #[.string key, .int .i64 0, .string lp, .string val, .slice A n c] 26)
      go_wp2_with fail
      go_ret
      exact ⟨rfl, HL.out⟩
    · obtain ⟨e1, e2⟩ := str_none hlp
      obtain ⟨e3, e4⟩ := str_some (s := val) (by omega)
      go_enter Try.func45, Try.ntmps45
      go_wp2_with fail
      refine (keyMay_any _ _ Hks.out).mono ?_
      rintro e w1 ⟨rfl, rfl⟩
      have HL := Lib.hid ((Below.refl w.heap.size w).alloc (Nat.le_refl _) (.cells #[.string key, .int .i64 0, .string lp, .string val, .slice A n c] 26))
      have HB := Lib.hid (blk_new w #[.string key, .int .i64 0, .string lp, .string val, .slice A n c] 26)
      go_wp2_with fail
      go_ret
      exact ⟨rfl, HL.out⟩
  · have hl' : (timeB ls && (keyB lp && !(recFind rs ls).isSome)) = false := by
      have := hl
      simp only [lockB, h0, if_false, recFind_find] at this
      exact this
    have HF := Lib.hid hl'
    have e0 : (ls == 0) = false := by simpa using h0
    clear hl hl' h0
    go_enter Try.func45, Try.ntmps45
    go_wp2_with fail
    refine (keyMay_any _ _ Hks.out).mono ?_
    rintro e w1 ⟨rfl, rfl⟩
    have HL := Lib.hid ((Below.refl w.heap.size w).alloc (Nat.le_refl _) (.cells #[.string key, .int .i64 ls, .string lp, .string val, .slice A n c] 26))
    have HB := Lib.hid (blk_new w #[.string key, .int .i64 ls, .string lp, .string val, .slice A n c] 26)
    go_wp2_with fail
    refine (recOf_any ⟨key, ls, lp, val, rs⟩ ls A n c _ ((H.out.below HL.out (Nat.le_refl _)).more (by simp)) Hm.out).mono ?_
    rintro e w3 ⟨rfl, hb3⟩
    have HL3 := Lib.hid (HL.out.trans (hb3.mono (by simp)))
    have HB3 := Lib.hid (blk_keep hb3 HB.out (by simp))
    clear hb3
    obtain ⟨hc3, hf3⟩ := blk_read HB3.out
    have hz3 := blk_lt HB3.out
    obtain ⟨x, hx⟩ : ∃ x : MRec, recVal (recFind rs ls) = .agg #[.int .i64 x.start, .int .i64 x.commit, .string x.value] := by
      cases recFind rs ls with
      | none => exact ⟨MRec.zero, rfl⟩
      | some x => exact ⟨x, rfl⟩
    rw [hx]
    clear hx
    have HL4 := Lib.hid (HL3.out.alloc HL3.out.size (.cells #[.int .i64 x.start, .int .i64 x.commit, .string x.value] 55))
    cases hfd : (recFind rs ls).isSome
    rotate_left
    · go_wp2_with fail
      go_ret
      exact ⟨rfl, HL4.out⟩
    cases ht : timeB ls
    · go_wp2_with fail
      refine (isTime_any _ _).mono ?_
      rintro e w4 ⟨rfl, rfl⟩
      go_wp2_with fail
      go_ret
      exact ⟨rfl, HL4.out⟩
    have hk : keyB lp = false := by
      have := HF.out
      simpa [hfd, ht] using this
    go_wp2_with fail
    refine (isTime_any _ _).mono ?_
    rintro e w4 ⟨rfl, rfl⟩
    go_wp2_with fail
    refine (keyMay_any _ _ Hls.out).mono ?_
    rintro e w4 ⟨rfl, rfl⟩
    go_wp2_with fail
    go_ret
    exact ⟨rfl, HL4.out⟩

/-- The reference's RowMay answers as row.Check does. -/
theorem may_any (r : MRow) (A : Option Addr) (n c : Nat) (w : World) (h : RecsAt w w.heap.size A n r.recs) (hm : n ≤ maxLen) (hks : r.key.size ≤ maxLen) (hls : r.lp.size ≤ maxLen) :
    Calls Try.prog 45 #[.agg #[.string r.key, .int .i64 r.ls, .string r.lp, .string r.value, .slice A n c]] w fun e w' => e = .returned (.bool (rowB r)) ∧ Below w.heap.size w w' := by
  by_cases hh : keyB r.key = false ∨ 20 < r.value.size ∨ lockB r = false
  · refine (may_bad r.key r.ls r.lp r.value r.recs A n c w h hm hks hls hh).mono fun _ _ ⟨he, hb⟩ => ⟨he.trans (ret_bool (head_false ?_).symm), hb⟩
    rcases hh with h1 | h1 | h1
    · simp [headB, h1]
    · have e : ¬ r.value.size ≤ 20 := by omega
      simp [headB, e]
    · simp [headB, h1]
  · have h1 : keyB r.key = true := by
      cases h : keyB r.key
      · exact absurd (.inl h) hh
      · rfl
    have h4 : lockB r = true := by
      cases h : lockB r
      · exact absurd (.inr (.inr h)) hh
      · rfl
    exact may_head r.key r.ls r.lp r.value r.recs A n c w h hm hks hls h1 (by omega) h4
end Go.Proofs.Ytniomgngiiiklab
