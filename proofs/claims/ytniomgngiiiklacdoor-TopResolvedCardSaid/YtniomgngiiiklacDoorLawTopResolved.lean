/- TopResolved: when all clients have stopped and all locks are resolved, what is read is what was committed: the law's walk, then its row and its card. Conditions: none. -/
import Derived.Test.YtniomgngiiiklacDoorTopRun
import Derived.Test.YtniomgngiiiklacDoorActsApp
import Derived.Test.YtniomgngiiiklacDoorCommitted
import Derived.Test.YtniomgngiiiklacDoorTopSet
import Derived.Test.YtniomgngiiiklacDoorDoor
import Derived.Test.YtniomgngiiiklacDoorValue
namespace Go.Proofs.YtniomgngiiiklacDoor
open Go.RowKit Go.Maps

def askN (k : Nat) : MAct := askA (keyN k)
def getN (k : Nat) : MAct := getA (keyN k)
theorem keyF_small {k : Nat} (h : k < 4) : keyF (k : Int) = keyN (k : Int) := by
  unfold keyF pickF
  rw [if_neg (by omega)]
  congr 1
  omega
/-- Acts, and then one for each number below k. -/
def upTo (f : Nat → MAct) (l : List MAct) (k : Nat) : List MAct := l ++ (List.range k).map f
theorem upTo_zero (f : Nat → MAct) (l : List MAct) : upTo f l 0 = l := by unfold upTo; simp
theorem upTo_more (f : Nat → MAct) (l : List MAct) (k : Nat) : upTo f l k ++ [f k] = upTo f l (k + 1) := by
  unfold upTo
  rw [List.range_succ, List.map_append, List.append_assoc]; rfl
theorem keyN_size {k : Int} : (keyN k).size ≤ maxLen := by
  unfold keyN maxLen
  repeat' split
  all_goals decide
theorem inI64_small {k : Nat} (h : k < 4) : InI64 (k : Int) := by unfold InI64; omega

set_option maxRecDepth 100000 in
set_option maxHeartbeats 8000000 in
theorem topResolved_walk (l : List MRaw) (A : Option Addr) (n c : Nat) (w : World) (h : RawsOk w w.heap.size A n c l) :
    Calls Tryd.prog 3 #[.slice A n c] w fun e w' => e = .returned (.bool true) ∧ Below w.heap.size w w' := by
  have HR := Lib.hid h
  clear h
  obtain ⟨acts, X, M, hs⟩ := script_mk (mo := 80) (by decide) l
  have HS := Lib.hid hs
  clear hs
  obtain ⟨all, hall⟩ : ∃ all, all = acts ++ endActs 4 keys4 := ⟨_, rfl⟩
  have hres := resolved_plain HS.out.len HS.out.ok HS.out.keys
  rw [← hall, ← HS.out.ans] at hres
  obtain ⟨Y, hY⟩ : ∃ Y, Y = ansFrom (startW 4) all := ⟨_, rfl⟩
  obtain ⟨M2, hM2⟩ : ∃ M2, M2 = all.foldl stepW (startW 4) := ⟨_, rfl⟩
  rw [← hY, ← hM2] at hres
  obtain ⟨r1, r2, r3, r4⟩ := hres
  have HRUN2 := Lib.hid r1
  have HGOOD := Lib.hid r2
  have HFREE := Lib.hid r3
  have HVAL := Lib.hid r4
  have HYL : Hid (Y.length = acts.length + 13) := by show _ = _; rw [hY, length_ansFrom, hall, List.length_append]; rfl
  have HALL := Lib.hid hall
  clear hall hY hM2 r1 r2 r3 r4
  go_enter Tryd.func3, Tryd.ntmps3
  go_wp2_with fail
  refine (keepActs_any l 80 4 A n c w HR.out (by decide) (by decide) (by decide)).mono ?_
  rintro e w1 ⟨A1, m1, c1, rfl, ho, hb⟩
  rw [← HS.out.eq] at ho
  have hm1 := len_of_cells (f := MAct.cells) (s := 4) (fun _ => rfl) (by decide) ho
  have HO1 := Lib.hid ho
  have HL1 := Lib.hid hb
  have HM1 : Hid (m1 = acts.length ∧ m1 ≤ 90) := ⟨hm1, by have := HS.out.len; omega⟩
  clear ho hb hm1
  go_wp2_with fail
  refine (topRun_any acts A1 m1 c1 w1 (ActsOk.of_own HO1.out) (by have := HM1.out; omega)).mono ?_
  rintro e w2 hr
  rw [HS.out.run] at hr
  obtain ⟨A2, k2, c2, B1, n1, e1, hs1, B2, n2, e2, hs2, rfl, ho, _, _, hb⟩ := hr
  dsimp only at ho
  dsimp only
  have hk2 : k2 = m1 := by rw [len_of_cells (f := MAns.cells) (s := 5) (fun _ => rfl) (by decide) ho, HS.out.xlen, HM1.out.1]
  subst hk2
  have HX2 := Lib.hid (AnsOk.of_own ho)
  have HO2 := Lib.hid (own_at HO1.out (fun g hg => hb.block g hg))
  have HL2 := Lib.hid (HL1.out.trans (hb.mono HL1.out.size))
  clear ho hb HL1 HO1
  go_upto_region 5 with (fail)
  obtain ⟨v, hv⟩ : ∃ v, v = w2.alloc (.cells #[.slice B1 n1 e1, .int .i64 M.clock, .slice B2 n2 e2] 29) := ⟨_, rfl⟩
  rw [← hv]
  have hb2 : Below w2.heap.size w2 v := by rw [hv]; exact (Below.refl _ w2).alloc (Nat.le_refl _) _
  have HXv := Lib.hid ((HX2.out.below hb2 (Nat.le_refl _)).more hb2.size)
  have HOv := Lib.hid (own_at HO2.out (fun g hg => hb2.block g hg))
  have HLv := Lib.hid (HL2.out.trans (hb2.mono HL2.out.size))
  clear hv hb2 HX2 HO2 HL2
  go_wp2_with fail
  refine (committed_any acts X A1 A2 k2 c1 c2 v (ActsOk.of_own HOv.out) HXv.out (by have := HM1.out; omega) HS.out.ok HS.out.fine HS.out.size).mono ?_
  rintro e w3 ⟨A8, n8, c8, A9, n9, c9, L, S, rfl, hD, _, hdo, _, hle, hb⟩
  have HDO := Lib.hid hdo
  have hn8 : n8 ≤ 100 := by
    have h1 := deals_len acts X (List.replicate 4 zeroTrack) 0
    rw [← hD, List.length_map, hdo.cells.len] at h1
    have := HS.out.len
    omega
  have HN8 := Lib.hid hn8
  rw [← hD] at HVAL
  have HO3 := Lib.hid (own_at HOv.out (fun g hg => hb.block g hg))
  have HL3 := Lib.hid (HLv.out.trans (hb.mono HLv.out.size))
  clear hD hdo hle hb hn8 HXv HOv HLv
  go_wp2_with fail
  refine (cloneActs_any A1 k2 c1 acts w.heap.size w3 HO3.out (by have := HM1.out; omega)).mono ?_
  rintro e w4 ⟨A4, c4, rfl, ho, hb⟩
  have HO4 := Lib.hid ho
  have HB4 := Lib.hid hb
  clear ho hb HO3
  go_upto_block 0 with (fail)
  obtain ⟨l5, hl5⟩ : ∃ l5 : List MAct, l5 = acts := ⟨_, rfl⟩
  obtain ⟨m5, hm5⟩ : ∃ m5 : Nat, m5 = k2 := ⟨_, rfl⟩
  rw [← hl5, ← hm5] at HO4
  rw [← hm5]
  have HL5Q := Lib.hid hl5
  have HM5Q : Hid (m5 = k2 ∧ m5 ≤ 110) := ⟨hm5, by have := HM1.out; omega⟩
  clear hl5 hm5
  go_cut [9] (fun s wx => ∃ A' c', s = .slice A' (m5 + 4) c' ∧ wx.ownsRow w3.heap.size 39 4 (.slice A' (m5 + 4) c') (m5 + 4) (actCells (upTo dropA l5 4)) ∧ Below w3.heap.size w3 wx)
  case first =>
    go_wp2_with fail
    go_loopw [9, 39] (fun s i wr => (∃ k : Nat, k ≤ 4 ∧ i = .int .i64 k ∧ ∃ A' c', s = .slice A' (m5 + k) c' ∧ wr.ownsRow w3.heap.size 39 4 (.slice A' (m5 + k) c') (m5 + k) (actCells (upTo dropA l5 k))) ∧ Below w3.heap.size w3 wr) (fun _ i _ => 4 - (intOf i).toNat)
    case atStart => exact ⟨⟨0, by decide, rfl, A4, c4, rfl, by rw [upTo_zero]; exact HO4.out⟩, HB4.out⟩
    case round =>
      obtain ⟨⟨k, hk, rfl, A', c', rfl, ho⟩, hbel⟩ := hrel
      have HO := Lib.hid ho
      have HL := Lib.hid hbel
      clear ho hbel
      have hzw := HL.out.size
      by_cases hlt : k < 4
      · have d1 : decide ((k : Int) < 4) = true := decide_eq_true (by omega)
        have d2 : decide (k < 4) = true := decide_eq_true hlt
        obtain ⟨nl, hnl⟩ : ∃ nl, nl = [dropA k] := ⟨_, rfl⟩
        have HNL := Lib.hid hnl
        clear hnl
        go_wp2_with (at_builtin; refine wpList_append_acts _ rfl _ _ rfl w3.heap.size A' c' (m5 + k) (upTo dropA l5 k) nl rfl (HO.out.alloc _) wr.heap.size 1 rfl (by rw [HNL.out]; rfl) (by rw [HNL.out]; exact blk_new wr _ _) (by have := HM5Q.out; omega) (by decide) (by simp; omega) ?_)
        intro A6 c6 w6 ho hg
        have HO6 := Lib.hid ho
        have HL6 := Lib.hid ((HL.out.alloc hzw _).grown hg (by simp; omega) (fun j hj => own_base HO.out j hj))
        clear ho hg
        go_wp2_with fail
        go_roundw
        case rel =>
          refine ⟨⟨k + 1, by omega, by go_num, A6, c6, rfl, ?_⟩, HL6.out⟩
          rw [← upTo_more dropA, ← HNL.out]
          exact HO6.out
        case measure => simp [intOf]; omega
      · have d1 : decide ((k : Int) < 4) = false := decide_eq_false (by omega)
        have d2 : decide (k < 4) = false := decide_eq_false hlt
        have HK4 : Hid (k = 4) := by show _ = _; omega
        clear hlt hk
        go_wp2_with fail
        go_meet
        have e := HK4.out
        subst e
        exact ⟨A', c', rfl, HO.out, HL.out⟩
  case rest =>
    obtain ⟨A5, c5, rfl, ho, hb⟩ := hcut
    have HO5 := Lib.hid ho
    have HB5 := Lib.hid hb
    clear ho hb HO4 HB4
    go_upto_block 2 with (fail)
    obtain ⟨l6, hl6⟩ : ∃ l6 : List MAct, l6 = upTo dropA l5 4 := ⟨_, rfl⟩
    obtain ⟨m6, hm6⟩ : ∃ m6 : Nat, m6 = m5 + 4 := ⟨_, rfl⟩
    rw [← hl6, ← hm6] at HO5
    rw [← hm6]
    have HL6Q := Lib.hid hl6
    have HM6Q : Hid (m6 = m5 + 4 ∧ m6 ≤ 120) := ⟨hm6, by have := HM1.out; have := HM5Q.out; omega⟩
    clear hl6 hm6
    go_cut [9] (fun s wx => ∃ A' c', s = .slice A' (m6 + 4) c' ∧ wx.ownsRow w3.heap.size 39 4 (.slice A' (m6 + 4) c') (m6 + 4) (actCells (upTo askN l6 4)) ∧ Below w3.heap.size w3 wx)
    case first =>
      go_wp2_with fail
      go_loopw [9, 48] (fun s i wr => (∃ k : Nat, k ≤ 4 ∧ i = .int .i64 k ∧ ∃ A' c', s = .slice A' (m6 + k) c' ∧ wr.ownsRow w3.heap.size 39 4 (.slice A' (m6 + k) c') (m6 + k) (actCells (upTo askN l6 k))) ∧ Below w3.heap.size w3 wr) (fun _ i _ => 4 - (intOf i).toNat)
      case atStart => exact ⟨⟨0, by decide, rfl, A5, c5, rfl, by rw [upTo_zero]; exact HO5.out⟩, HB5.out⟩
      case round =>
        obtain ⟨⟨k, hk, rfl, A', c', rfl, ho⟩, hbel⟩ := hrel
        have HO := Lib.hid ho
        have HL := Lib.hid hbel
        clear ho hbel
        have hzw := HL.out.size
        by_cases hlt : k < 4
        · have d1 : decide ((k : Int) < 4) = true := decide_eq_true (by omega)
          have d2 : decide (k < 4) = true := decide_eq_true hlt
          obtain ⟨nl, hnl⟩ : ∃ nl, nl = [askN k] := ⟨_, rfl⟩
          have HNL := Lib.hid hnl
          clear hnl
          go_wp2_with fail
          refine (keepKey_any (k : Int) wr (inI64_small hlt)).mono ?_
          rintro e wk ⟨rfl, hb⟩
          rw [keyF_small hlt]
          have HOk := Lib.hid (own_at HO.out (fun g hg => hb.block g hg))
          have HLk := Lib.hid (HL.out.trans (hb.mono HL.out.size))
          have hzk := HLk.out.size
          clear hb
          go_wp2_with (at_builtin; refine wpList_append_acts _ rfl _ _ rfl w3.heap.size A' c' (m6 + k) (upTo askN l6 k) nl rfl (HOk.out.alloc _) wk.heap.size 1 rfl (by rw [HNL.out]; rfl) (by rw [HNL.out]; exact blk_new wk _ _) (by have := HM6Q.out; omega) (by decide) (by simp; omega) ?_)
          intro A6 c6 w6 ho hg
          have HO6 := Lib.hid ho
          have HL6 := Lib.hid ((HLk.out.alloc hzk _).grown hg (by simp; omega) (fun j hj => own_base HOk.out j hj))
          clear ho hg
          go_wp2_with fail
          go_roundw
          case rel =>
            refine ⟨⟨k + 1, by omega, by go_num, A6, c6, rfl, ?_⟩, HL6.out⟩
            rw [← upTo_more askN, ← HNL.out]
            exact HO6.out
          case measure => simp [intOf]; omega
        · have d1 : decide ((k : Int) < 4) = false := decide_eq_false (by omega)
          have d2 : decide (k < 4) = false := decide_eq_false hlt
          have HK4 : Hid (k = 4) := by show _ = _; omega
          clear hlt hk
          go_wp2_with fail
          go_meet
          have e := HK4.out
          subst e
          exact ⟨A', c', rfl, HO.out, HL.out⟩
    case rest =>
      obtain ⟨A6, c6, rfl, ho, hb⟩ := hcut
      have HO6 := Lib.hid ho
      have HB6 := Lib.hid hb
      clear ho hb HO5 HB5
      go_wp2_with (at_builtin; refine wpList_append_acts _ rfl _ _ rfl w3.heap.size A6 c6 (m6 + 4) (upTo askN l6 4) [beginA] rfl (HO6.out.alloc _) wc.heap.size 1 rfl rfl (by exact blk_new wc _ _) (by have := HM6Q.out; omega) (by decide) (by have := HB6.out.size; simp; omega) ?_)
      intro A7 c7 w7 ho hg
      have HO7 := Lib.hid ho
      have HB7 := Lib.hid ((HB6.out.alloc HB6.out.size _).grown hg (by have := HB6.out.size; simp; omega) (fun j hj => own_base HO6.out j hj))
      clear ho hg HO6 HB6
      go_upto_block 4 with (fail)
      obtain ⟨l8, hl8⟩ : ∃ l8 : List MAct, l8 = upTo askN l6 4 ++ [beginA] := ⟨_, rfl⟩
      obtain ⟨m8, hm8⟩ : ∃ m8 : Nat, m8 = m6 + 4 + 1 := ⟨_, rfl⟩
      rw [← hl8, ← hm8] at HO7
      rw [← hm8]
      have HL8Q := Lib.hid hl8
      have HM8Q : Hid (m8 = m6 + 4 + 1 ∧ m8 ≤ 140) := ⟨hm8, by have := HM1.out; have := HM6Q.out; omega⟩
      clear hl8 hm8
      go_cut [9] (fun s wx => ∃ A' c', s = .slice A' (m8 + 4) c' ∧ wx.ownsRow w3.heap.size 39 4 (.slice A' (m8 + 4) c') (m8 + 4) (actCells (upTo getN l8 4)) ∧ Below w3.heap.size w3 wx)
      case first =>
        go_wp2_with fail
        go_loopw [9, 62] (fun s i wr => (∃ k : Nat, k ≤ 4 ∧ i = .int .i64 k ∧ ∃ A' c', s = .slice A' (m8 + k) c' ∧ wr.ownsRow w3.heap.size 39 4 (.slice A' (m8 + k) c') (m8 + k) (actCells (upTo getN l8 k))) ∧ Below w3.heap.size w3 wr) (fun _ i _ => 4 - (intOf i).toNat)
        case atStart => exact ⟨⟨0, by decide, rfl, A7, c7, rfl, by rw [upTo_zero]; exact HO7.out⟩, HB7.out⟩
        case round =>
          obtain ⟨⟨k, hk, rfl, A', c', rfl, ho⟩, hbel⟩ := hrel
          have HO := Lib.hid ho
          have HL := Lib.hid hbel
          clear ho hbel
          have hzw := HL.out.size
          by_cases hlt : k < 4
          · have d1 : decide ((k : Int) < 4) = true := decide_eq_true (by omega)
            have d2 : decide (k < 4) = true := decide_eq_true hlt
            obtain ⟨nl, hnl⟩ : ∃ nl, nl = [getN k] := ⟨_, rfl⟩
            have HNL := Lib.hid hnl
            clear hnl
            go_wp2_with fail
            refine (keepKey_any (k : Int) wr (inI64_small hlt)).mono ?_
            rintro e wk ⟨rfl, hb⟩
            rw [keyF_small hlt]
            have HOk := Lib.hid (own_at HO.out (fun g hg => hb.block g hg))
            have HLk := Lib.hid (HL.out.trans (hb.mono HL.out.size))
            have hzk := HLk.out.size
            clear hb
            go_wp2_with (at_builtin; refine wpList_append_acts _ rfl _ _ rfl w3.heap.size A' c' (m8 + k) (upTo getN l8 k) nl rfl (HOk.out.alloc _) wk.heap.size 1 rfl (by rw [HNL.out]; rfl) (by rw [HNL.out]; exact blk_new wk _ _) (by have := HM8Q.out; omega) (by decide) (by simp; omega) ?_)
            intro A6 c6 w6 ho hg
            have HO6 := Lib.hid ho
            have HL6 := Lib.hid ((HLk.out.alloc hzk _).grown hg (by simp; omega) (fun j hj => own_base HOk.out j hj))
            clear ho hg
            go_wp2_with fail
            go_roundw
            case rel =>
              refine ⟨⟨k + 1, by omega, by go_num, A6, c6, rfl, ?_⟩, HL6.out⟩
              rw [← upTo_more getN, ← HNL.out]
              exact HO6.out
            case measure => simp [intOf]; omega
          · have d1 : decide ((k : Int) < 4) = false := decide_eq_false (by omega)
            have d2 : decide (k < 4) = false := decide_eq_false hlt
            have HK4 : Hid (k = 4) := by show _ = _; omega
            clear hlt hk
            go_wp2_with fail
            go_meet
            have e := HK4.out
            subst e
            exact ⟨A', c', rfl, HO.out, HL.out⟩
      case rest =>
        obtain ⟨Ax, cx, rfl, ho, hb⟩ := hcut
        have hlist : upTo getN l8 4 = all := by
          rw [HL8Q.out, HL6Q.out, HL5Q.out, HALL.out]
          simp [upTo, endActs, keys4, askN, getN, List.range_succ]
        have hlen : m8 + 4 = k2 + 13 := by have := HM8Q.out; have := HM6Q.out; have := HM5Q.out; omega
        rw [hlist, hlen] at ho
        have HMK : Hid (m5 = k2) := HM5Q.out.1
        rw [hlen]
        have HOx := Lib.hid ho
        have HBx := Lib.hid hb
        have HLx := Lib.hid (HL3.out.trans (hb.mono HL3.out.size))
        clear ho hb HO7 HB7 hlist hlen HL8Q HL6Q HL5Q HM8Q HM6Q HM5Q HL3
        go_wp2_with fail
        refine (topRun_any all Ax (k2 + 13) cx wc (ActsOk.of_own HOx.out) (by have := HM1.out; omega)).mono ?_
        rintro e w9 hr
        rw [HRUN2.out] at hr
        obtain ⟨A7, k7, c7, B3, n3, e3, hs3, B4, n4, e4, hs4, rfl, ho, hor, _, hb⟩ := hr
        dsimp only at ho hor
        dsimp only
        have hk7 : k7 = k2 + 13 := by rw [len_of_cells (f := MAns.cells) (s := 5) (fun _ => rfl) (by decide) ho, HYL.out, HM1.out.1]
        subst hk7
        have HY9 := Lib.hid (AnsOk.of_own ho)
        have HR9 := Lib.hid (hor.ok HGOOD.out.sized.1)
        have HD9 := Lib.hid (HDO.out.keep (fun g hg => (hb.block g (Nat.lt_of_lt_of_le hg HBx.out.size)).trans (HBx.out.block g hg)) (Nat.le_trans HBx.out.size hb.size))
        have HL9 := Lib.hid (HLx.out.trans (hb.mono HLx.out.size))
        clear ho hor hb HBx HLx HOx
        go_upto_region 26 with (fail)
        obtain ⟨v2, hv2⟩ : ∃ v2, v2 = w9.alloc (.cells #[.slice B3 n3 e3, .int .i64 M2.clock, .slice B4 n4 e4] 29) := ⟨_, rfl⟩
        obtain ⟨g14, hg14⟩ : ∃ g14, g14 = w9.heap.size := ⟨_, rfl⟩
        rw [← hv2, ← hg14]
        have HB14 : Hid (v2.heap[g14]? = some (.cells #[.slice B3 n3 e3, .int .i64 M2.clock, .slice B4 n4 e4] 29 (0, 0))) := by show _ = _; rw [hv2, hg14]; exact blk_new w9 _ _
        have hb2 : Below w9.heap.size w9 v2 := by rw [hv2]; exact (Below.refl _ w9).alloc (Nat.le_refl _) _
        have HYv := Lib.hid ((HY9.out.below hb2 (Nat.le_refl _)).more hb2.size)
        have HRv := Lib.hid ((HR9.out.below hb2 (Nat.le_refl _)).more hb2.size)
        have HDv := Lib.hid ((HD9.out.below hb2 (Nat.le_refl _)).more hb2.size)
        have HLv := Lib.hid (HL9.out.trans (hb2.mono HL9.out.size))
        have HN3 := Lib.hid HRv.out.len
        clear hv2 hg14 hb2 HY9 HR9 HD9 HL9
        obtain ⟨hc14, hf14⟩ := blk_read HB14.out
        go_upto_block 6 with (fail)
        clear hc14 hf14
        go_cut [] (fun wx => Below v2.heap.size v2 wx)
        case first =>
          go_wp2_with fail
          go_loopw [83] (fun i wr => (∃ k : Nat, k ≤ n3 ∧ i = .int .i64 k) ∧ Below v2.heap.size v2 wr) (fun i _ => n3 - (intOf i).toNat)
          case atStart => exact ⟨⟨0, Nat.zero_le _, rfl⟩, Below.refl _ _⟩
          case round =>
            obtain ⟨⟨k, hk, rfl⟩, hbel⟩ := hrel
            have HL := Lib.hid hbel
            clear hbel
            have hzw := HL.out.size
            by_cases hlt : k < n3
            · obtain ⟨r, b, off, A4, n4', c4, hr, rfl, hbb, hok, g0, g1, g2, g3, g4'⟩ := (HRv.out.below HL.out (Nat.le_refl _)).row hlt
              have h0 := HFREE.out r (List.mem_of_getElem? hr)
              rw [h0] at g1
              have hn3 : n3 ≤ 40 := by rw [← HN3.out]; exact HGOOD.out.rows.len
              clear hr hok
              go_wp2_with fail
              go_roundw
              case rel => exact ⟨⟨k + 1, by omega, by go_num⟩, HL.out.alloc hzw _⟩
              case measure => simp [intOf]; omega
            · go_wp2_with fail
              go_meet
              exact HL.out
        case rest =>
          have HLw := Lib.hid hcut
          have hm90 := HM1.out.2
          clear hcut
          go_wp2_with fail
          go_loopw [92] (fun i wr => (∃ k : Nat, k ≤ 4 ∧ i = .int .i64 k) ∧ Below v2.heap.size v2 wr) (fun i _ => 4 - (intOf i).toNat)
          case atStart => exact ⟨⟨0, Nat.zero_le _, rfl⟩, HLw.out⟩
          case round =>
            obtain ⟨⟨k, hk, rfl⟩, hbel⟩ := hrel
            have HL := Lib.hid hbel
            clear hbel
            have hzw := HL.out.size
            by_cases hlt : k < 4
            · have d1 : decide ((k : Int) < 4) = true := decide_eq_true (by omega)
              have d2 : decide (k < 4) = true := decide_eq_true hlt
              obtain ⟨y, hy, hy0, hyv⟩ := HVAL.out k hlt
              obtain ⟨y', b, off, hyk, rfl, hbb, q0, q1, q2, q3, q4⟩ := AnsOk.ans (HYv.out.below HL.out (Nat.le_refl _)) (show k2 + 9 + k < k2 + 13 by omega)
              obtain rfl : y' = y := by rw [HM1.out.1, hy] at hyk; injection hyk with e; exact e.symm
              rw [hy0] at q0
              have HYV := Lib.hid hyv
              have hidx : IntKind.i64.wrap (IntKind.i64.wrap (((k2 + 13 : Nat) : Int) - 4) + (k : Int)) = ((k2 + 9 + k : Nat) : Int) := by
                rw [IntWalk.i64_in (((k2 + 13 : Nat) : Int) - 4) (by omega), IntWalk.i64_in _ (by omega)]; omega
              clear hy hyk hy0 hyv
              go_upto_region 36 with (fail)
              obtain ⟨va, hva⟩ : ∃ va, va = wr.alloc (.cells #[.int .i64 0, .bool y'.is, .string y'.value, .int .i64 y'.phase, .int .i64 y'.time] 47) := ⟨_, rfl⟩
              obtain ⟨g18, hg18⟩ : ∃ g18, g18 = wr.heap.size := ⟨_, rfl⟩
              rw [← hva, ← hg18]
              have HB18 : Hid (va.heap[g18]? = some (.cells #[.int .i64 0, .bool y'.is, .string y'.value, .int .i64 y'.phase, .int .i64 y'.time] 47 (0, 0))) := by show _ = _; rw [hva, hg18]; exact blk_new wr _ _
              have HLa : Hid (Below v2.heap.size v2 va) := by show Below _ _ _; rw [hva]; exact HL.out.alloc hzw _
              have hv : valueT (L.map pairOf) (keyN (k : Int)) 1099511627776 m5 = (y'.value, y'.is) := by rw [HMK.out, HM1.out.1]; exact HYV.out.symm
              have HV := Lib.hid hv
              clear hva hg18 hidx q0 q1 q2 q3 q4 hv
              go_wp2_with fail
              refine (keepKey_any (k : Int) va (inI64_small hlt)).mono ?_
              rintro e wk ⟨rfl, hb⟩
              rw [keyF_small hlt]
              have HLk := Lib.hid (HLa.out.trans (hb.mono HLa.out.size))
              have HBk := Lib.hid ((hb.block _ (blk_lt HB18.out)).trans HB18.out)
              clear hb
              go_wp2_with fail
              refine (value_any L (keyN (k : Int)) 1099511627776 m5 A8 n8 c8 wk ((HDv.out.below HLk.out (Nat.le_refl _)).more HLk.out.size) HN8.out keyN_size).mono ?_
              rintro e w9' ⟨rfl, hb⟩
              rw [HV.out]
              have HL9 := Lib.hid (HLk.out.trans (hb.mono HLk.out.size))
              have HB9 := Lib.hid ((hb.block _ (blk_lt HBk.out)).trans HBk.out)
              clear hb
              obtain ⟨hc18, hf18⟩ := blk_read HB9.out
              go_wp2_with fail
              go_roundw
              case rel => exact ⟨⟨k + 1, by omega, by go_num⟩, HL9.out⟩
              case measure => simp [intOf]; omega
            · have d1 : decide ((k : Int) < 4) = false := decide_eq_false (by omega)
              have d2 : decide (k < 4) = false := decide_eq_false hlt
              clear hlt hk
              go_wp2_with fail
              go_ret
              exact ⟨rfl, HLv.out.trans (HL.out.mono HLv.out.size)⟩
open Go.ChangeShapes Go.WideShapes Go.ChangeAt
open Go.ChangeMaps (open_string shut_string)
set_option maxRecDepth 100000 in
theorem topResolved_lifted (os : Os) (started : os.Started) (H : Type) (enc : TypeId × Value → H) :
    ReturnsInHanded {} Tryd.checked os 3 .any (fun w args => (Rows.topResolvedSpec.pre enc Tryd.prog Tryd.f3 [] false w args ∧ laidMetH Tryd.prog laidL w) ∧ sizedMet enc Tryd.prog Tryd.f3 (OpenSpec.ofChange Rows.topResolvedSpec) false w args)
      (Rows.topResolvedSpec.post enc Tryd.prog Tryd.f3 false true false false) := by
  refine returnsInHanded_of_change_and (C := Tryd.checked) (X := fun w _ => laidMetH Tryd.prog laidL w) (fun _ _ _ hh h => h.of_heap hh) own started (by kernel_rfl) Tryd.func3
    (ChangeSpec.witness_shaped (enc := enc) (C := Tryd.checked) (os := os) (X := fun w _ => laidMetH Tryd.prog laidL w) false (World.doorLaid Tryd.prog doorN os) #[.slice none 0 0] 8 rfl (World.shaped_of_RefB (by kernel_rfl) (by kernel_rfl)) (by kernel_rfl) (by kernel_rfl) (by kernel_rfl) (door_met os _)) ?_
  intro W base args ds gs before hval0 hW hcnd hsz0 _ _
  have hval : ∀ (j : Nat) t v, Tryd.f3.params[j]? = some t → args[j]? = some v → Value.okWide Tryd.prog W .any base t v := hval0
  have hsz : (DataW.weightsEach Tryd.prog (Tryd.f3.params.toList ++ Rows.topResolvedSpec.plain.varTypes Tryd.prog) (ds ++ gs)).all (· ≤ reachBytes) = true := hsz0
  clear hsz0
  have hW' := hW
  obtain ⟨p, q, hA0, hV, rfl, hfz, hnd⟩ := hW
  have hA : DataW.TrodAll enc Tryd.prog W 0 (fun _ => true) true Tryd.f3.params.toList args.toList ds p := hA0
  rw [Tryd.params3] at hA hval hsz
  obtain ⟨v0, vs0, d0, ds0, p0, q0, hargs, rfl, rfl, h0, r0⟩ := trodAll_cons hA
  obtain ⟨rfl, rfl, rfl⟩ := trodAll_nil r0
  obtain rfl : args = #[v0] := by cases args; simp_all
  obtain ⟨rfl, rfl⟩ := trodVars_none hV
  have k0 := h0
  have lt0 : ∀ x ∈ p0, x.block < W.heap.size := by obtain ⟨m, hm⟩ := k0; exact DataW.trod_lt m _ _ _ hm
  obtain ⟨A0, n0, c0, l0, rfl, ok0⟩ := open_raws_arg (hval 0 22 v0 rfl rfl) h0 (weights_of hsz (j := 0) rfl rfl)
  clear hA0 hval0 hsz
  refine (topResolved_walk l0 A0 n0 c0 W ok0).mono fun e W' ⟨he, bel⟩ => ?_
  subst he
  exact ⟨_, rfl, _, _, _, [], _, [], hW', trodAll_mk1 (shut_bool Tryd.underlying4 _), (trodAll_cons_mk (Below.trod laidOut (by kernel_rfl) (of_decide_eq_true (by kernel_rfl)) k0 bel lt0) trodAll_mk0), rfl, bel.frame _, fun h => by cases h⟩

theorem topResolved_holds : Rows.TopResolvedSaid :=
  OpenClaim.holds_of_wide 3 Tryd.f3 rfl rfl rfl rfl rfl rfl rfl ⟨rfl, rfl, rfl, rfl, rfl⟩ rfl rfl rfl rfl rfl (by kernel_rfl) Tryd.func3 (by kernel_rfl)
    (of_decide_eq_true (by kernel_rfl)) (by unfold Func.isWrapper; first | (rw [if_pos (by decide +kernel)]; kernel_rfl) | (rw [if_neg (by decide +kernel)]; exact ⟨rfl, rfl⟩))
    (fun os started H enc _ => topResolved_lifted os started H enc)
theorem topResolved_card_holds : Rows.TopResolvedCardSaid :=
  Claim7.holds_tied_plain_at .later [] [.data, .data, .data] true (true, "c12c5c7f87fa9a1ad9522a513abd18e9f0a83ef0e85763ce862b44389c9b7365") false
    topResolved_holds (fun _ h => by cases h) (by kernel_rfl) (fun _ h => by cases h) topResolved_row_tie rfl ⟨rfl, rfl⟩ (by kernel_rfl) rfl
    (fun f fn hf hfn => by
      obtain rfl : f = 3 := Option.some.inj ((show Tryd.prog.funcNamed "rickyard/rickyardtop.TopResolved" = some 3 by kernel_rfl).symm.trans hf) |>.symm
      obtain rfl : fn = Tryd.f3 := (Option.some.inj (Tryd.func3.symm.trans hfn)).symm
      exact ⟨by kernel_rfl, fun j t ht => by
        rw [Tryd.params3] at ht
        have hm : t ∈ ([22] : List TypeId) := by simpa using Array.mem_of_getElem? ht
        have hall : (([22] : List TypeId).all fun u => !Tryd.prog.wantsStandIn u) = true := by kernel_rfl
        exact (show Tryd.prog.wantsStandIn t = false by simpa using List.all_eq_true.1 hall t hm)⟩)
    (by kernel_rfl)
#print axioms topResolved_card_holds
end Go.Proofs.YtniomgngiiiklacDoor
