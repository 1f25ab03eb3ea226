/- CrashesResolve: if a client stops between steps, others read all of its writes or none, after resolving locks: the law's walk, then its row and its card. Conditions: none. -/
import Derived.Test.YtniomgngiiiklabDoorKeepRun
import Derived.Test.YtniomgngiiiklabDoorDeed
import Derived.Test.YtniomgngiiiklabDoorGrowA
import Derived.Test.YtniomgngiiiklabDoorKeepEnds
import Derived.Test.YtniomgngiiiklabDoorDoor
namespace Go.Proofs.YtniomgngiiiklabDoor
open Go.RowKit

theorem keysK_at {k i : Nat} (h : i < k) : (keysK k)[i]? = some (keyK i) := by unfold keysK; simp [h]
theorem keysK_size {k : Nat} : ∀ s ∈ keysK k, s.size ≤ 6 := by
  intro s hs
  unfold keysK at hs
  obtain ⟨i, _, rfl⟩ := List.mem_map.1 hs
  show 1 ≤ 6
  decide
theorem keysK_blk {w : World} {g : Nat} {t : TypeId} {k : Nat} (hk : k ≤ 5) (h : w.heap[g]? = some (.cells #[.string ⟨#[97]⟩, .string ⟨#[98]⟩, .string ⟨#[99]⟩, .string ⟨#[100]⟩, .string ⟨#[101]⟩] t (0, 0))) : KeysOk w w.heap.size (some ⟨g, 0, none⟩) k (keysK k) := by
  have h5 : KeysOk w w.heap.size (some ⟨g, 0, none⟩) 5 (keysK 5) := KeysOk.of_blk (l := keysK 5) (t := t) h
  have := Reads.take h5 hk
  have e : (keysK 5).take k = keysK k := by unfold keysK; rw [← List.map_take, List.take_range, Nat.min_eq_left hk]
  rwa [e] at this

set_option maxRecDepth 100000 in
set_option maxHeartbeats 4000000 in
theorem crashesResolve_walk (a0 a1 : Int) (w : World) (h : InI64 a0) (h' : InI64 a1) :
    Calls Tryd.prog 10 #[.int .i64 a0, .int .i64 a1] w fun e w' => e = .returned (.bool true) ∧ Below w.heap.size w w' := by
  have HI := Lib.hid h
  have HI1 := Lib.hid h'
  clear h h'
  obtain ⟨p0, p1⟩ := pickF_lt a0 (m := 5) (by omega)
  obtain ⟨pk, hpk⟩ : ∃ pk : Nat, pickF a0 5 = pk := ⟨(pickF a0 5).toNat, by omega⟩
  rw [hpk] at p0 p1
  have hp : ∀ W, Calls Tryd.prog 17 #[.int .i64 a0, .int .i64 5] W fun e W' => e = .returned (.int .i64 (pk : Int)) ∧ W = W' := fun W => by
    rw [← hpk]; exact picked_any a0 5 W HI.out (by omega) (by omega)
  obtain ⟨k, hk⟩ : ∃ k : Nat, k = 1 + pk := ⟨_, rfl⟩
  have hk1 : 1 ≤ k := by omega
  have hk5 : k ≤ 5 := by omega
  obtain ⟨r0, r1⟩ := pickF_lt a1 (m := 2 * (k : Int) + 2) (by omega)
  obtain ⟨m, hm⟩ : ∃ m : Nat, pickF a1 (2 * (k : Int) + 2) = m := ⟨(pickF a1 (2 * (k : Int) + 2)).toNat, by omega⟩
  rw [hm] at r0 r1
  have hm2 : m < 2 * k + 2 := by omega
  have HPM : Hid (∀ W, Calls Tryd.prog 17 #[.int .i64 a1, .int .i64 (2 * (k : Int) + 2)] W fun e W' => e = .returned (.int .i64 (m : Int)) ∧ W = W') := by
    show ∀ W, _
    intro W
    rw [← hm]; exact picked_any a1 (2 * (k : Int) + 2) W HI1.out (by omega) (by omega)
  obtain ⟨Y, hY, hYL, y5⟩ := crash_plain hk1 hk5 hm2
  have HY := Lib.hid hY
  have HYL := Lib.hid hYL
  have HYE := Lib.hid y5
  have hs1 := fun W : World => run_firstG (P := Tryd.prog) 68 (some ⟨w.heap.size, 0, none⟩) 5 k 5 1 (1 + (pk : Int)) (by kernel_rfl) (fun _ => by kernel_rfl) hk5 (by omega) W
  clear hY hYL y5 hpk hk r0 r1 hm
  go_enter Tryd.func10, Tryd.ntmps10
  go_upto_region 2 with (go_at_call 17; refine (hp _).mono ?_; rintro e w' ⟨rfl, rfl⟩)
  clear hs1 hp p0 p1
  obtain ⟨gk, hgk⟩ : ∃ gk, gk = w.heap.size := ⟨_, rfl⟩
  obtain ⟨v, hv⟩ : ∃ v, v = w.alloc (.cells #[.string ⟨#[97]⟩, .string ⟨#[98]⟩, .string ⟨#[99]⟩, .string ⟨#[100]⟩, .string ⟨#[101]⟩] 9) := ⟨_, rfl⟩
  rw [← hgk, ← hv]
  have HK : Hid (KeysOk v v.heap.size (some ⟨gk, 0, none⟩) k (keysK k)) := by
    show KeysOk _ _ _ _ _
    exact keysK_blk (t := 9) hk5 (by rw [hv, hgk]; exact blk_new w _ _)
  have HLv : Hid (Below w.heap.size w v) := by show Below _ _ _; rw [hv]; exact (Below.refl _ w).alloc (Nat.le_refl _) _
  clear hv hgk
  have HD := Lib.hid (deed_any 0 m (keysK k) (some ⟨gk, 0, none⟩) k 5 v HK.out hk5 (by omega) (by decide) keysK_size)
  go_wp2_with fail
  refine (HPM.out v).mono ?_
  rintro e w1 ⟨rfl, rfl⟩
  go_wp2_with fail
  refine HD.out.mono ?_
  rintro e w2 ⟨A2, c2, rfl, ho, hb⟩
  have HO2 := Lib.hid ho
  have HB2 := Lib.hid hb
  have hz2 := hb.size
  obtain ⟨dl, hdl⟩ : ∃ dl : List MAct, dl = deedA 0 m (keysK k) := ⟨_, rfl⟩
  rw [← hdl] at HO2
  have HDL := Lib.hid hdl
  clear ho hb hdl HD
  go_wp2_with (at_builtin; refine wpList_append_acts _ rfl _ _ rfl v.heap.size A2 c2 (1 + k + m) dl [⟨5, 0, ⟨#[]⟩, ⟨#[]⟩⟩] rfl (HO2.out.alloc _) w2.heap.size 1 rfl rfl (by exact blk_new w2 _ _) (by omega) (by decide) (by simp; omega) ?_)
  intro A3 c3 w3 ho hg
  have HO3 := Lib.hid ho
  have HB3 := Lib.hid ((HB2.out.alloc hz2 _).grown hg (by simp; omega) (fun j hj => own_base HO2.out j hj))
  obtain ⟨d2, hd2⟩ : ∃ d2 : List MAct, d2 = dl ++ [⟨5, 0, ⟨#[]⟩, ⟨#[]⟩⟩] := ⟨_, rfl⟩
  rw [← hd2] at HO3
  have HD2 := Lib.hid hd2
  obtain ⟨n2, hn2⟩ : ∃ n2 : Nat, n2 = 1 + k + m + 1 := ⟨_, rfl⟩
  rw [← hn2] at HO3 ⊢
  have HN2 := Lib.hid hn2
  have hn20 : n2 ≤ 30 := by omega
  clear ho hg hd2 hz2 HO2 HB2 hn2
  go_upto_block 0 with (fail)
  go_cut [8] (fun s wx => ∃ A' c', s = .slice A' (n2 + k) c' ∧ wx.ownsRow v.heap.size 62 4 (.slice A' (n2 + k) c') (n2 + k) (actCells (keysTo (fun key => ⟨6, 1, key, ⟨#[]⟩⟩) d2 (keysK k) k)) ∧ Below v.heap.size v wx)
  case first =>
    obtain ⟨fk, hfk⟩ : ∃ fk : ByteArray → MAct, fk = fun key => ⟨6, 1, key, ⟨#[]⟩⟩ := ⟨_, rfl⟩
    have HFK := Lib.hid hfk
    go_wp2_with fail
    go_loopw [8, 36] (fun s i wr => (∃ j : Nat, j ≤ k ∧ i = .int .i64 j ∧ ∃ A' c', s = .slice A' (n2 + j) c' ∧ wr.ownsRow v.heap.size 62 4 (.slice A' (n2 + j) c') (n2 + j) (actCells (keysTo fk d2 (keysK k) j))) ∧ Below v.heap.size v wr) (fun _ i _ => k - (intOf i).toNat)
    case atStart => exact ⟨⟨0, Nat.zero_le _, rfl, A3, c3, rfl, by rw [keysTo_zero]; exact HO3.out⟩, HB3.out⟩
    case round =>
      obtain ⟨⟨j, hj, rfl, A', c', rfl, ho⟩, hbel⟩ := hrel
      have HOr := Lib.hid ho
      have HL := Lib.hid hbel
      clear ho hbel hfk
      have hzw := HL.out.size
      by_cases hlt : j < k
      · obtain ⟨x, b, off, hx, ek, hbb, q0⟩ := KeysOk.key (Reads.below HK.out HL.out (Nat.le_refl _)) hlt
        injection ek with ek
        injection ek with ek1 ek2
        rw [← ek1, ← ek2, Nat.zero_add] at q0
        have HX := Lib.hid hx
        obtain ⟨nl, hnl⟩ : ∃ nl, nl = [fk x] := ⟨_, rfl⟩
        have HNL := Lib.hid hnl
        clear hx hnl ek1 ek2 hbb
        go_wp2_with (at_builtin; refine wpList_append_acts _ rfl _ _ rfl v.heap.size A' c' (n2 + j) (keysTo fk d2 (keysK k) j) nl rfl (HOr.out.alloc _) wr.heap.size 1 rfl (by rw [HNL.out]; rfl) (by rw [HNL.out, HFK.out]; exact blk_new wr _ _) (by omega) (by decide) (by simp; omega) ?_)
        intro A6 c6 w6 ho hg
        have HO6 := Lib.hid ho
        have HL6 := Lib.hid ((HL.out.alloc hzw _).grown hg (by simp; omega) (fun j hj => own_base HOr.out j hj))
        clear ho hg
        go_wp2_with fail
        go_roundw
        case rel =>
          refine ⟨⟨j + 1, by omega, by go_num, A6, c6, rfl, ?_⟩, HL6.out⟩
          rw [← keysTo_more fk HX.out, ← HNL.out]
          exact HO6.out
        case measure => simp [intOf]; omega
      · have HN : Hid (j = k) := by show _ = _; omega
        clear hj
        go_wp2_with fail
        go_meet
        have e := HN.out
        subst e
        rw [← HFK.out]
        exact ⟨A', c', rfl, HOr.out, HL.out⟩
  case rest =>
    obtain ⟨A4, c4, rfl, ho, hb⟩ := hcut
    obtain ⟨g2, rfl, hn2, hp2⟩ := PartOk.of_own ho (by omega)
    obtain ⟨rl, hrl⟩ : ∃ rl : List MAct, rl = keysTo (fun key => ⟨6, 1, key, ⟨#[]⟩⟩) d2 (keysK k) k := ⟨_, rfl⟩
    rw [← hrl] at hn2 hp2
    have HRL : Hid (rl = (deedA 0 m (keysK k) ++ [⟨5, 0, ⟨#[]⟩, ⟨#[]⟩⟩]) ++ (keysK k).map fun key => ⟨6, 1, key, ⟨#[]⟩⟩) := by
      show _ = _
      rw [hrl, keysTo_all _ _ (by rw [keysK_length]; exact Nat.le_refl _), HD2.out, HDL.out]
    have HP2 := Lib.hid hp2
    have HNN := Lib.hid hn2
    have HK2 := Lib.hid ((Reads.below HK.out hb (Nat.le_refl _)).more hb.size)
    have HL2 := Lib.hid (HLv.out.trans (hb.mono HLv.out.size))
    clear ho hb hn2 hp2 hrl HK HLv HO3 HB3
    go_wp2_with fail
    refine (look_any 1 (keysK k) (some ⟨gk, 0, none⟩) k 5 wc HK2.out hk5).mono ?_
    rintro e w4 ⟨A5, c5, rfl, ho, hb⟩
    obtain ⟨g3, rfl, hn3, hp3⟩ := PartOk.of_own ho (by omega)
    have HP3 := Lib.hid hp3
    have HN3 := Lib.hid hn3
    have HP23 := Lib.hid ((HP2.out.below hb (Nat.le_refl _)).more hb.size)
    have HK3 := Lib.hid ((Reads.below HK2.out hb (Nat.le_refl _)).more hb.size)
    have HL3 := Lib.hid (HL2.out.trans (hb.mono HL2.out.size))
    clear ho hb hn3 hp3 HP2 HK2 HL2
    go_wp2_with fail
    obtain ⟨v3, hv3⟩ : ∃ v3, v3 = w4.alloc (.cells #[.slice (some ⟨g2, 0, none⟩) (n2 + k) c4, .slice (some ⟨g3, 0, none⟩) (1 + k) c5] 40) := ⟨_, rfl⟩
    obtain ⟨g4, hg4⟩ : ∃ g4, g4 = w4.heap.size := ⟨_, rfl⟩
    rw [← hv3, ← hg4]
    obtain ⟨ps, hps⟩ : ∃ ps : List ActPart, ps = [⟨g2, c4, rl⟩, ⟨g3, c5, lookA 1 (keysK k)⟩] := ⟨_, rfl⟩
    have hb3 : Below w4.heap.size w4 v3 := by rw [hv3]; exact (Below.refl _ w4).alloc (Nat.le_refl _) _
    have HRD : Hid (Reads ActPart.cells 1 v3 v3.heap.size (some ⟨g4, 0, none⟩) 2 ps) := by
      show Reads _ _ _ _ _ _ _
      rw [hps]
      refine Reads.of_blk (f := ActPart.cells) (s := 1) (fun _ => rfl) (t := 40) (l := [⟨g2, c4, rl⟩, ⟨g3, c5, lookA 1 (keysK k)⟩]) ?_
      rw [hv3, hg4, HNN.out, HN3.out]
      exact blk_new w4 _ _
    have HPS : Hid (∀ p ∈ ps, PartOk v3 v3.heap.size p) := by
      show ∀ p ∈ _, _
      rw [hps]
      intro p hp
      rcases List.mem_cons.1 hp with rfl | hp
      · exact (HP23.out.below hb3 (Nat.le_refl _)).more hb3.size
      · simp at hp; subst hp
        exact (HP3.out.below hb3 (Nat.le_refl _)).more hb3.size
    have HAC : Hid (ps.flatMap ActPart.l = crashActs k m) := by
      show _ = _
      rw [hps]
      show rl ++ (lookA 1 (keysK k) ++ []) = _
      rw [List.append_nil, HRL.out]; rfl
    have HLS : Hid ((ps.flatMap ActPart.l).length = 3 * k + m + 3) := by
      show _ = _
      rw [HAC.out]; unfold crashActs
      rw [List.length_append, List.length_append, List.length_append, deedA_length, lookA_length, List.length_map, keysK_length, List.length_singleton]; omega
    have HK4 := Lib.hid ((Reads.below HK3.out hb3 (Nat.le_refl _)).more hb3.size)
    have HL4 := Lib.hid (HL3.out.trans (hb3.mono HL3.out.size))
    clear hv3 hg4 hb3 hps HP23 HP3 HK3 HL3 HN3 HNN HRL
    refine (concat_any ps (some ⟨g4, 0, none⟩) 2 2 v3 HRD.out HPS.out (by decide) (by rw [HLS.out]; omega) (by rw [HLS.out]; omega)).mono ?_
    rintro e w5 ⟨A6, m6, c6, rfl, hm, ho, hb⟩
    rw [HLS.out] at hm
    subst hm
    rw [HAC.out] at ho
    have HA4 := Lib.hid (ActsOk.of_own ho)
    have HK5 := Lib.hid ((Reads.below HK4.out hb (Nat.le_refl _)).more hb.size)
    have HL5 := Lib.hid (HL4.out.trans (hb.mono HL4.out.size))
    clear ho hb HRD HPS HLS HAC HL4 HK4
    go_wp2_with fail
    refine (keepRun_any (crashActs k m) A6 (3 * k + m + 3) c6 w5 HA4.out (by omega)).mono ?_
    rintro e w6 ⟨A7, c7, rfl, ho, hb⟩
    rw [HY.out] at ho
    have HA5 := Lib.hid (AnsOk.of_own ho)
    have HK6 := Lib.hid ((Reads.below HK5.out hb (Nat.le_refl _)).more hb.size)
    have HL6 := Lib.hid (HL5.out.trans (hb.mono HL5.out.size))
    clear ho hb HL5 HA4 HK5
    go_upto_region 13 with (fail)
    go_wp2_with fail
    go_loopw [59] (fun i wr => (∃ j : Nat, j ≤ k ∧ i = .int .i64 j) ∧ Below w6.heap.size w6 wr) (fun i _ => k - (intOf i).toNat)
    case atStart => exact ⟨⟨0, Nat.zero_le _, rfl⟩, Below.refl _ _⟩
    case round =>
      obtain ⟨⟨j, hj, rfl⟩, hbel⟩ := hrel
      have HL := Lib.hid hbel
      have hzw := hbel.size
      clear hbel
      by_cases hlt : j < k
      · obtain ⟨x, gb, offk, hx, ek, hbb, k0⟩ := KeysOk.key (Reads.below HK6.out HL.out (Nat.le_refl _)) hlt
        injection ek with ek
        injection ek with ek1 ek2
        rw [← ek1, ← ek2, Nat.zero_add] at k0
        obtain rfl : x = keyK j := by rw [keysK_at hlt] at hx; injection hx with e; exact e.symm
        obtain ⟨y1, y2, y3⟩ := HYE.out j hlt
        obtain ⟨b1, off1, rfl, hb1, q0, q1, q2, q3, q4⟩ := ans_no (HA5.out.below HL.out (Nat.le_refl _)) (k := 2 * k + m + 3 + j) (by omega)
        rw [y1] at q0
        rw [y2] at q1
        rw [y2] at y3
        have hxs : (keyK j).size = 1 := rfl
        have hc1 : ¬ 9223372036854775807 < 3 + (keyK j).size := by rw [hxs]; decide
        have hc2 : ¬ 9223372036854775807 < 3 + (keyK j).size + 1 := by rw [hxs]; decide
        have eo : ofK (keyK j) 0 = (⟨#[111, 102, 32]⟩ ++ keyK j) ++ ⟨#[48]⟩ := rfl
        by_cases hkm : k + 2 ≤ m
        · rw [y3 (decide_eq_true hkm), eo] at q2
          rw [decide_eq_true hkm] at q1
          have d1 : decide ((k : Int) + 2 ≤ (m : Int)) = true := decide_eq_true (by omega)
          have d2 : decide (k + 2 ≤ m) = true := decide_eq_true hkm
          rw [show 2 * k + m + 3 + j = 3 * k + m + 3 - k + j by omega] at q0 q1 q2 q3 q4
          clear ek1 ek2 hx y1 y2 y3 hb1 hbb hxs eo hkm
          go_wp2_with fail
          go_roundw
          case rel => exact ⟨⟨j + 1, by omega, by go_num⟩, HL.out.alloc hzw _⟩
          case measure => simp [intOf]; omega
        · rw [decide_eq_false hkm] at q1
          have d1 : decide ((k : Int) + 2 ≤ (m : Int)) = false := decide_eq_false (by omega)
          have d2 : decide (k + 2 ≤ m) = false := decide_eq_false hkm
          rw [show 2 * k + m + 3 + j = 3 * k + m + 3 - k + j by omega] at q0 q1 q2 q3 q4
          clear ek1 ek2 hx y1 y2 y3 hb1 hbb hxs eo hkm
          go_wp2_with fail
          go_roundw
          case rel => exact ⟨⟨j + 1, by omega, by go_num⟩, HL.out.alloc hzw _⟩
          case measure => simp [intOf]; omega
      · go_wp2_with fail
        go_ret
        exact ⟨rfl, HL6.out.trans (HL.out.mono HL6.out.size)⟩
open Go.ChangeShapes Go.WideShapes Go.ChangeAt
open Go.ChangeMaps (open_string shut_string)
set_option maxRecDepth 100000 in
theorem crashesResolve_lifted (os : Os) (started : os.Started) (H : Type) (enc : TypeId × Value → H) :
    ReturnsInHanded {} Tryd.checked os 10 .any (fun w args => (Rows.crashesResolveSpec.pre enc Tryd.prog Tryd.f10 [] false w args ∧ laidMetH Tryd.prog laidL w) ∧ sizedMet enc Tryd.prog Tryd.f10 (OpenSpec.ofChange Rows.crashesResolveSpec) false w args)
      (Rows.crashesResolveSpec.post enc Tryd.prog Tryd.f10 false true false false) := by
  refine returnsInHanded_of_change_and (C := Tryd.checked) (X := fun w _ => laidMetH Tryd.prog laidL w) (fun _ _ _ hh h => h.of_heap hh) own started (by kernel_rfl) Tryd.func10
    (ChangeSpec.witness_shaped (enc := enc) (C := Tryd.checked) (os := os) (X := fun w _ => laidMetH Tryd.prog laidL w) false (World.doorLaid Tryd.prog doorN os) #[.int .i64 0, .int .i64 0] 8 rfl (World.shaped_of_RefB (by kernel_rfl) (by kernel_rfl)) (by kernel_rfl) (by kernel_rfl) (by kernel_rfl) (door_met os _)) ?_
  intro W base args ds gs before hval0 hW hcnd hsz0 _ _
  have hval : ∀ (j : Nat) t v, Tryd.f10.params[j]? = some t → args[j]? = some v → Value.okWide Tryd.prog W .any base t v := hval0
  have hsz : (DataW.weightsEach Tryd.prog (Tryd.f10.params.toList ++ Rows.crashesResolveSpec.plain.varTypes Tryd.prog) (ds ++ gs)).all (· ≤ reachBytes) = true := hsz0
  clear hsz0
  have hW' := hW
  obtain ⟨p, q, hA0, hV, rfl, hfz, hnd⟩ := hW
  have hA : DataW.TrodAll enc Tryd.prog W 0 (fun _ => true) true Tryd.f10.params.toList args.toList ds p := hA0
  rw [Tryd.params10] at hA hval hsz
  obtain ⟨v0, vs0, d0, ds0, p0, q0, hargs, rfl, rfl, h0, r0⟩ := trodAll_cons hA
  obtain ⟨v1, vs1, d1, ds1, p1, q1, rfl, rfl, rfl, h1, r1⟩ := trodAll_cons r0
  obtain ⟨rfl, rfl, rfl⟩ := trodAll_nil r1
  obtain rfl : args = #[v0, v1] := by cases args; simp_all
  obtain ⟨rfl, rfl⟩ := trodVars_none hV
  have k0 := h0
  have lt0 : ∀ x ∈ p0, x.block < W.heap.size := by obtain ⟨m, hm⟩ := k0; exact DataW.trod_lt m _ _ _ hm
  have k1 := h1
  have lt1 : ∀ x ∈ p1, x.block < W.heap.size := by obtain ⟨m, hm⟩ := k1; exact DataW.trod_lt m _ _ _ hm
  obtain ⟨a0, rfl, rfl, rfl, w0⟩ := open_int Tryd.underlying3 (hval 0 3 v0 rfl rfl) h0
  obtain ⟨a1, rfl, rfl, rfl, w1⟩ := open_int Tryd.underlying3 (hval 1 3 v1 rfl rfl) h1
  clear hA0 hval0 hsz
  refine (crashesResolve_walk a0 a1 W (of_wf_i64 w0) (of_wf_i64 w1)).mono fun e W' ⟨he, bel⟩ => ?_
  subst he
  exact ⟨_, rfl, _, _, _, [], _, [], hW', trodAll_mk1 (shut_bool Tryd.underlying4 _), (trodAll_cons_mk (shut_int Tryd.underlying3 w0) (trodAll_cons_mk (shut_int Tryd.underlying3 w1) trodAll_mk0)), rfl, bel.frame _, fun h => by cases h⟩

theorem crashesResolve_holds : Rows.CrashesResolveSaid :=
  OpenClaim.holds_of_wide 10 Tryd.f10 rfl rfl rfl rfl rfl rfl rfl ⟨rfl, rfl, rfl, rfl, rfl⟩ rfl rfl rfl rfl rfl (by kernel_rfl) Tryd.func10 (by kernel_rfl)
    (of_decide_eq_true (by kernel_rfl)) (by unfold Func.isWrapper; first | (rw [if_pos (by decide +kernel)]; kernel_rfl) | (rw [if_neg (by decide +kernel)]; exact ⟨rfl, rfl⟩))
    (fun os started H enc _ => crashesResolve_lifted os started H enc)
theorem crashesResolve_card_holds : Rows.CrashesResolveCardSaid :=
  Claim7.holds_tied_plain_at .later [] [.data, .data, .data] true (true, "e44c9e840b0f46bef65dfb98f0a7588797efde6505a8a41f96fe595c4c41513d") false
    crashesResolve_holds (fun _ h => by cases h) (by kernel_rfl) (fun _ h => by cases h) crashesResolve_row_tie rfl ⟨rfl, rfl⟩ (by kernel_rfl) rfl
    (fun f fn hf hfn => by
      obtain rfl : f = 10 := Option.some.inj ((show Tryd.prog.funcNamed "rickyard/rickyardkeep.CrashesResolve" = some 10 by kernel_rfl).symm.trans hf) |>.symm
      obtain rfl : fn = Tryd.f10 := (Option.some.inj (Tryd.func10.symm.trans hfn)).symm
      exact ⟨by kernel_rfl, fun j t ht => by
        rw [Tryd.params10] at ht
        have hm : t ∈ ([3, 3] : List TypeId) := by simpa using Array.mem_of_getElem? ht
        have hall : (([3, 3] : List TypeId).all fun u => !Tryd.prog.wantsStandIn u) = true := by kernel_rfl
        exact (show Tryd.prog.wantsStandIn t = false by simpa using List.all_eq_true.1 hall t hm)⟩)
    (by kernel_rfl)
#print axioms crashesResolve_card_holds
end Go.Proofs.YtniomgngiiiklabDoor
