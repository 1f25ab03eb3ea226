/- StepsCommit: a transaction commits in one step per row, one for its time, and one more per row; then everything is visible: the law's walk, then its row and its card. Conditions: none. -/
import Derived.Test.YtniomgngiiiklabDoorKeepRun
import Derived.Test.YtniomgngiiiklabDoorDeed
import Derived.Test.YtniomgngiiiklabDoorGrowA
import Derived.Test.YtniomgngiiiklabDoorKeepEnds
import Derived.Test.YtniomgngiiiklabDoorDoor
namespace Go.Proofs.YtniomgngiiiklabDoor
open Go.RowKit

theorem keysK_at {k i : Nat} (h : i < k) : (keysK k)[i]? = some (keyK i) := by unfold keysK; simp [h]
theorem keysK_size {k : Nat} : ∀ s ∈ keysK k, s.size ≤ 6 := by
  intro s hs
  unfold keysK at hs
  obtain ⟨i, _, rfl⟩ := List.mem_map.1 hs
  show 1 ≤ 6
  decide
theorem keysK_blk {w : World} {g : Nat} {t : TypeId} {k : Nat} (hk : k ≤ 5) (h : w.heap[g]? = some (.cells #[.string ⟨#[97]⟩, .string ⟨#[98]⟩, .string ⟨#[99]⟩, .string ⟨#[100]⟩, .string ⟨#[101]⟩] t (0, 0))) : KeysOk w w.heap.size (some ⟨g, 0, none⟩) k (keysK k) := by
  have h5 : KeysOk w w.heap.size (some ⟨g, 0, none⟩) 5 (keysK 5) := KeysOk.of_blk (l := keysK 5) (t := t) h
  have := Reads.take h5 hk
  have e : (keysK 5).take k = keysK k := by unfold keysK; rw [← List.map_take, List.take_range, Nat.min_eq_left hk]
  rwa [e] at this

set_option maxRecDepth 100000 in
set_option maxHeartbeats 4000000 in
theorem stepsCommit_walk (a0 : Int) (w : World) (h : InI64 a0) :
    Calls Tryd.prog 9 #[.int .i64 a0] w fun e w' => e = .returned (.bool true) ∧ Below w.heap.size w w' := by
  have HI := Lib.hid h
  clear h
  obtain ⟨p0, p1⟩ := pickF_lt a0 (m := 5) (by omega)
  obtain ⟨pk, hpk⟩ : ∃ pk : Nat, pickF a0 5 = pk := ⟨(pickF a0 5).toNat, by omega⟩
  rw [hpk] at p0 p1
  have hp : ∀ W, Calls Tryd.prog 17 #[.int .i64 a0, .int .i64 5] W fun e W' => e = .returned (.int .i64 (pk : Int)) ∧ W = W' := fun W => by
    rw [← hpk]; exact picked_any a0 5 W HI.out (by omega) (by omega)
  obtain ⟨k, hk⟩ : ∃ k : Nat, k = 1 + pk := ⟨_, rfl⟩
  have hk1 : 1 ≤ k := by omega
  have hk5 : k ≤ 5 := by omega
  obtain ⟨Y, hY, hYL, y1, y2, y3, y4, y5⟩ := steps_plain hk1 hk5
  have HY := Lib.hid hY
  have HYL := Lib.hid hYL
  have HYV : Hid ((ansAt Y (3 * k + 1)).phase = 0 ∧ (ansAt Y (3 * k + 1)).code = 0 ∧ (ansAt Y (2 * k + 1)).time = 2 ∧ (ansAt Y 0).time = 1) := ⟨y1, y2, y3, y4⟩
  have HYE := Lib.hid y5
  have hs1 := fun W : World => run_firstG (P := Tryd.prog) 68 (some ⟨w.heap.size, 0, none⟩) 5 k 5 1 (1 + (pk : Int)) (by kernel_rfl) (fun _ => by kernel_rfl) hk5 (by omega) W
  clear hY hYL y1 y2 y3 y4 y5 hpk hk
  go_enter Tryd.func9, Tryd.ntmps9
  go_upto_region 2 with (go_at_call 17; refine (hp _).mono ?_; rintro e w' ⟨rfl, rfl⟩)
  clear hs1 hp p0 p1
  obtain ⟨gk, hgk⟩ : ∃ gk, gk = w.heap.size := ⟨_, rfl⟩
  obtain ⟨v, hv⟩ : ∃ v, v = w.alloc (.cells #[.string ⟨#[97]⟩, .string ⟨#[98]⟩, .string ⟨#[99]⟩, .string ⟨#[100]⟩, .string ⟨#[101]⟩] 9) := ⟨_, rfl⟩
  rw [← hgk, ← hv]
  have HK : Hid (KeysOk v v.heap.size (some ⟨gk, 0, none⟩) k (keysK k)) := by
    show KeysOk _ _ _ _ _
    exact keysK_blk (t := 9) hk5 (by rw [hv, hgk]; exact blk_new w _ _)
  have HLv : Hid (Below w.heap.size w v) := by show Below _ _ _; rw [hv]; exact (Below.refl _ w).alloc (Nat.le_refl _) _
  clear hv hgk
  have hdeed := deed_any 0 (2 * k + 1) (keysK k) (some ⟨gk, 0, none⟩) k 5 v HK.out hk5 (by omega) (by decide) keysK_size
  rw [show ((2 * k + 1 : Nat) : Int) = 2 * (k : Int) + 1 by omega] at hdeed
  have HD := Lib.hid hdeed
  clear hdeed
  go_wp2_with fail
  refine HD.out.mono ?_
  rintro e w2 ⟨A2, c2, rfl, ho, hb⟩
  obtain ⟨g2, rfl, hn2, hp2⟩ := PartOk.of_own ho (by omega)
  have HP2 := Lib.hid hp2
  have HN2 := Lib.hid hn2
  have HK2 := Lib.hid ((Reads.below HK.out hb (Nat.le_refl _)).more hb.size)
  have HL2 := Lib.hid (HLv.out.trans (hb.mono HLv.out.size))
  clear ho hb hn2 hp2 HD HK HLv
  go_wp2_with fail
  refine (look_any 1 (keysK k) (some ⟨gk, 0, none⟩) k 5 w2 HK2.out hk5).mono ?_
  rintro e w3 ⟨A3, c3, rfl, ho, hb⟩
  obtain ⟨g3, rfl, hn3, hp3⟩ := PartOk.of_own ho (by omega)
  have HP3 := Lib.hid hp3
  have HN3 := Lib.hid hn3
  have HP23 := Lib.hid ((HP2.out.below hb (Nat.le_refl _)).more hb.size)
  have HK3 := Lib.hid ((Reads.below HK2.out hb (Nat.le_refl _)).more hb.size)
  have HL3 := Lib.hid (HL2.out.trans (hb.mono HL2.out.size))
  clear ho hb hn3 hp3 HP2 HK2 HL2
  go_wp2_with fail
  obtain ⟨v3, hv3⟩ : ∃ v3, v3 = w3.alloc (.cells #[.slice (some ⟨g2, 0, none⟩) (1 + k + (2 * k + 1)) c2, .slice (some ⟨g3, 0, none⟩) (1 + k) c3] 40) := ⟨_, rfl⟩
  obtain ⟨g4, hg4⟩ : ∃ g4, g4 = w3.heap.size := ⟨_, rfl⟩
  rw [← hv3, ← hg4]
  obtain ⟨ps, hps⟩ : ∃ ps : List ActPart, ps = [⟨g2, c2, deedA 0 (2 * k + 1) (keysK k)⟩, ⟨g3, c3, lookA 1 (keysK k)⟩] := ⟨_, rfl⟩
  have hb3 : Below w3.heap.size w3 v3 := by rw [hv3]; exact (Below.refl _ w3).alloc (Nat.le_refl _) _
  have HRD : Hid (Reads ActPart.cells 1 v3 v3.heap.size (some ⟨g4, 0, none⟩) 2 ps) := by
    show Reads _ _ _ _ _ _ _
    rw [hps]
    refine Reads.of_blk (f := ActPart.cells) (s := 1) (fun _ => rfl) (t := 40) (l := [⟨g2, c2, deedA 0 (2 * k + 1) (keysK k)⟩, ⟨g3, c3, lookA 1 (keysK k)⟩]) ?_
    rw [hv3, hg4, HN2.out, HN3.out]
    exact blk_new w3 _ _
  have HPS : Hid (∀ p ∈ ps, PartOk v3 v3.heap.size p) := by
    show ∀ p ∈ _, _
    rw [hps]
    intro p hp
    rcases List.mem_cons.1 hp with rfl | hp
    · exact (HP23.out.below hb3 (Nat.le_refl _)).more hb3.size
    · simp at hp; subst hp
      exact (HP3.out.below hb3 (Nat.le_refl _)).more hb3.size
  have HAC : Hid (ps.flatMap ActPart.l = stepsActs k) := by show _ = _; rw [hps]; unfold stepsActs; simp
  have HLS : Hid ((ps.flatMap ActPart.l).length = 4 * k + 3) := by
    show _ = _
    rw [HAC.out]; unfold stepsActs
    rw [List.length_append, deedA_length, lookA_length, keysK_length]; omega
  have HK4 := Lib.hid ((Reads.below HK3.out hb3 (Nat.le_refl _)).more hb3.size)
  have HL4 := Lib.hid (HL3.out.trans (hb3.mono HL3.out.size))
  clear hv3 hg4 hb3 hps HP23 HP3 HK3 HL3 HN2 HN3
  refine (concat_any ps (some ⟨g4, 0, none⟩) 2 2 v3 HRD.out HPS.out (by decide) (by rw [HLS.out]; omega) (by rw [HLS.out]; omega)).mono ?_
  rintro e w4 ⟨A4, m4, c4, rfl, hm, ho, hb⟩
  rw [HLS.out] at hm
  subst hm
  rw [HAC.out] at ho
  have HA4 := Lib.hid (ActsOk.of_own ho)
  have HK5 := Lib.hid ((Reads.below HK4.out hb (Nat.le_refl _)).more hb.size)
  have HL5 := Lib.hid (HL4.out.trans (hb.mono HL4.out.size))
  clear ho hb HRD HPS HLS HAC HL4 HK4
  go_wp2_with fail
  refine (keepRun_any (stepsActs k) A4 (4 * k + 3) c4 w4 HA4.out (by omega)).mono ?_
  rintro e w5 ⟨A5, c5, rfl, ho, hb⟩
  rw [HY.out] at ho
  have HA5 := Lib.hid (AnsOk.of_own ho)
  have HK6 := Lib.hid ((Reads.below HK5.out hb (Nat.le_refl _)).more hb.size)
  have HL6 := Lib.hid (HL5.out.trans (hb.mono HL5.out.size))
  clear ho hb HL5 HA4 HK5
  obtain ⟨y1, y2, y3, y4⟩ := HYV.out
  obtain ⟨b, off, rfl, hbb, q0, q1, q2, q3, q4⟩ := ans_no HA5.out (k := 3 * k + 1) (by omega)
  obtain ⟨b', off', e', z1, z2, z3, z4, z5, r4⟩ := ans_no HA5.out (k := 2 * k + 1) (by omega)
  obtain ⟨b2, off2, e2, z6, z7, z8, z9, z10, s4⟩ := ans_no HA5.out (k := 0) (by omega)
  injection e' with e'
  injection e' with e1 e3
  injection e2 with e2
  injection e2 with e4 e5
  rw [← e1, ← e3] at r4
  rw [← e4, ← e5] at s4
  rw [y2] at q0
  rw [y1] at q3
  rw [y3] at r4
  rw [y4] at s4
  rw [show 3 * k + 1 = k + 2 * k + 1 by omega] at q0 q3
  have s4' : w5.cell? ⟨b, off + 4, none⟩ = some (.int .i64 1) := by simpa using s4
  clear e1 e3 e4 e5 y1 y2 y3 y4 q1 q2 q4 hbb s4 z1 z2 z3 z4 z5 z6 z7 z8 z9 z10
  go_upto_region 7 with (fail)
  clear q0 q3 r4 s4'
  go_wp2_with fail
  go_loopw [77] (fun i wr => (∃ j : Nat, j ≤ k ∧ i = .int .i64 j) ∧ Below w5.heap.size w5 wr) (fun i _ => k - (intOf i).toNat)
  case atStart => exact ⟨⟨0, Nat.zero_le _, rfl⟩, Below.refl _ _⟩
  case round =>
    obtain ⟨⟨j, hj, rfl⟩, hbel⟩ := hrel
    have HL := Lib.hid hbel
    have hzw := hbel.size
    clear hbel
    by_cases hlt : j < k
    · obtain ⟨x, gb, offk, hx, ek, hbb, k0⟩ := KeysOk.key (Reads.below HK6.out HL.out (Nat.le_refl _)) hlt
      injection ek with ek
      injection ek with ek1 ek2
      rw [← ek1, ← ek2, Nat.zero_add] at k0
      obtain rfl : x = keyK j := by rw [keysK_at hlt] at hx; injection hx with e; exact e.symm
      obtain ⟨y1, y2, y3⟩ := HYE.out j hlt
      obtain ⟨b1, off1, eb, hb1, q0, q1, q2, q3, q4⟩ := ans_no (HA5.out.below HL.out (Nat.le_refl _)) (k := 3 * k + 3 + j) (by omega)
      injection eb with eb
      injection eb with eb1 eb2
      rw [← eb1, ← eb2] at q0 q1 q2 q3 q4
      rw [y1] at q0
      rw [y2] at q1
      rw [y3] at q2
      rw [show 3 * k + 3 + j = 4 * k + 3 - k + j by omega] at q0 q1 q2 q3 q4
      have eo : ofK (keyK j) 0 = (⟨#[111, 102, 32]⟩ ++ keyK j) ++ ⟨#[48]⟩ := rfl
      rw [eo] at q2
      have hxs : (keyK j).size = 1 := rfl
      have hc1 : ¬ 9223372036854775807 < 3 + (keyK j).size := by rw [hxs]; decide
      have hc2 : ¬ 9223372036854775807 < 3 + (keyK j).size + 1 := by rw [hxs]; decide
      clear ek1 ek2 hx y1 y2 y3 eb1 eb2 hb1 hbb
      clear hxs eo
      go_wp2_with fail
      go_roundw
      case rel => exact ⟨⟨j + 1, by omega, by go_num⟩, HL.out.alloc hzw _⟩
      case measure => simp [intOf]; omega
    · go_wp2_with fail
      go_ret
      exact ⟨rfl, HL6.out.trans (HL.out.mono HL6.out.size)⟩
open Go.ChangeShapes Go.WideShapes Go.ChangeAt
open Go.ChangeMaps (open_string shut_string)
set_option maxRecDepth 100000 in
theorem stepsCommit_lifted (os : Os) (started : os.Started) (H : Type) (enc : TypeId × Value → H) :
    ReturnsInHanded {} Tryd.checked os 9 .any (fun w args => (Rows.stepsCommitSpec.pre enc Tryd.prog Tryd.f9 [] false w args ∧ laidMetH Tryd.prog laidL w) ∧ sizedMet enc Tryd.prog Tryd.f9 (OpenSpec.ofChange Rows.stepsCommitSpec) false w args)
      (Rows.stepsCommitSpec.post enc Tryd.prog Tryd.f9 false true false false) := by
  refine returnsInHanded_of_change_and (C := Tryd.checked) (X := fun w _ => laidMetH Tryd.prog laidL w) (fun _ _ _ hh h => h.of_heap hh) own started (by kernel_rfl) Tryd.func9
    (ChangeSpec.witness_shaped (enc := enc) (C := Tryd.checked) (os := os) (X := fun w _ => laidMetH Tryd.prog laidL w) false (World.doorLaid Tryd.prog doorN os) #[.int .i64 0] 8 rfl (World.shaped_of_RefB (by kernel_rfl) (by kernel_rfl)) (by kernel_rfl) (by kernel_rfl) (by kernel_rfl) (door_met os _)) ?_
  intro W base args ds gs before hval0 hW hcnd hsz0 _ _
  have hval : ∀ (j : Nat) t v, Tryd.f9.params[j]? = some t → args[j]? = some v → Value.okWide Tryd.prog W .any base t v := hval0
  have hsz : (DataW.weightsEach Tryd.prog (Tryd.f9.params.toList ++ Rows.stepsCommitSpec.plain.varTypes Tryd.prog) (ds ++ gs)).all (· ≤ reachBytes) = true := hsz0
  clear hsz0
  have hW' := hW
  obtain ⟨p, q, hA0, hV, rfl, hfz, hnd⟩ := hW
  have hA : DataW.TrodAll enc Tryd.prog W 0 (fun _ => true) true Tryd.f9.params.toList args.toList ds p := hA0
  rw [Tryd.params9] at hA hval hsz
  obtain ⟨v0, vs0, d0, ds0, p0, q0, hargs, rfl, rfl, h0, r0⟩ := trodAll_cons hA
  obtain ⟨rfl, rfl, rfl⟩ := trodAll_nil r0
  obtain rfl : args = #[v0] := by cases args; simp_all
  obtain ⟨rfl, rfl⟩ := trodVars_none hV
  have k0 := h0
  have lt0 : ∀ x ∈ p0, x.block < W.heap.size := by obtain ⟨m, hm⟩ := k0; exact DataW.trod_lt m _ _ _ hm
  obtain ⟨a0, rfl, rfl, rfl, w0⟩ := open_int Tryd.underlying3 (hval 0 3 v0 rfl rfl) h0
  clear hA0 hval0 hsz
  refine (stepsCommit_walk a0 W (of_wf_i64 w0)).mono fun e W' ⟨he, bel⟩ => ?_
  subst he
  exact ⟨_, rfl, _, _, _, [], _, [], hW', trodAll_mk1 (shut_bool Tryd.underlying4 _), (trodAll_cons_mk (shut_int Tryd.underlying3 w0) trodAll_mk0), rfl, bel.frame _, fun h => by cases h⟩

theorem stepsCommit_holds : Rows.StepsCommitSaid :=
  OpenClaim.holds_of_wide 9 Tryd.f9 rfl rfl rfl rfl rfl rfl rfl ⟨rfl, rfl, rfl, rfl, rfl⟩ rfl rfl rfl rfl rfl (by kernel_rfl) Tryd.func9 (by kernel_rfl)
    (of_decide_eq_true (by kernel_rfl)) (by unfold Func.isWrapper; first | (rw [if_pos (by decide +kernel)]; kernel_rfl) | (rw [if_neg (by decide +kernel)]; exact ⟨rfl, rfl⟩))
    (fun os started H enc _ => stepsCommit_lifted os started H enc)
theorem stepsCommit_card_holds : Rows.StepsCommitCardSaid :=
  Claim7.holds_tied_plain_at .later [] [.data, .data, .data] true (true, "e44c9e840b0f46bef65dfb98f0a7588797efde6505a8a41f96fe595c4c41513d") false
    stepsCommit_holds (fun _ h => by cases h) (by kernel_rfl) (fun _ h => by cases h) stepsCommit_row_tie rfl ⟨rfl, rfl⟩ (by kernel_rfl) rfl
    (fun f fn hf hfn => by
      obtain rfl : f = 9 := Option.some.inj ((show Tryd.prog.funcNamed "rickyard/rickyardkeep.StepsCommit" = some 9 by kernel_rfl).symm.trans hf) |>.symm
      obtain rfl : fn = Tryd.f9 := (Option.some.inj (Tryd.func9.symm.trans hfn)).symm
      exact ⟨by kernel_rfl, fun j t ht => by
        rw [Tryd.params9] at ht
        have hm : t ∈ ([3] : List TypeId) := by simpa using Array.mem_of_getElem? ht
        have hall : (([3] : List TypeId).all fun u => !Tryd.prog.wantsStandIn u) = true := by kernel_rfl
        exact (show Tryd.prog.wantsStandIn t = false by simpa using List.all_eq_true.1 hall t hm)⟩)
    (by kernel_rfl)
#print axioms stepsCommit_card_holds
end Go.Proofs.YtniomgngiiiklabDoor
