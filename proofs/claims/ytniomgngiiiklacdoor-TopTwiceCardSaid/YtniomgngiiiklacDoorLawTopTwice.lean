/- TopTwice: a script always has the same answers, and a longer script begins with the answers of a shorter one: the law's walk, then its row and its card. Conditions: none. -/
import Derived.Test.YtniomgngiiiklacDoorTopRun
import Derived.Test.YtniomgngiiiklacDoorActsW
import Derived.Test.YtniomgngiiiklacDoorEqAns
import Derived.Test.YtniomgngiiiklacDoorTopSet
import Derived.Test.YtniomgngiiiklacDoorDoor
namespace Go.Proofs.YtniomgngiiiklacDoor
open Go.RowKit

theorem acts_len (l : List MRaw) (mo : Nat) : (actsK ((4 : Nat) : Int) mo l).length ≤ mo := by rw [actsK_length]; omega
set_option maxRecDepth 100000 in
set_option maxHeartbeats 4000000 in
theorem topTwice_walk (l : List MRaw) (A : Option Addr) (n c : Nat) (a1 : Int) (w : World) (h : RawsOk w w.heap.size A n c l) (ha : InI64 a1) :
    Calls Tryd.prog 6 #[.slice A n c, .int .i64 a1] w fun e w' => e = .returned (.bool true) ∧ Below w.heap.size w w' := by
  have HR := Lib.hid h
  have HI := Lib.hid ha
  clear h ha
  obtain ⟨acts, has⟩ : ∃ acts, acts = actsK ((4 : Nat) : Int) 90 l := ⟨_, rfl⟩
  have HLEN : Hid (acts.length ≤ 90) := by show _ ≤ _; rw [has]; exact acts_len l 90
  have hok : ∀ a ∈ acts, ActOk 4 a := by rw [has]; exact actsK_ok (n := 4) (by decide)
  have HTW : Hid (∀ k, (runM 4 (acts.take k)).1 = (runM 4 acts).1.take k) := fun k => by
    have := twice_plain (n := 4) (by decide) (by decide) (by have := HLEN.out; omega) hok k
    rw [runAll_ok (n := 4) (by decide) (by decide) (by have := HLEN.out; rw [List.length_take]; omega), runAll_ok (n := 4) (by decide) (by decide) (by have := HLEN.out; omega)] at this
    exact this
  have HAS := Lib.hid has
  obtain ⟨R, hR⟩ : ∃ R, R = runM 4 acts := ⟨_, rfl⟩
  rw [← hR] at HTW
  have HRR := Lib.hid hR
  have HRL : Hid (R.1.length = acts.length) := by show _ = _; rw [hR]; exact length_runM 4 acts
  clear has hok hR
  go_enter Tryd.func6, Tryd.ntmps6
  go_wp2_with fail
  refine (keepActs_any l 90 4 A n c w HR.out (by decide) (by decide) (by decide)).mono ?_
  rintro e w1 ⟨A1, m1, c1, rfl, ho, hb⟩
  rw [← HAS.out] at ho
  have hm1 := len_of_cells (f := MAct.cells) (s := 4) (fun _ => rfl) (by decide) ho
  have HA1 := Lib.hid (ActsOk.of_own ho)
  have hmc := (own_facts ho).1
  have HL1 := Lib.hid hb
  have hm1' : m1 ≤ 90 := by have := HLEN.out; omega
  have HM1 : Hid (m1 ≤ 400) := by show _ ≤ _; omega
  have HEQ := Lib.hid hm1
  clear ho hb hm1
  obtain ⟨p0, p1⟩ := pickF_lt a1 (m := (m1 : Int) + 1) (by omega)
  obtain ⟨kk, hkk⟩ : ∃ kk : Nat, pickF a1 ((m1 : Int) + 1) = kk := ⟨(pickF a1 ((m1 : Int) + 1)).toNat, by omega⟩
  rw [hkk] at p0 p1
  have hkm : kk ≤ m1 := by omega
  have HKM := Lib.hid hkm
  have hs1 := run_first (P := Tryd.prog) 23 A1 m1 kk c1 4 (by kernel_rfl) (fun _ => by kernel_rfl) (by omega)
  have hp : ∀ W, Calls Tryd.prog 17 #[.int .i64 a1, .int .i64 ((m1 : Int) + 1)] W fun e W' => e = .returned (.int .i64 (kk : Int)) ∧ W = W' := fun W => by
    rw [← hkk]; exact picked_any a1 ((m1 : Int) + 1) W HI.out (by omega) (by omega)
  clear hkk p0 p1 hkm
  go_wp2_with (first | (go_at_call 17; refine (hp _).mono ?_; rintro e w' ⟨rfl, rfl⟩) | (go_at_call 15; go_in))
  clear hp hm1'
  refine (topRun_any acts A1 m1 c1 w1 HA1.out HM1.out).mono ?_
  rintro e w2 hr
  rw [← HRR.out] at hr
  obtain ⟨A2, k2, c2, B1, n1, e1, hs, B2, n2, e2, hs', rfl, ho, _, _, hb⟩ := hr
  dsimp only at ho
  dsimp only
  have HX2 := Lib.hid (AnsOk.of_own ho)
  have hk2 : k2 = m1 := by rw [len_of_cells (f := MAns.cells) (s := 5) (fun _ => rfl) (by decide) ho, HRL.out, HEQ.out]
  have hc2 := (own_facts ho).1
  subst hk2
  have HA2 := Lib.hid ((HA1.out.below hb (Nat.le_refl _)).more hb.size)
  have HL2 := Lib.hid (HL1.out.trans (hb.mono HL1.out.size))
  have hs2 := run_first (P := Tryd.prog) 25 A2 k2 kk c2 5 (by kernel_rfl) (fun _ => by kernel_rfl) (by have := HKM.out; omega)
  clear ho hb hc2 HL1 HA1
  go_upto_region 4 with (fail)
  obtain ⟨v2, hv2⟩ : ∃ v2, v2 = w2.alloc (.cells #[.slice B1 n1 e1, .int .i64 R.2.clock, .slice B2 n2 e2] 29) := ⟨_, rfl⟩
  rw [← hv2]
  have hb2 : Below w2.heap.size w2 v2 := by rw [hv2]; exact (Below.refl _ w2).alloc (Nat.le_refl _) _
  have HXa := Lib.hid ((HX2.out.below hb2 (Nat.le_refl _)).more hb2.size)
  have HAa := Lib.hid ((HA2.out.below hb2 (Nat.le_refl _)).more hb2.size)
  have HLa := Lib.hid (HL2.out.trans (hb2.mono HL2.out.size))
  clear hv2 hb2 HX2 HA2 HL2
  go_wp2_with fail
  refine (topRun_any (acts.take kk) A1 kk c1 v2 (HAa.out.take HKM.out) (by have := HKM.out; have := HM1.out; omega)).mono ?_
  rintro e w3 ⟨A3, k3, c3, B3, n3, e3, hs3, B4, n4, e4, hs4, rfl, ho, _, _, hb⟩
  rw [HTW.out kk] at ho
  dsimp only
  have HX3 := Lib.hid (AnsOk.of_own ho)
  have hk3 : k3 = kk := by
    rw [len_of_cells (f := MAns.cells) (s := 5) (fun _ => rfl) (by decide) ho, List.length_take, HRL.out]
    have := HEQ.out; have := HKM.out; omega
  subst hk3
  have HX23 := Lib.hid ((HXa.out.below hb (Nat.le_refl _)).more hb.size)
  have HA3 := Lib.hid ((HAa.out.below hb (Nat.le_refl _)).more hb.size)
  have HL3 := Lib.hid (HLa.out.trans (hb.mono HLa.out.size))
  clear ho hb HLa HAa HXa
  generalize (runM 4 (acts.take k3)).2 = M3
  go_upto_region 5 with (fail)
  obtain ⟨v3, hv3⟩ : ∃ v3, v3 = w3.alloc (.cells #[.slice B3 n3 e3, .int .i64 M3.clock, .slice B4 n4 e4] 29) := ⟨_, rfl⟩
  rw [← hv3]
  have hb3 : Below w3.heap.size w3 v3 := by rw [hv3]; exact (Below.refl _ w3).alloc (Nat.le_refl _) _
  have HXb := Lib.hid ((HX23.out.below hb3 (Nat.le_refl _)).more hb3.size)
  have HXc := Lib.hid ((HX3.out.below hb3 (Nat.le_refl _)).more hb3.size)
  have HAb := Lib.hid ((HA3.out.below hb3 (Nat.le_refl _)).more hb3.size)
  have HLb := Lib.hid (HL3.out.trans (hb3.mono HL3.out.size))
  clear hv3 hb3 HX23 HX3 HA3 HL3
  go_wp2_with fail
  refine (topRun_any acts A1 k2 c1 v3 HAb.out HM1.out).mono ?_
  rintro e w4 hr
  rw [← HRR.out] at hr
  obtain ⟨A4, k4, c4, B5, n5, e5, hs5, B6, n6, e6, hs6, rfl, ho, _, _, hb⟩ := hr
  dsimp only at ho
  dsimp only
  have HX4 := Lib.hid (AnsOk.of_own ho)
  have hk4 : k4 = k2 := by rw [len_of_cells (f := MAns.cells) (s := 5) (fun _ => rfl) (by decide) ho, HRL.out, HEQ.out]
  subst hk4
  have HX24 := Lib.hid ((HXb.out.below hb (Nat.le_refl _)).more hb.size)
  have HX34 := Lib.hid ((HXc.out.below hb (Nat.le_refl _)).more hb.size)
  have HL4 := Lib.hid (HLb.out.trans (hb.mono HLb.out.size))
  clear ho hb HLb HAb HXb HXc
  go_upto_region 6 with (fail)
  obtain ⟨v4, hv4⟩ : ∃ v4, v4 = w4.alloc (.cells #[.slice B5 n5 e5, .int .i64 R.2.clock, .slice B6 n6 e6] 29) := ⟨_, rfl⟩
  rw [← hv4]
  have hb4 : Below w4.heap.size w4 v4 := by rw [hv4]; exact (Below.refl _ w4).alloc (Nat.le_refl _) _
  have HXd := Lib.hid ((HX24.out.below hb4 (Nat.le_refl _)).more hb4.size)
  have HXe := Lib.hid ((HX34.out.below hb4 (Nat.le_refl _)).more hb4.size)
  have HXf := Lib.hid ((HX4.out.below hb4 (Nat.le_refl _)).more hb4.size)
  have HLc := Lib.hid (HL4.out.trans (hb4.mono HL4.out.size))
  clear hv4 hb4 HX24 HX34 HX4 HL4
  go_wp2_with fail
  refine (equalAns_any (R.1.take k3) A2 A3 k3 c2 c3 v4 (HXd.out.take HKM.out) HXe.out (by unfold maxLen; have := HKM.out; have := HM1.out; omega)).mono ?_
  rintro e w5 ⟨rfl, hb⟩
  have HX25 := Lib.hid ((HXd.out.below hb (Nat.le_refl _)).more hb.size)
  have HX45 := Lib.hid ((HXf.out.below hb (Nat.le_refl _)).more hb.size)
  have HL5 := Lib.hid (HLc.out.trans (hb.mono HLc.out.size))
  clear hb HLc HXd HXe HXf
  go_wp2_with fail
  refine (equalAns_any R.1 A2 A4 k4 c2 c4 w5 HX25.out HX45.out (by unfold maxLen; have := HM1.out; omega)).mono ?_
  rintro e w6 ⟨rfl, hb⟩
  have HL6 := Lib.hid (HL5.out.trans (hb.mono HL5.out.size))
  clear hb HL5
  go_wp2_with fail
  all_goals go_ret
  all_goals exact ⟨rfl, HL6.out⟩
open Go.ChangeShapes Go.WideShapes Go.ChangeAt
open Go.ChangeMaps (open_string shut_string)
set_option maxRecDepth 100000 in
theorem topTwice_lifted (os : Os) (started : os.Started) (H : Type) (enc : TypeId × Value → H) :
    ReturnsInHanded {} Tryd.checked os 6 .any (fun w args => (Rows.topTwiceSpec.pre enc Tryd.prog Tryd.f6 [] false w args ∧ laidMetH Tryd.prog laidL w) ∧ sizedMet enc Tryd.prog Tryd.f6 (OpenSpec.ofChange Rows.topTwiceSpec) false w args)
      (Rows.topTwiceSpec.post enc Tryd.prog Tryd.f6 false true false false) := by
  refine returnsInHanded_of_change_and (C := Tryd.checked) (X := fun w _ => laidMetH Tryd.prog laidL w) (fun _ _ _ hh h => h.of_heap hh) own started (by kernel_rfl) Tryd.func6
    (ChangeSpec.witness_shaped (enc := enc) (C := Tryd.checked) (os := os) (X := fun w _ => laidMetH Tryd.prog laidL w) false (World.doorLaid Tryd.prog doorN os) #[.slice none 0 0, .int .i64 0] 8 rfl (World.shaped_of_RefB (by kernel_rfl) (by kernel_rfl)) (by kernel_rfl) (by kernel_rfl) (by kernel_rfl) (door_met os _)) ?_
  intro W base args ds gs before hval0 hW hcnd hsz0 _ _
  have hval : ∀ (j : Nat) t v, Tryd.f6.params[j]? = some t → args[j]? = some v → Value.okWide Tryd.prog W .any base t v := hval0
  have hsz : (DataW.weightsEach Tryd.prog (Tryd.f6.params.toList ++ Rows.topTwiceSpec.plain.varTypes Tryd.prog) (ds ++ gs)).all (· ≤ reachBytes) = true := hsz0
  clear hsz0
  have hW' := hW
  obtain ⟨p, q, hA0, hV, rfl, hfz, hnd⟩ := hW
  have hA : DataW.TrodAll enc Tryd.prog W 0 (fun _ => true) true Tryd.f6.params.toList args.toList ds p := hA0
  rw [Tryd.params6] at hA hval hsz
  obtain ⟨v0, vs0, d0, ds0, p0, q0, hargs, rfl, rfl, h0, r0⟩ := trodAll_cons hA
  obtain ⟨v1, vs1, d1, ds1, p1, q1, rfl, rfl, rfl, h1, r1⟩ := trodAll_cons r0
  obtain ⟨rfl, rfl, rfl⟩ := trodAll_nil r1
  obtain rfl : args = #[v0, v1] := by cases args; simp_all
  obtain ⟨rfl, rfl⟩ := trodVars_none hV
  have k0 := h0
  have lt0 : ∀ x ∈ p0, x.block < W.heap.size := by obtain ⟨m, hm⟩ := k0; exact DataW.trod_lt m _ _ _ hm
  have k1 := h1
  have lt1 : ∀ x ∈ p1, x.block < W.heap.size := by obtain ⟨m, hm⟩ := k1; exact DataW.trod_lt m _ _ _ hm
  obtain ⟨A0, n0, c0, l0, rfl, ok0⟩ := open_raws_arg (hval 0 22 v0 rfl rfl) h0 (weights_of hsz (j := 0) rfl rfl)
  obtain ⟨a1, rfl, rfl, rfl, w1⟩ := open_int Tryd.underlying3 (hval 1 3 v1 rfl rfl) h1
  clear hA0 hval0 hsz
  refine (topTwice_walk l0 A0 n0 c0 a1 W ok0 (of_wf_i64 w1)).mono fun e W' ⟨he, bel⟩ => ?_
  subst he
  exact ⟨_, rfl, _, _, _, [], _, [], hW', trodAll_mk1 (shut_bool Tryd.underlying4 _), (trodAll_cons_mk (Below.trod laidOut (by kernel_rfl) (of_decide_eq_true (by kernel_rfl)) k0 bel lt0) (trodAll_cons_mk (shut_int Tryd.underlying3 w1) trodAll_mk0)), rfl, bel.frame _, fun h => by cases h⟩

theorem topTwice_holds : Rows.TopTwiceSaid :=
  OpenClaim.holds_of_wide 6 Tryd.f6 rfl rfl rfl rfl rfl rfl rfl ⟨rfl, rfl, rfl, rfl, rfl⟩ rfl rfl rfl rfl rfl (by kernel_rfl) Tryd.func6 (by kernel_rfl)
    (of_decide_eq_true (by kernel_rfl)) (by unfold Func.isWrapper; first | (rw [if_pos (by decide +kernel)]; kernel_rfl) | (rw [if_neg (by decide +kernel)]; exact ⟨rfl, rfl⟩))
    (fun os started H enc _ => topTwice_lifted os started H enc)
theorem topTwice_card_holds : Rows.TopTwiceCardSaid :=
  Claim7.holds_tied_plain_at .later [] [.data, .data, .data] true (true, "c12c5c7f87fa9a1ad9522a513abd18e9f0a83ef0e85763ce862b44389c9b7365") false
    topTwice_holds (fun _ h => by cases h) (by kernel_rfl) (fun _ h => by cases h) topTwice_row_tie rfl ⟨rfl, rfl⟩ (by kernel_rfl) rfl
    (fun f fn hf hfn => by
      obtain rfl : f = 6 := Option.some.inj ((show Tryd.prog.funcNamed "rickyard/rickyardtop.TopTwice" = some 6 by kernel_rfl).symm.trans hf) |>.symm
      obtain rfl : fn = Tryd.f6 := (Option.some.inj (Tryd.func6.symm.trans hfn)).symm
      exact ⟨by kernel_rfl, fun j t ht => by
        rw [Tryd.params6] at ht
        have hm : t ∈ ([22, 3] : List TypeId) := by simpa using Array.mem_of_getElem? ht
        have hall : (([22, 3] : List TypeId).all fun u => !Tryd.prog.wantsStandIn u) = true := by kernel_rfl
        exact (show Tryd.prog.wantsStandIn t = false by simpa using List.all_eq_true.1 hall t hm)⟩)
    (by kernel_rfl)
#print axioms topTwice_card_holds
end Go.Proofs.YtniomgngiiiklacDoor
