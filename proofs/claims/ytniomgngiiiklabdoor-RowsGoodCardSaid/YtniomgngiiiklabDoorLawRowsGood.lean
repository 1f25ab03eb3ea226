/- RowsGood: a row that raw things were done to is valid, and its copy; the zero row is not: the law's walk, then its row and its card. Conditions: none. -/
import Derived.Test.YtniomgngiiiklabDoorKeepFacts
import Derived.Test.YtniomgngiiiklabDoorCheck
import Derived.Test.YtniomgngiiiklabDoorCopy
namespace Go.Proofs.YtniomgngiiiklabDoor
open Go.RowKit

theorem zeroRow_bad : okCode (rowB zeroRow) = 6 := by rfl

set_option maxRecDepth 100000 in
set_option maxHeartbeats 2000000 in
theorem rowsGood_walk (l : List MRaw) (A : Option Addr) (n c : Nat) (w : World) (h : RawsOk w w.heap.size A n c l) :
    Calls Tryd.prog 3 #[.slice A n c] w fun e w' => e = .returned (.bool true) ∧ Below w.heap.size w w' := by
  have HR := Lib.hid h
  clear h
  go_enter Tryd.func3, Tryd.ntmps3
  go_wp2_with fail
  refine (keepRow_ok l A n c _ HR.out).mono ?_
  rintro e w1 ⟨A1, m1, c1, rfl, ok1, hb⟩
  have HL1 := Lib.hid hb
  have HOK := Lib.hid (ok1.alloc (.cells #[.string (rowK l).key, .int .i64 (rowK l).ls, .string (rowK l).lp, .string (rowK l).value, .slice A1 m1 c1] 27))
  have hz1 := hb.size
  have HB := Lib.hid (blk_new w1 #[.string (rowK l).key, .int .i64 (rowK l).ls, .string (rowK l).lp, .string (rowK l).value, .slice A1 m1 c1] 27)
  have HL2 := Lib.hid (hb.alloc hz1 (.cells #[.string (rowK l).key, .int .i64 (rowK l).ls, .string (rowK l).lp, .string (rowK l).value, .slice A1 m1 c1] 27))
  clear hb ok1
  obtain ⟨w2, hw2⟩ : ∃ w2, w2 = w1.alloc (.cells #[.string (rowK l).key, .int .i64 (rowK l).ls, .string (rowK l).lp, .string (rowK l).value, .slice A1 m1 c1] 27) := ⟨_, rfl⟩
  have hz2 : w2.heap.size = w1.heap.size + 1 := by rw [hw2]; simp
  rw [← hw2] at HB HOK HL2
  have hm1 : m1 ≤ maxLen := by have := HOK.out.recs.small; unfold maxLen; omega
  have HM1 := Lib.hid hm1
  clear hm1
  obtain ⟨hc0, hf0⟩ := blk_read HB.out
  have hok := okCode_rowK l
  go_wp2_with fail
  rw [← hw2]
  refine (check_any (rowK l) A1 m1 c1 _ (HOK.out.more (by omega)).recs.at_ HM1.out).mono ?_
  rintro e w3 ⟨rfl, hb⟩
  rw [hok]
  have HL3 := Lib.hid (HL2.out.trans (hb.mono (by omega)))
  have HOK3 := Lib.hid (HOK.out.below hb (by omega))
  have HB3 := Lib.hid (blk_keep hb HB.out (by omega))
  have hz3 := hb.size
  clear hb hc0 hf0
  obtain ⟨hc0, hf0⟩ := blk_read HB3.out
  go_wp2_with fail
  refine (rowCopy_any (rowK l) A1 m1 c1 _ (HOK3.out.more (by omega))).mono ?_
  rintro e w4 ⟨A4, c4, rfl, hown, hb⟩
  have HL4 := Lib.hid (HL3.out.trans (hb.mono (by omega)))
  have HO4 := Lib.hid (RecsAt.of_own hown)
  have hz4 := hb.size
  clear hb hown
  go_wp2_with fail
  refine (check_any (rowK l) A4 m1 c4 _ (HO4.out) HM1.out).mono ?_
  rintro e w5 ⟨rfl, hb⟩
  rw [hok]
  have HL5 := Lib.hid (HL4.out.trans (hb.mono (by omega)))
  have hz5 := hb.size
  clear hb
  go_wp2_with fail
  refine (check_any zeroRow none 0 0 _ ⟨rfl, fun k r hr => by simp [zeroRow] at hr⟩ (Nat.zero_le _)).mono ?_
  rintro e w6 ⟨rfl, hb⟩
  rw [zeroRow_bad]
  go_wp2_with fail
  go_ret
  exact ⟨rfl, HL5.out.trans (hb.mono (by omega))⟩
open Go.ChangeShapes Go.WideShapes Go.ChangeAt
open Go.ChangeMaps (open_string shut_string)
set_option maxRecDepth 100000 in
theorem rowsGood_lifted (os : Os) (started : os.Started) (H : Type) (enc : TypeId × Value → H) :
    ReturnsInHanded {} Tryd.checked os 3 .any (fun w args => (Rows.rowsGoodSpec.pre enc Tryd.prog Tryd.f3 [] false w args ∧ laidMetH Tryd.prog laidL w) ∧ sizedMet enc Tryd.prog Tryd.f3 (OpenSpec.ofChange Rows.rowsGoodSpec) false w args)
      (Rows.rowsGoodSpec.post enc Tryd.prog Tryd.f3 false true false false) := by
  refine returnsInHanded_of_change_and (C := Tryd.checked) (X := fun w _ => laidMetH Tryd.prog laidL w) (fun _ _ _ hh h => h.of_heap hh) own started (by kernel_rfl) Tryd.func3
    (ChangeSpec.witness_shaped (enc := enc) (C := Tryd.checked) (os := os) (X := fun w _ => laidMetH Tryd.prog laidL w) false (World.doorLaid Tryd.prog doorN os) #[.slice none 0 0] 8 rfl (World.shaped_of_RefB (by kernel_rfl) (by kernel_rfl)) (by kernel_rfl) (by kernel_rfl) (by kernel_rfl) (door_met os _)) ?_
  intro W base args ds gs before hval0 hW hcnd hsz0 _ _
  have hval : ∀ (j : Nat) t v, Tryd.f3.params[j]? = some t → args[j]? = some v → Value.okWide Tryd.prog W .any base t v := hval0
  have hsz : (DataW.weightsEach Tryd.prog (Tryd.f3.params.toList ++ Rows.rowsGoodSpec.plain.varTypes Tryd.prog) (ds ++ gs)).all (· ≤ reachBytes) = true := hsz0
  clear hsz0
  have hW' := hW
  obtain ⟨p, q, hA0, hV, rfl, hfz, hnd⟩ := hW
  have hA : DataW.TrodAll enc Tryd.prog W 0 (fun _ => true) true Tryd.f3.params.toList args.toList ds p := hA0
  rw [Tryd.params3] at hA hval hsz
  obtain ⟨v0, vs0, d0, ds0, p0, q0, hargs, rfl, rfl, h0, r0⟩ := trodAll_cons hA
  obtain ⟨rfl, rfl, rfl⟩ := trodAll_nil r0
  obtain rfl : args = #[v0] := by cases args; simp_all
  obtain ⟨rfl, rfl⟩ := trodVars_none hV
  have k0 := h0
  have lt0 : ∀ x ∈ p0, x.block < W.heap.size := by obtain ⟨m, hm⟩ := k0; exact DataW.trod_lt m _ _ _ hm
  obtain ⟨A0, n0, c0, l0, rfl, ok0⟩ := open_raws_arg (hval 0 22 v0 rfl rfl) h0 (weights_of hsz (j := 0) rfl rfl)
  clear hA0 hval0 hsz
  refine (rowsGood_walk l0 A0 n0 c0 W ok0).mono fun e W' ⟨he, bel⟩ => ?_
  subst he
  exact ⟨_, rfl, _, _, _, [], _, [], hW', trodAll_mk1 (shut_bool Tryd.underlying4 _), (trodAll_cons_mk (Below.trod laidOut (by kernel_rfl) (of_decide_eq_true (by kernel_rfl)) k0 bel lt0) trodAll_mk0), rfl, bel.frame _, fun h => by cases h⟩

theorem rowsGood_holds : Rows.RowsGoodSaid :=
  OpenClaim.holds_of_wide 3 Tryd.f3 rfl rfl rfl rfl rfl rfl rfl ⟨rfl, rfl, rfl, rfl, rfl⟩ rfl rfl rfl rfl rfl (by kernel_rfl) Tryd.func3 (by kernel_rfl)
    (of_decide_eq_true (by kernel_rfl)) (by unfold Func.isWrapper; first | (rw [if_pos (by decide +kernel)]; kernel_rfl) | (rw [if_neg (by decide +kernel)]; exact ⟨rfl, rfl⟩))
    (fun os started H enc _ => rowsGood_lifted os started H enc)
theorem rowsGood_card_holds : Rows.RowsGoodCardSaid :=
  Claim7.holds_tied_plain_at .later [] [.data, .data, .data] true (true, "e44c9e840b0f46bef65dfb98f0a7588797efde6505a8a41f96fe595c4c41513d") false
    rowsGood_holds (fun _ h => by cases h) (by kernel_rfl) (fun _ h => by cases h) rowsGood_row_tie rfl ⟨rfl, rfl⟩ (by kernel_rfl) rfl
    (fun f fn hf hfn => by
      obtain rfl : f = 3 := Option.some.inj ((show Tryd.prog.funcNamed "rickyard/rickyardkeep.RowsGood" = some 3 by kernel_rfl).symm.trans hf) |>.symm
      obtain rfl : fn = Tryd.f3 := (Option.some.inj (Tryd.func3.symm.trans hfn)).symm
      exact ⟨by kernel_rfl, fun j t ht => by
        rw [Tryd.params3] at ht
        have hm : t ∈ ([22] : List TypeId) := by simpa using Array.mem_of_getElem? ht
        have hall : (([22] : List TypeId).all fun u => !Tryd.prog.wantsStandIn u) = true := by kernel_rfl
        exact (show Tryd.prog.wantsStandIn t = false by simpa using List.all_eq_true.1 hall t hm)⟩)
    (by kernel_rfl)
#print axioms rowsGood_card_holds
end Go.Proofs.YtniomgngiiiklabDoor
