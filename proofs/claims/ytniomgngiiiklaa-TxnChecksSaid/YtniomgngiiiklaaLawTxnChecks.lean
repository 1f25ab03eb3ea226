/- TxnChecks: txn.Check and the reference's WorldMay agree at every world: the law's walk, then its row. Conditions: none. -/
import Derived.Test.YtniomgngiiiklaaMayW
import Derived.Test.YtniomgngiiiklaaOpenWorld
namespace Go.Proofs.Ytniomgngiiiklaa
open Go.RowKit

set_option maxRecDepth 100000 in
set_option maxHeartbeats 2000000 in
theorem txnChecks_walk (M : MWorld) (A A' : Option Addr) (n c n' c' : Nat) (w : World) (hr : RowsOk w w.heap.size A n c M.rows) (hc : ClientsOk w w.heap.size A' n' c' M.clients) :
    Calls Try.prog 10 #[.agg #[.slice A n c, .int .i64 M.clock, .slice A' n' c']] w
      fun e w' => e = .returned (.bool true) ∧ Below w.heap.size w w' := by
  have HR := Lib.hid hr
  have HC := Lib.hid hc
  clear hr hc
  go_enter Try.func10, Try.ntmps10
  go_wp2_with fail
  refine (txnCheck_any M A A' n c n' c' _ ((HR.out.below ((Below.refl _ w).alloc (Nat.le_refl _) _) (Nat.le_refl _)).more (by simp)) ((HC.out.below ((Below.refl _ w).alloc (Nat.le_refl _) _) (Nat.le_refl _)).more (by simp))).mono ?_
  rintro e w1 ⟨rfl, hb⟩
  have HL := Lib.hid (((Below.refl w.heap.size w).alloc (Nat.le_refl _) _).trans (hb.mono (by simp)))
  have HB0 := Lib.hid (blk_keep hb (blk_new w _ _) (by simp))
  have hz := HL.out.size
  clear hb
  obtain ⟨hc0, hf0⟩ := blk_read HB0.out
  go_wp2_with fail
  refine (worldMay_any M A A' n c n' c' _ ((HR.out.below HL.out (Nat.le_refl _)).more hz) ((HC.out.below HL.out (Nat.le_refl _)).more hz)).mono ?_
  rintro e w2 ⟨rfl, hb⟩
  have HL2 := Lib.hid (HL.out.trans (hb.mono hz))
  clear hb hc0 hf0
  cases hr : worldB M <;> simp only [okCode, if_true, if_false, Bool.false_eq_true]
  · go_wp2_with fail
    go_ret
    exact ⟨rfl, HL2.out⟩
  · go_wp2_with fail
    go_ret
    exact ⟨rfl, HL2.out⟩

open Go.ChangeShapes Go.WideShapes Go.ChangeAt
open Go.ChangeMaps (open_string shut_string)
set_option maxRecDepth 100000 in
theorem txnChecks_lifted (os : Os) (started : os.Started) (H : Type) (enc : TypeId × Value → H) :
    ReturnsInHanded {} Try.checked os 10 .any (Rows.txnChecksSpec.pre6 enc Try.prog Try.f10 Rows.txnChecksRow.domain false) (Rows.txnChecksSpec.post enc Try.prog Try.f10 false true false false) := by
  refine returnsInHanded_of_change_sized (C := Try.checked) own started (by kernel_rfl) Try.func10
    (ChangeSpec.witness6 (enc := enc) (C := Try.checked) false ⟨#[], #[.agg #[.slice none 0 0, .int .i64 0, .slice none 0 0]], []⟩ 8 (by kernel_rfl) (by kernel_rfl) (by kernel_rfl) (by kernel_rfl)) ?_
  intro W base args ds gs before hval0 hW hcnd hsz0 _
  have hval : ∀ (j : Nat) t v, Try.f10.params[j]? = some t → args[j]? = some v → Value.okWide Try.prog W .any base t v := hval0
  have hsz : (DataW.weightsEach Try.prog (Try.f10.params.toList ++ Rows.txnChecksSpec.plain.varTypes Try.prog) (ds ++ gs)).all (· ≤ reachBytes) = true := hsz0
  clear hsz0
  have hW' := hW
  obtain ⟨p, q, hA0, hV, rfl, hfz, hnd⟩ := hW
  have hA : DataW.TrodAll enc Try.prog W 0 (fun _ => true) true Try.f10.params.toList args.toList ds p := hA0
  rw [Try.params10] at hA hval hsz
  obtain ⟨v0, vs0, d0, ds0, p0, q0, hargs, rfl, rfl, h0, r0⟩ := trodAll_cons hA
  obtain ⟨rfl, rfl, rfl⟩ := trodAll_nil r0
  obtain rfl : args = #[v0] := by cases args; simp_all
  obtain ⟨rfl, rfl⟩ := trodVars_none hV
  have k0 := h0
  have lt0 : ∀ x ∈ p0, x.block < W.heap.size := by obtain ⟨m, hm⟩ := k0; exact DataW.trod_lt m _ _ _ hm
  obtain ⟨m0, A0, B0, n0, c0, d0, e0, rfl, ok0, ko0⟩ := open_world_arg (hval 0 38 v0 rfl rfl) h0 (weights_of hsz (j := 0) rfl rfl)
  clear hA0 hval0 hsz
  refine (txnChecks_walk m0 A0 B0 n0 c0 d0 e0 W ok0 ko0).mono fun e W' ⟨he, bel⟩ => ?_
  subst he
  exact ⟨_, rfl, _, _, _, [], _, [], hW', trodAll_mk1 (shut_bool Try.underlying4 _), (trodAll_cons_mk (Below.trod laidOut (by kernel_rfl) (of_decide_eq_true (by kernel_rfl)) k0 bel lt0) trodAll_mk0), rfl, bel.frame _, fun h => by cases h⟩

theorem txnChecks_holds : Rows.TxnChecksSaid :=
  OpenClaim.holds_of_wide 10 Try.f10 rfl rfl rfl rfl rfl rfl rfl ⟨rfl, rfl, rfl, rfl, rfl⟩ rfl rfl rfl rfl rfl (by kernel_rfl) Try.func10 (by kernel_rfl)
    (of_decide_eq_true (by kernel_rfl)) (by unfold Func.isWrapper; first | (rw [if_pos (by decide +kernel)]; kernel_rfl) | (rw [if_neg (by decide +kernel)]; exact ⟨rfl, rfl⟩))
    (fun os started H enc _ => txnChecks_lifted os started H enc)
#print axioms txnChecks_holds
end Go.Proofs.Ytniomgngiiiklaa
