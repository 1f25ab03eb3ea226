/- RowChecks: row.Check and the reference's RowMay agree at every row: the law's walk, then its row. Conditions: none. -/
import Derived.Test.YtniomgngiiiklaaCheck
import Derived.Test.YtniomgngiiiklaaMay
namespace Go.Proofs.Ytniomgngiiiklaa
open Go.RowKit

theorem rowChecks_walk (r : MRow) (A : Option Addr) (n c : Nat) (w : World) (h : RowOk w w.heap.size r A n c) :
    Calls Try.prog 7 #[.agg #[.string r.key, .int .i64 r.ls, .string r.lp, .string r.value, .slice A n c]] w
      fun e w' => e = .returned (.bool true) ∧ Below w.heap.size w w' := by
  have HR := Lib.hid h
  have hsm := h.recs.small
  have hle := h.recs.le
  have hm : n ≤ maxLen := by unfold maxLen; omega
  clear h
  go_enter Try.func7, Try.ntmps7
  go_wp2_with fail
  refine (check_any r A n c _ ((HR.out.recs.at_.below ((Below.refl w.heap.size w).alloc (Nat.le_refl _) _) (Nat.le_refl _)).more (by simp)) hm).mono ?_
  rintro e w1 ⟨rfl, hb⟩
  have HL := Lib.hid (((Below.refl w.heap.size w).alloc (Nat.le_refl _) _).trans (hb.mono (by simp)))
  have HB := Lib.hid (blk_keep hb (blk_new w _ _) (by simp))
  obtain ⟨hc0, hf0⟩ := blk_read HB.out
  clear hb
  go_wp2_with fail
  refine (may_any r A n c _ ((HR.out.recs.at_.below HL.out (Nat.le_refl _)).more HL.out.size) hm HR.out.key HR.out.lp).mono ?_
  rintro e w2 ⟨rfl, hb⟩
  have HL2 := Lib.hid (HL.out.trans (hb.mono HL.out.size))
  clear hb hc0 hf0
  cases hr : rowB r <;> simp only [okCode, if_true, if_false, Bool.false_eq_true]
  · go_wp2_with fail
    go_ret
    exact ⟨rfl, HL2.out⟩
  · go_wp2_with fail
    go_ret
    exact ⟨rfl, HL2.out⟩

open Go.ChangeShapes Go.WideShapes Go.ChangeAt
open Go.ChangeMaps (open_string shut_string)
set_option maxRecDepth 100000 in
theorem rowChecks_lifted (os : Os) (started : os.Started) (H : Type) (enc : TypeId × Value → H) :
    ReturnsInHanded {} Try.checked os 7 .any (Rows.rowChecksSpec.pre6 enc Try.prog Try.f7 Rows.rowChecksRow.domain false) (Rows.rowChecksSpec.post enc Try.prog Try.f7 false true false false) := by
  refine returnsInHanded_of_change_sized (C := Try.checked) own started (by kernel_rfl) Try.func7
    (ChangeSpec.witness6 (enc := enc) (C := Try.checked) false ⟨#[], #[.agg #[.string ⟨#[]⟩, .int .i64 0, .string ⟨#[]⟩, .string ⟨#[]⟩, .slice none 0 0]], []⟩ 8 (by kernel_rfl) (by kernel_rfl) (by kernel_rfl) (by kernel_rfl)) ?_
  intro W base args ds gs before hval0 hW hcnd hsz0 _
  have hval : ∀ (j : Nat) t v, Try.f7.params[j]? = some t → args[j]? = some v → Value.okWide Try.prog W .any base t v := hval0
  have hsz : (DataW.weightsEach Try.prog (Try.f7.params.toList ++ Rows.rowChecksSpec.plain.varTypes Try.prog) (ds ++ gs)).all (· ≤ reachBytes) = true := hsz0
  clear hsz0
  have hW' := hW
  obtain ⟨p, q, hA0, hV, rfl, hfz, hnd⟩ := hW
  have hA : DataW.TrodAll enc Try.prog W 0 (fun _ => true) true Try.f7.params.toList args.toList ds p := hA0
  rw [Try.params7] at hA hval hsz
  obtain ⟨v0, vs0, d0, ds0, p0, q0, hargs, rfl, rfl, h0, r0⟩ := trodAll_cons hA
  obtain ⟨rfl, rfl, rfl⟩ := trodAll_nil r0
  obtain rfl : args = #[v0] := by cases args; simp_all
  obtain ⟨rfl, rfl⟩ := trodVars_none hV
  have k0 := h0
  have lt0 : ∀ x ∈ p0, x.block < W.heap.size := by obtain ⟨m, hm⟩ := k0; exact DataW.trod_lt m _ _ _ hm
  obtain ⟨r0', A0, n0, c0, rfl, ok0⟩ := open_row_arg (hval 0 30 v0 rfl rfl) h0 (weights_of hsz (j := 0) rfl rfl)
  clear hA0 hval0 hsz
  refine (rowChecks_walk r0' A0 n0 c0 W ok0).mono fun e W' ⟨he, bel⟩ => ?_
  subst he
  exact ⟨_, rfl, _, _, _, [], _, [], hW', trodAll_mk1 (shut_bool Try.underlying4 _), (trodAll_cons_mk (Below.trod laidOut (by kernel_rfl) (of_decide_eq_true (by kernel_rfl)) k0 bel lt0) trodAll_mk0), rfl, bel.frame _, fun h => by cases h⟩

theorem rowChecks_holds : Rows.RowChecksSaid :=
  OpenClaim.holds_of_wide 7 Try.f7 rfl rfl rfl rfl rfl rfl rfl ⟨rfl, rfl, rfl, rfl, rfl⟩ rfl rfl rfl rfl rfl (by kernel_rfl) Try.func7 (by kernel_rfl)
    (of_decide_eq_true (by kernel_rfl)) (by unfold Func.isWrapper; first | (rw [if_pos (by decide +kernel)]; kernel_rfl) | (rw [if_neg (by decide +kernel)]; exact ⟨rfl, rfl⟩))
    (fun os started H enc _ => rowChecks_lifted os started H enc)
#print axioms rowChecks_holds
end Go.Proofs.Ytniomgngiiiklaa
