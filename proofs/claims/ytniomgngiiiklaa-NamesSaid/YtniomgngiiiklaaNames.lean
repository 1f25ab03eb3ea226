/- Names: the error numbers, kinds and limits of package api are those of the specification: the walk of the law, then the row. -/
import Derived.Test.YtniomgngiiiklaaRows
import Derived.Test.YtniomgngiiiklaaFrame
namespace Go.Proofs.Ytniomgngiiiklaa
open Go.RowKit

def namesList : List Int := [6, 20, 40, 1099511627776, 100, 6, 5, 400, 0, 1, 2, 3, 0, 1, 2, 3, 4, 1, 2, 3, 4, 5, 6]
def nameAt (k : Nat) : Int := namesList.getD k 0
def namesVals : List Value := namesList.map (Value.int .i64)
theorem names_cell (k : Nat) (h : k < 23) : namesVals.toArray[k]? = some (.int .i64 (nameAt k)) := by
  have hl : k < namesList.length := h
  rw [List.getElem?_toArray]
  unfold namesVals nameAt
  rw [List.getElem?_map, List.getElem?_eq_getElem hl, List.getD_eq_getElem?_getD, List.getElem?_eq_getElem hl]
  rfl
theorem names_new (W : World) (t : TypeId) (k : Nat) (h : k < 23) : (W.alloc (.cells namesVals.toArray t)).cell? ⟨W.heap.size, k, none⟩ = some (.int .i64 (nameAt k)) :=
  (World.cell?_alloc_new _ _ _ _).trans (names_cell k h)

set_option maxHeartbeats 1000000 in
theorem names_any (w : World) :
    Calls Try.prog 3 #[] w fun e w' => e = .returned (.bool true) ∧ Below w.heap.size w w' := by
  go_enter Try.func3, Try.ntmps3
  go_wp2_with fail
  go_loopw [2] (fun i wr => Below w.heap.size w wr ∧ w.heap.size < wr.heap.size ∧ (∀ k : Nat, k < 10 → wr.cell? ⟨w.heap.size, k, none⟩ = some (.int .i64 k)) ∧ ∃ k : Nat, k ≤ 10 ∧ i = .int .i64 k) (fun i _ => 10 - (intOf i).toNat)
  case atStart => 
    refine ⟨(Below.refl _ _).alloc (Nat.le_refl _) _, by simp, ?_, 0, by omega, rfl⟩
    intro k hk
    match k, hk with
    | 0, _ | 1, _ | 2, _ | 3, _ | 4, _ | 5, _ | 6, _ | 7, _ | 8, _ | 9, _ => simp
  case round =>
    obtain ⟨hbel, hsz, hcell, k, hk, rfl⟩ := hrel
    have HC := Lib.hid hcell
    clear hcell
    by_cases hlt : k < 10
    · have hc := HC.out k hlt
      go_wp2
      go_roundw
      case rel => exact ⟨hbel, hsz, HC.out, k + 1, by omega, by go_num⟩
      case measure => simp [intOf]; omega
    · go_wp2
      have hs0 := hbel.size
      clear HC
      obtain ⟨wo, ho⟩ : ∃ wo : World, wo = wr := ⟨_, rfl⟩
      subst ho
      go_loopw [5] (fun i ws => Below w.heap.size w ws ∧ (∀ k : Nat, k < 23 → ws.cell? ⟨wo.heap.size, k, none⟩ = some (.int .i64 (nameAt k))) ∧ (∀ k : Nat, k < 23 → ws.cell? ⟨wo.heap.size + 1, k, none⟩ = some (.int .i64 (nameAt k))) ∧ ∃ k : Nat, k ≤ 23 ∧ i = .int .i64 k) (fun i _ => 23 - (intOf i).toNat)
      case atStart =>
        refine ⟨(hbel.alloc (by omega) _).alloc (by simp; omega) _, ?_, ?_, 0, by omega, rfl⟩
        · intro k hk
          exact (World.cell?_alloc_lt (wo.alloc _) _ ⟨wo.heap.size, k, none⟩ (by simp)).trans (names_new wo 3 k hk)
        · intro k hk
          have hsz1 : (wo.alloc (.cells namesVals.toArray 3)).heap.size = wo.heap.size + 1 := by simp
          rw [← hsz1]
          exact names_new (wo.alloc (.cells namesVals.toArray 3)) 3 k hk
      case round =>
        obtain ⟨hbel2, hcell1, hcell2, j, hj, rfl⟩ := hrel
        have HC1 := Lib.hid hcell1
        have HC2 := Lib.hid hcell2
        clear hcell1 hcell2
        by_cases hlt2 : j < 23
        · have hc1 := HC1.out j hlt2
          have hc2 := HC2.out j hlt2
          go_wp2_with fail
          go_quiet (fail)
          go_wp2
          go_roundw
          case rel => exact ⟨below_drewN hbel2 _, HC1.out, HC2.out, j + 1, by omega, by go_num⟩
          case measure => simp [intOf]; omega
        · go_wp2
          go_ret
          exact ⟨rfl, hbel2⟩

/-! ### the row -/
open Go.ChangeShapes Go.WideShapes Go.ChangeAt
set_option maxRecDepth 100000 in
theorem names_lifted (os : Os) (started : os.Started) (H : Type) (enc : TypeId × Value → H) :
    ReturnsInHanded {} Try.checked os 3 .any (Rows.namesSpec.pre6 enc Try.prog Try.f3 Rows.namesRow.domain false) (Rows.namesSpec.post enc Try.prog Try.f3 false true false false) := by
  refine returnsInHanded_of_change (C := Try.checked) own started (by kernel_rfl) Try.func3
    (ChangeSpec.witness6 (enc := enc) (C := Try.checked) false ⟨#[], #[], []⟩ 8 (by kernel_rfl) (by kernel_rfl) (by kernel_rfl) (by kernel_rfl)) ?_
  intro W base args ds gs before hval0 hW hcnd _
  have hW' := hW
  obtain ⟨p, q, hA0, hV, rfl, hfz, hnd⟩ := hW
  have hA : DataW.TrodAll enc Try.prog W 0 (fun _ => true) true Try.f3.params.toList args.toList ds p := hA0
  rw [Try.params3] at hA
  obtain ⟨hargs, rfl, rfl⟩ := trodAll_nil hA
  obtain rfl : args = #[] := by cases args; simp_all
  obtain ⟨rfl, rfl⟩ := trodVars_none hV
  clear hA0 hval0
  refine (names_any W).mono fun e W' ⟨he, bel⟩ => ?_
  subst he
  exact ⟨_, rfl, _, _, _, [], _, [], hW', trodAll_mk1 (shut_bool Try.underlying4 _), trodAll_mk0, rfl, bel.frame _, fun h => by cases h⟩

/-- Every error number, kind and limit of package api is the one that the specification gives. Conditions: none. -/
theorem names_holds : Rows.NamesSaid :=
  OpenClaim.holds_of_wide 3 Try.f3 rfl rfl rfl rfl rfl rfl rfl ⟨rfl, rfl, rfl, rfl, rfl⟩ rfl rfl rfl rfl rfl (by kernel_rfl) Try.func3 (by kernel_rfl)
    (of_decide_eq_true (by kernel_rfl)) (by unfold Func.isWrapper; first | (rw [if_pos (by decide +kernel)]; kernel_rfl) | (rw [if_neg (by decide +kernel)]; exact ⟨rfl, rfl⟩))
    (fun os started H enc _ => names_lifted os started H enc)
#print axioms names_holds
end Go.Proofs.Ytniomgngiiiklaa
