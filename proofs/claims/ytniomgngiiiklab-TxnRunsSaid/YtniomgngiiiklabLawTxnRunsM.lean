/- TxnRuns: txn.Run returns the results of the reference implementation, at every script: the law's walk, then its row. Conditions: none. -/
import Derived.Test.YtniomgngiiiklabRunWM
import Derived.Test.YtniomgngiiiklabScriptRefM
import Derived.Test.YtniomgngiiiklabOwnsM
import Derived.Test.YtniomgngiiiklabWorldCopyM
import Derived.Test.YtniomgngiiiklabSamesM
import Derived.Test.YtniomgngiiiklabOpensM
import Derived.Test.YtniomgngiiiklabPlainM
namespace Go.Proofs.Ytniomgngiiiklab
open Go.RowKit

theorem info_act2 : (Try.prog.info? 38).map (fun i => (i.zero, i.size, i.bytes)) = some (some (.agg #[.int .i64 0, .int .i64 0, .string ⟨#[]⟩, .string ⟨#[]⟩]), 4, 48) := by kernel_rfl
theorem ans_count {n : Nat} {l : List MAns} {w : World} {base c : Nat} {e : TypeId} {A : Option Addr} (h : w.ownsRow base e 5 (.slice A n c) n (ansList l)) : n = l.length := by
  have h1 := h.1
  have h2 := flat_length (f := MAns.cells) (s := 5) (fun _ => rfl) l
  unfold ansList at h1
  omega
set_option maxRecDepth 100000 in
set_option maxHeartbeats 4000000 in
theorem txnRuns_walk (n : Int) (l : List MAct) (A : Option Addr) (m c : Nat) (w : World) (h : ScriptOk w w.heap.size A m l) :
    Calls Try.prog 5 #[.int .i64 n, .slice A m c] w fun e w' => e = .returned (.bool true) ∧ Below w.heap.size w w' := by
  obtain ⟨k0, hk0, hx0, hx1, hx2⟩ := info_parts info_act2
  have HA := Lib.hid h.acts
  have HS := Lib.hid h
  have hsm := h.small
  have HML : Hid (m ≤ maxLen) := by show _ ≤ _; unfold maxLen; omega
  obtain ⟨P, hP⟩ : ∃ P, P = runAll n l := ⟨_, rfl⟩
  have HPP : Hid (runAll n l = P) := hP.symm
  have HSZ : Hid (WorldGood P.2.1) := by rw [hP]; exact runAll_good
  obtain ⟨RA, RM, rc⟩ := P
  clear h hP
  go_enter Try.func5, Try.ntmps5
  go_wp2_with (at_builtin; refine wpList_append_copy _ rfl _ _ 46 rfl 38 k0 _ 4 48 Try.underlying46 hk0 hx0 hx1 hx2 rfl (by decide) A m c (actCells l) rfl rfl (acts_length HA.out) HS.out.none_ (acts_cells HA.out) actCells_one (by unfold maxLen; omega) (by omega) ?_)
  intro A1 c1 w1 hown hb
  have HA1 := Lib.hid (ActsOk.of_own hown)
  have HL1 := Lib.hid hb
  have HAw : Hid (ActsOk w1 w1.heap.size A m l) := (HA.out.below hb (Nat.le_refl _)).more hb.size
  clear hown hb hsm
  go_wp2_with fail
  refine (txnRun_any n l A1 m c1 w1 HA1.out HML.out).mono ?_
  rw [HPP.out]
  rintro e w2 ⟨A2, k2, c2, B1, n1, e1, hs, B2, n2, e2, hs', rfl, ho, hor, hoc, hb⟩
  dsimp only at ho hor hoc ⊢
  have hk2 := ans_count ho
  have HK2 := Lib.hid hk2
  have HX2 := Lib.hid (AnsOk.of_own ho)
  have HR2 : Hid (RowsOk w2 w2.heap.size B1 n1 e1 RM.rows) := hor.ok HSZ.out.sized.1
  have HC2 : Hid (ClientsOk w2 w2.heap.size B2 n2 e2 RM.clients) := hoc.ok HSZ.out.sized.2
  have HL2 := Lib.hid (HL1.out.trans (hb.mono HL1.out.size))
  have HAx : Hid (ActsOk w2 w2.heap.size A m l) := (HAw.out.below hb (Nat.le_refl _)).more hb.size
  clear ho hor hoc hb hk2 HL1 HAw HA1
  go_upto_region 2 with (fail)
  obtain ⟨v2, hv2⟩ : ∃ v2, v2 = w2.alloc (.cells #[.slice B1 n1 e1, .int .i64 RM.clock, .slice B2 n2 e2] 36) := ⟨_, rfl⟩
  rw [← hv2]
  have hb : Below w2.heap.size w2 v2 := by rw [hv2]; exact (Below.refl _ w2).alloc (Nat.le_refl _) _
  have HB6 : Hid (v2.heap[w2.heap.size]? = some (.cells #[.slice B1 n1 e1, .int .i64 RM.clock, .slice B2 n2 e2] 36 (0, 0))) := by show _ = _; rw [hv2]; exact blk_new _ _ _
  obtain ⟨g6, hg6⟩ : ∃ g6, g6 = w2.heap.size := ⟨_, rfl⟩
  rw [← hg6] at HB6 ⊢
  have HX3 := Lib.hid ((HX2.out.below hb (Nat.le_refl _)).more hb.size)
  have HR3 : Hid (RowsOk v2 v2.heap.size B1 n1 e1 RM.rows) := (HR2.out.below hb (Nat.le_refl _)).more hb.size
  have HC3 : Hid (ClientsOk v2 v2.heap.size B2 n2 e2 RM.clients) := (HC2.out.below hb (Nat.le_refl _)).more hb.size
  have HL3 := Lib.hid (HL2.out.trans (hb.mono HL2.out.size))
  have HAy : Hid (ActsOk v2 v2.heap.size A m l) := (HAx.out.below hb (Nat.le_refl _)).more hb.size
  clear hv2 hb hg6 HX2 HR2 HC2 HL2 HAx
  go_wp2_with fail
  refine (scriptOf_any n l A m c v2 HAy.out HML.out HS.out.keys).mono ?_
  rw [HPP.out]
  rintro e w3 ⟨A3, k3, c3, B3, n3, e3, hs3, B4, n4, e4, hs4, rfl, ho, hor, hoc, hb⟩
  dsimp only at ho hor hoc ⊢
  obtain rfl : k3 = k2 := by rw [ans_count ho]; exact HK2.out.symm
  have HY4 := Lib.hid (AnsOk.of_own ho)
  obtain rfl : n3 = n1 := by rw [← hor.1]; exact HR3.out.len
  obtain rfl : n4 = n2 := by rw [← hoc.1]; exact HC3.out.len
  have HU4 : Hid (RowsOk w3 w3.heap.size B3 n3 e3 RM.rows) := hor.ok HSZ.out.sized.1
  have HV4 : Hid (ClientsOk w3 w3.heap.size B4 n4 e4 RM.clients) := hoc.ok HSZ.out.sized.2
  have HX4 := Lib.hid ((HX3.out.below hb (Nat.le_refl _)).more hb.size)
  have HR4 : Hid (RowsOk w3 w3.heap.size B1 n3 e1 RM.rows) := (HR3.out.below hb (Nat.le_refl _)).more hb.size
  have HC4 : Hid (ClientsOk w3 w3.heap.size B2 n4 e2 RM.clients) := (HC3.out.below hb (Nat.le_refl _)).more hb.size
  have HL4 := Lib.hid (HL3.out.trans (hb.mono HL3.out.size))
  have HB64 := Lib.hid (blk_keep hb HB6.out (blk_lt HB6.out))
  clear ho hor hoc hb HX3 HR3 HC3 HL3 HAy HB6
  go_upto_region 3 with (fail)
  obtain ⟨v4, hv4⟩ : ∃ v4, v4 = w3.alloc (.cells #[.slice B3 n3 e3, .int .i64 RM.clock, .slice B4 n4 e4] 36) := ⟨_, rfl⟩
  rw [← hv4]
  have hb : Below w3.heap.size w3 v4 := by rw [hv4]; exact (Below.refl _ w3).alloc (Nat.le_refl _) _
  have HB9 : Hid (v4.heap[w3.heap.size]? = some (.cells #[.slice B3 n3 e3, .int .i64 RM.clock, .slice B4 n4 e4] 36 (0, 0))) := by show _ = _; rw [hv4]; exact blk_new _ _ _
  obtain ⟨g9, hg9⟩ : ∃ g9, g9 = w3.heap.size := ⟨_, rfl⟩
  rw [← hg9] at HB9 ⊢
  have HX5 := Lib.hid ((HX4.out.below hb (Nat.le_refl _)).more hb.size)
  have HY5 := Lib.hid ((HY4.out.below hb (Nat.le_refl _)).more hb.size)
  have HR5 : Hid (RowsOk v4 v4.heap.size B1 n3 e1 RM.rows) := (HR4.out.below hb (Nat.le_refl _)).more hb.size
  have HC5 : Hid (ClientsOk v4 v4.heap.size B2 n4 e2 RM.clients) := (HC4.out.below hb (Nat.le_refl _)).more hb.size
  have HU5 : Hid (RowsOk v4 v4.heap.size B3 n3 e3 RM.rows) := (HU4.out.below hb (Nat.le_refl _)).more hb.size
  have HV5 : Hid (ClientsOk v4 v4.heap.size B4 n4 e4 RM.clients) := (HV4.out.below hb (Nat.le_refl _)).more hb.size
  have HL5 := Lib.hid (HL4.out.trans (hb.mono HL4.out.size))
  have HB65 := Lib.hid (blk_keep hb HB64.out (blk_lt HB64.out))
  clear hv4 hb hg9 HX4 HY4 HR4 HC4 HU4 HV4 HL4 HB64
  obtain ⟨hc6, hf6⟩ := blk_read HB65.out
  obtain ⟨hc9, hf9⟩ := blk_read HB9.out
  go_wp2_with fail
  refine (sameWorld_any RM B1 B3 B2 B4 n3 e1 e3 n4 e2 e4 v4 HR5.out HU5.out HC5.out HV5.out).mono ?_
  rintro e w5 ⟨rfl, hb⟩
  have HX6 := Lib.hid ((HX5.out.below hb (Nat.le_refl _)).more hb.size)
  have HY6 := Lib.hid ((HY5.out.below hb (Nat.le_refl _)).more hb.size)
  have HL6 := Lib.hid (HL5.out.trans (hb.mono HL5.out.size))
  clear hb hc6 hf6 hc9 hf9 HX5 HY5 HR5 HC5 HU5 HV5 HL5 HB65 HB9
  have hkm : k3 ≤ 9223372036854775000 := by
    have h1 := HK2.out
    have h2 := HPP.out
    have h3 : RA.length ≤ 400 := by
      have e : (runAll n l).1.length ≤ 400 := runAll_length
      rw [h2] at e
      exact e
    omega
  go_wp2_with fail
  go_loopw [11] (fun i wr => (∃ k : Nat, k ≤ k3 ∧ i = .int .i64 k) ∧ Below w5.heap.size w5 wr) (fun i _ => k3 - (intOf i).toNat)
  case atStart => exact ⟨⟨0, Nat.zero_le _, rfl⟩, Below.refl _ _⟩
  case round =>
    obtain ⟨⟨k, hk, rfl⟩, hb⟩ := hrel
    by_cases hlt : k < k3
    · obtain ⟨x, b, off, hx, rfl, hbb, g0, g1, g2, g3, g4⟩ := AnsOk.ans (HX6.out.below hb (Nat.le_refl _)) hlt
      obtain ⟨x', b', off', hx', rfl, hbb', g0', g1', g2', g3', g4'⟩ := AnsOk.ans (HY6.out.below hb (Nat.le_refl _)) hlt
      obtain rfl : x' = x := by rw [hx] at hx'; injection hx' with e; exact e.symm
      clear hx hx'
      go_wp2_with fail
      go_quiet (fail)
      go_wp2
      go_roundw
      case rel => exact ⟨⟨k + 1, by omega, by go_num⟩, below_drewN hb _⟩
      case measure => simp [intOf]; omega
    · go_wp2
      go_ret
      exact ⟨rfl, HL6.out.trans (hb.mono HL6.out.size)⟩

open Go.ChangeShapes Go.WideShapes Go.ChangeAt
open Go.ChangeMaps (open_string shut_string)
set_option maxRecDepth 100000 in
theorem txnRuns_lifted (os : Os) (started : os.Started) (H : Type) (enc : TypeId × Value → H) :
    ReturnsInHanded {} Try.checked os 5 .any (Rows.txnRunsSpec.pre6 enc Try.prog Try.f5 Rows.txnRunsRow.domain false) (Rows.txnRunsSpec.post enc Try.prog Try.f5 false true false false) := by
  refine returnsInHanded_of_change_sized (C := Try.checked) own started (by kernel_rfl) Try.func5
    (ChangeSpec.witness6 (enc := enc) (C := Try.checked) false ⟨#[], #[.int .i64 0, .slice none 0 0], []⟩ 8 (by kernel_rfl) (by kernel_rfl) (by kernel_rfl) (by kernel_rfl)) ?_
  intro W base args ds gs before hval0 hW hcnd hsz0 _
  have hval : ∀ (j : Nat) t v, Try.f5.params[j]? = some t → args[j]? = some v → Value.okWide Try.prog W .any base t v := hval0
  have hsz : (DataW.weightsEach Try.prog (Try.f5.params.toList ++ Rows.txnRunsSpec.plain.varTypes Try.prog) (ds ++ gs)).all (· ≤ reachBytes) = true := hsz0
  clear hsz0
  have hW' := hW
  obtain ⟨p, q, hA0, hV, rfl, hfz, hnd⟩ := hW
  have hA : DataW.TrodAll enc Try.prog W 0 (fun _ => true) true Try.f5.params.toList args.toList ds p := hA0
  rw [Try.params5] at hA hval hsz
  obtain ⟨v0, vs0, d0, ds0, p0, q0, hargs, rfl, rfl, h0, r0⟩ := trodAll_cons hA
  obtain ⟨v1, vs1, d1, ds1, p1, q1, rfl, rfl, rfl, h1, r1⟩ := trodAll_cons r0
  obtain ⟨rfl, rfl, rfl⟩ := trodAll_nil r1
  obtain rfl : args = #[v0, v1] := by cases args; simp_all
  obtain ⟨rfl, rfl⟩ := trodVars_none hV
  have k0 := h0
  have lt0 : ∀ x ∈ p0, x.block < W.heap.size := by obtain ⟨m, hm⟩ := k0; exact DataW.trod_lt m _ _ _ hm
  have k1 := h1
  have lt1 : ∀ x ∈ p1, x.block < W.heap.size := by obtain ⟨m, hm⟩ := k1; exact DataW.trod_lt m _ _ _ hm
  obtain ⟨a0, rfl, rfl, rfl, w0⟩ := open_int Try.underlying3 (hval 0 3 v0 rfl rfl) h0
  obtain ⟨A1, n1, c1, m1, rfl, ok1⟩ := open_acts_arg (hval 1 46 v1 rfl rfl) h1 (weights_of hsz (j := 1) rfl rfl)
  clear hA0 hval0 hsz
  refine (txnRuns_walk a0 m1 A1 n1 c1 W ok1).mono fun e W' ⟨he, bel⟩ => ?_
  subst he
  exact ⟨_, rfl, _, _, _, [], _, [], hW', trodAll_mk1 (shut_bool Try.underlying4 _), (trodAll_cons_mk (shut_int Try.underlying3 w0) (trodAll_cons_mk (Below.trod laidOut (by kernel_rfl) (of_decide_eq_true (by kernel_rfl)) k1 bel lt1) trodAll_mk0)), rfl, bel.frame _, fun h => by cases h⟩

theorem txnRuns_holds : Rows.TxnRunsSaid :=
  OpenClaim.holds_of_wide 5 Try.f5 rfl rfl rfl rfl rfl rfl rfl ⟨rfl, rfl, rfl, rfl, rfl⟩ rfl rfl rfl rfl rfl (by kernel_rfl) Try.func5 (by kernel_rfl)
    (of_decide_eq_true (by kernel_rfl)) (by unfold Func.isWrapper; first | (rw [if_pos (by decide +kernel)]; kernel_rfl) | (rw [if_neg (by decide +kernel)]; exact ⟨rfl, rfl⟩))
    (fun os started H enc _ => txnRuns_lifted os started H enc)
#print axioms txnRuns_holds
end Go.Proofs.Ytniomgngiiiklab
