/- SecondLate: of two transactions that write the same row, the one that locks later fails if the first one was committed after its start: the law's walk, then its row and its card. Conditions: none. -/
import Derived.Test.YtniomgngiiiklabDoorKeepRun
import Derived.Test.YtniomgngiiiklabDoorDeed
import Derived.Test.YtniomgngiiiklabDoorGrowA
import Derived.Test.YtniomgngiiiklabDoorKeepEnds
import Derived.Test.YtniomgngiiiklabDoorDoor
namespace Go.Proofs.YtniomgngiiiklabDoor
open Go.RowKit

def late1 (key : ByteArray) : List MAct := [⟨1, 1, ⟨#[]⟩, ⟨#[]⟩⟩, ⟨3, 1, key, ⟨#[]⟩⟩]
def late3 : List MAct := [⟨4, 1, ⟨#[]⟩, ⟨#[]⟩⟩, ⟨4, 0, ⟨#[]⟩, ⟨#[]⟩⟩, ⟨4, 0, ⟨#[]⟩, ⟨#[]⟩⟩, ⟨4, 1, ⟨#[]⟩, ⟨#[]⟩⟩]
theorem keyF_le (a : Int) : (keyF a).size ≤ 6 := by
  unfold keyF keyN
  repeat' split
  all_goals decide

set_option maxRecDepth 100000 in
set_option maxHeartbeats 4000000 in
theorem secondLate_walk (a0 : Int) (w : World) (h : InI64 a0) :
    Calls Tryd.prog 11 #[.int .i64 a0] w fun e w' => e = .returned (.bool true) ∧ Below w.heap.size w w' := by
  have HI := Lib.hid h
  clear h
  obtain ⟨key, hkey⟩ : ∃ key, key = keyF a0 := ⟨_, rfl⟩
  obtain ⟨Y, hY, hYL, y1, y2, y3, y4, y5, y6⟩ := late_plain (key := key) (by rw [hkey]; exact keyF_mem a0)
  have HY := Lib.hid hY
  have HYL := Lib.hid hYL
  have HYV : Hid ((ansAt Y 5).code = 7 ∧ (ansAt Y 5).phase = 2 ∧ (ansAt Y 7).phase = 0 ∧ (ansAt Y 7).code = 0 ∧ (ansAt Y 8).code = 8 ∧ (ansAt Y 8).phase = 0) := ⟨y1, y2, y3, y4, y5, y6⟩
  have HKS : Hid (key.size ≤ 6) := by show _ ≤ _; rw [hkey]; exact keyF_le a0
  have HK := Lib.hid hkey
  clear hY hYL y1 y2 y3 y4 y5 y6 hkey
  go_enter Tryd.func11, Tryd.ntmps11
  go_wp2_with fail
  refine (keepKey_any a0 w HI.out).mono ?_
  rintro e w1 ⟨rfl, hb⟩
  rw [← HK.out]
  have HL1 := Lib.hid hb
  clear hb
  go_wp2_with fail
  obtain ⟨v, hv⟩ : ∃ v, v = (w1.alloc (.cells #[.int .i64 1, .int .i64 1, .string ⟨#[]⟩, .string ⟨#[]⟩, .int .i64 3, .int .i64 1, .string key, .string ⟨#[]⟩] 62)).alloc (.cells #[.string key] 9) := ⟨_, rfl⟩
  obtain ⟨gA, hgA⟩ : ∃ gA, gA = w1.heap.size := ⟨_, rfl⟩
  rw [← hv, ← hgA]
  have HP1 : Hid (PartOk v v.heap.size ⟨gA, 2, late1 key⟩) := by
    show PartOk _ _ _
    exact PartOk.of_blk (t := 62) (by rw [hv, hgA]; exact blk_old (blk_new w1 _ _) _)
  have HKY : Hid (KeysOk v v.heap.size (some ⟨gA + 1, 0, none⟩) 1 [key]) := by
    show KeysOk _ _ _ _ _
    have e : (w1.alloc (.cells #[.int .i64 1, .int .i64 1, .string ⟨#[]⟩, .string ⟨#[]⟩, .int .i64 3, .int .i64 1, .string key, .string ⟨#[]⟩] 62)).heap.size = gA + 1 := by rw [hgA]; simp
    exact KeysOk.of_blk (l := [key]) (t := 9) (by rw [← e, hv]; exact blk_new _ _ _)
  have HLv : Hid (Below w.heap.size w v) := by show Below _ _ _; rw [hv]; exact (HL1.out.alloc HL1.out.size _).alloc (by have := HL1.out.size; simp; omega) _
  clear hv hgA HL1
  refine (deed_any 0 1 [key] (some ⟨gA + 1, 0, none⟩) 1 1 v HKY.out (by decide) (by decide) (by decide) (fun k hk => by simp at hk; subst hk; exact HKS.out)).mono ?_
  rintro e w2 ⟨A2, c2, rfl, ho, hb⟩
  obtain ⟨g2, rfl, hn2, hp2⟩ := PartOk.of_own ho (by decide)
  have HP2 := Lib.hid hp2
  have HP12 := Lib.hid ((HP1.out.below hb (Nat.le_refl _)).more hb.size)
  have HL2 := Lib.hid (HLv.out.trans (hb.mono HLv.out.size))
  clear ho hb hn2 hp2 HP1 HKY HLv
  go_wp2_with fail
  obtain ⟨v2, hv2⟩ : ∃ v2, v2 = w2.alloc (.cells (actCells late3).toArray 62) := ⟨_, rfl⟩
  obtain ⟨gB, hgB⟩ : ∃ gB, gB = w2.heap.size := ⟨_, rfl⟩
  obtain ⟨v3, hv3⟩ : ∃ v3, v3 = v2.alloc (.cells #[.slice (some ⟨gA, 0, none⟩) 2 2, .slice (some ⟨g2, 0, none⟩) 3 c2, .slice (some ⟨gB, 0, none⟩) 4 4] 40) := ⟨_, rfl⟩
  have HE3 : Hid (v3 = v2.alloc (.cells #[.slice (some ⟨gA, 0, none⟩) 2 2, .slice (some ⟨g2, 0, none⟩) 3 c2, .slice (some ⟨gB, 0, none⟩) 4 4] 40)) := hv3
  have HE2 : Hid (v2 = w2.alloc (.cells (actCells late3).toArray 62)) := hv2
  have HGB : Hid (gB = w2.heap.size) := hgB
  obtain ⟨ps, hps⟩ : ∃ ps : List ActPart, ps = [⟨gA, 2, late1 key⟩, ⟨g2, c2, deedA 0 1 [key]⟩, ⟨gB, 4, late3⟩] := ⟨_, rfl⟩
  have hb23 : Below w2.heap.size w2 v3 := by rw [hv3, hv2]; exact ((Below.refl _ w2).alloc (Nat.le_refl _) _).alloc (by simp) _
  have HRD : Hid (Reads ActPart.cells 1 v3 v3.heap.size (some ⟨gB + 1, 0, none⟩) 3 ps) := by
    show Reads _ _ _ _ _ _ _
    rw [hps]
    have hb : v3.heap[gB + 1]? = some (.cells #[.slice (some ⟨gA, 0, none⟩) 2 2, .slice (some ⟨g2, 0, none⟩) 3 c2, .slice (some ⟨gB, 0, none⟩) 4 4] 40 (0, 0)) := by
      have e : v2.heap.size = gB + 1 := by rw [hv2, hgB]; simp
      rw [← e, hv3]; exact blk_new v2 _ _
    exact Reads.of_blk (f := ActPart.cells) (s := 1) (fun _ => rfl) (l := [⟨gA, 2, late1 key⟩, ⟨g2, c2, deedA 0 1 [key]⟩, ⟨gB, 4, late3⟩]) hb
  have HPS : Hid (∀ p ∈ ps, PartOk v3 v3.heap.size p) := by
    show ∀ p ∈ _, _
    rw [hps]
    intro p hp
    have h3 : PartOk v3 v3.heap.size ⟨gB, 4, late3⟩ := PartOk.of_blk (t := 62) (by rw [hv3, hv2, hgB]; exact blk_old (blk_new w2 _ _) _)
    rcases List.mem_cons.1 hp with rfl | hp
    · exact (HP12.out.below hb23 (Nat.le_refl _)).more hb23.size
    · rcases List.mem_cons.1 hp with rfl | hp
      · exact (HP2.out.below hb23 (Nat.le_refl _)).more hb23.size
      · simp at hp; subst hp; exact h3
  have HAC : Hid (ps.flatMap ActPart.l = lateActs key) := by show _ = _; rw [hps]; rfl
  have HLS : Hid ((ps.flatMap ActPart.l).length = 9) := by show _ = _; rw [HAC.out]; rfl
  have HL3 := Lib.hid (HL2.out.trans (hb23.mono HL2.out.size))
  have heq : (w2.alloc (.cells #[.int .i64 4, .int .i64 1, .string ⟨#[]⟩, .string ⟨#[]⟩, .int .i64 4, .int .i64 0, .string ⟨#[]⟩, .string ⟨#[]⟩, .int .i64 4, .int .i64 0, .string ⟨#[]⟩, .string ⟨#[]⟩, .int .i64 4, .int .i64 1, .string ⟨#[]⟩, .string ⟨#[]⟩] 62)).alloc (.cells #[.slice (some ⟨gA, 0, none⟩) 2 2, .slice (some ⟨g2, 0, none⟩) 3 c2, .slice (some ⟨w2.heap.size, 0, none⟩) 4 4] 40) = v3 := by
    rw [hv3, hv2, hgB]; rfl
  rw [heq, ← hgB]
  clear heq hv3 hv2 hgB hb23 HE3 HE2 HGB hps HP2 HP12 HL2
  refine (concat_any ps (some ⟨gB + 1, 0, none⟩) 3 3 v3 HRD.out HPS.out (by decide) (by rw [HLS.out]; decide) (by rw [HLS.out]; decide)).mono ?_
  rintro e w4 ⟨A4, m4, c4, rfl, hm, ho, hb⟩
  rw [HLS.out] at hm
  subst hm
  rw [HAC.out] at ho
  have HA4 := Lib.hid (ActsOk.of_own ho)
  have HL4 := Lib.hid (HL3.out.trans (hb.mono HL3.out.size))
  clear ho hb HRD HPS HLS HAC HL3
  go_wp2_with fail
  refine (keepRun_any (lateActs key) A4 9 c4 w4 HA4.out (by decide)).mono ?_
  rintro e w5 ⟨A5, c5, rfl, ho, hb⟩
  rw [HY.out] at ho
  have HA5 := AnsOk.of_own ho
  have HL5 := Lib.hid (HL4.out.trans (hb.mono HL4.out.size))
  clear ho hb HL4 HA4
  obtain ⟨y1, y2, y3, y4, y5, y6⟩ := HYV.out
  obtain ⟨b, off, rfl, hbb, q0, q1, q2, q3, q4⟩ := ans_no HA5 (k := 5) (by decide)
  obtain ⟨b', off', e', _, r0, _, _, r3, _⟩ := ans_no HA5 (k := 7) (by decide)
  obtain ⟨b2, off2, e2, _, s0, _, _, s3, _⟩ := ans_no HA5 (k := 8) (by decide)
  injection e' with e'
  injection e' with e1 e3
  injection e2 with e2
  injection e2 with e4 e5
  rw [← e1, ← e3] at r0 r3
  rw [← e4, ← e5] at s0 s3
  rw [y1] at q0
  rw [y2] at q3
  rw [y3] at r3
  rw [y4] at r0
  rw [y5] at s0
  rw [y6] at s3
  have t1 : w5.cell? ⟨b, off + 25, none⟩ = some (.int .i64 7) := by simpa using q0
  have t2 : w5.cell? ⟨b, off + 28, none⟩ = some (.int .i64 2) := by simpa [Nat.add_assoc] using q3
  have t3 : w5.cell? ⟨b, off + 35, none⟩ = some (.int .i64 0) := by simpa using r0
  have t4 : w5.cell? ⟨b, off + 38, none⟩ = some (.int .i64 0) := by simpa [Nat.add_assoc] using r3
  have t5 : w5.cell? ⟨b, off + 40, none⟩ = some (.int .i64 8) := by simpa using s0
  have t6 : w5.cell? ⟨b, off + 43, none⟩ = some (.int .i64 0) := by simpa [Nat.add_assoc] using s3
  clear q0 q1 q2 q3 q4 r0 r3 s0 s3 e1 e3 e4 e5 y1 y2 y3 y4 y5 y6 HA5 hbb
  go_wp2_with fail
  all_goals go_ret
  all_goals exact ⟨rfl, HL5.out⟩
open Go.ChangeShapes Go.WideShapes Go.ChangeAt
open Go.ChangeMaps (open_string shut_string)
set_option maxRecDepth 100000 in
theorem secondLate_lifted (os : Os) (started : os.Started) (H : Type) (enc : TypeId × Value → H) :
    ReturnsInHanded {} Tryd.checked os 11 .any (fun w args => (Rows.secondLateSpec.pre enc Tryd.prog Tryd.f11 [] false w args ∧ laidMetH Tryd.prog laidL w) ∧ sizedMet enc Tryd.prog Tryd.f11 (OpenSpec.ofChange Rows.secondLateSpec) false w args)
      (Rows.secondLateSpec.post enc Tryd.prog Tryd.f11 false true false false) := by
  refine returnsInHanded_of_change_and (C := Tryd.checked) (X := fun w _ => laidMetH Tryd.prog laidL w) (fun _ _ _ hh h => h.of_heap hh) own started (by kernel_rfl) Tryd.func11
    (ChangeSpec.witness_shaped (enc := enc) (C := Tryd.checked) (os := os) (X := fun w _ => laidMetH Tryd.prog laidL w) false (World.doorLaid Tryd.prog doorN os) #[.int .i64 0] 8 rfl (World.shaped_of_RefB (by kernel_rfl) (by kernel_rfl)) (by kernel_rfl) (by kernel_rfl) (by kernel_rfl) (door_met os _)) ?_
  intro W base args ds gs before hval0 hW hcnd hsz0 _ _
  have hval : ∀ (j : Nat) t v, Tryd.f11.params[j]? = some t → args[j]? = some v → Value.okWide Tryd.prog W .any base t v := hval0
  have hsz : (DataW.weightsEach Tryd.prog (Tryd.f11.params.toList ++ Rows.secondLateSpec.plain.varTypes Tryd.prog) (ds ++ gs)).all (· ≤ reachBytes) = true := hsz0
  clear hsz0
  have hW' := hW
  obtain ⟨p, q, hA0, hV, rfl, hfz, hnd⟩ := hW
  have hA : DataW.TrodAll enc Tryd.prog W 0 (fun _ => true) true Tryd.f11.params.toList args.toList ds p := hA0
  rw [Tryd.params11] at hA hval hsz
  obtain ⟨v0, vs0, d0, ds0, p0, q0, hargs, rfl, rfl, h0, r0⟩ := trodAll_cons hA
  obtain ⟨rfl, rfl, rfl⟩ := trodAll_nil r0
  obtain rfl : args = #[v0] := by cases args; simp_all
  obtain ⟨rfl, rfl⟩ := trodVars_none hV
  have k0 := h0
  have lt0 : ∀ x ∈ p0, x.block < W.heap.size := by obtain ⟨m, hm⟩ := k0; exact DataW.trod_lt m _ _ _ hm
  obtain ⟨a0, rfl, rfl, rfl, w0⟩ := open_int Tryd.underlying3 (hval 0 3 v0 rfl rfl) h0
  clear hA0 hval0 hsz
  refine (secondLate_walk a0 W (of_wf_i64 w0)).mono fun e W' ⟨he, bel⟩ => ?_
  subst he
  exact ⟨_, rfl, _, _, _, [], _, [], hW', trodAll_mk1 (shut_bool Tryd.underlying4 _), (trodAll_cons_mk (shut_int Tryd.underlying3 w0) trodAll_mk0), rfl, bel.frame _, fun h => by cases h⟩

theorem secondLate_holds : Rows.SecondLateSaid :=
  OpenClaim.holds_of_wide 11 Tryd.f11 rfl rfl rfl rfl rfl rfl rfl ⟨rfl, rfl, rfl, rfl, rfl⟩ rfl rfl rfl rfl rfl (by kernel_rfl) Tryd.func11 (by kernel_rfl)
    (of_decide_eq_true (by kernel_rfl)) (by unfold Func.isWrapper; first | (rw [if_pos (by decide +kernel)]; kernel_rfl) | (rw [if_neg (by decide +kernel)]; exact ⟨rfl, rfl⟩))
    (fun os started H enc _ => secondLate_lifted os started H enc)
theorem secondLate_card_holds : Rows.SecondLateCardSaid :=
  Claim7.holds_tied_plain_at .later [] [.data, .data, .data] true (true, "e44c9e840b0f46bef65dfb98f0a7588797efde6505a8a41f96fe595c4c41513d") false
    secondLate_holds (fun _ h => by cases h) (by kernel_rfl) (fun _ h => by cases h) secondLate_row_tie rfl ⟨rfl, rfl⟩ (by kernel_rfl) rfl
    (fun f fn hf hfn => by
      obtain rfl : f = 11 := Option.some.inj ((show Tryd.prog.funcNamed "rickyard/rickyardkeep.SecondLate" = some 11 by kernel_rfl).symm.trans hf) |>.symm
      obtain rfl : fn = Tryd.f11 := (Option.some.inj (Tryd.func11.symm.trans hfn)).symm
      exact ⟨by kernel_rfl, fun j t ht => by
        rw [Tryd.params11] at ht
        have hm : t ∈ ([3] : List TypeId) := by simpa using Array.mem_of_getElem? ht
        have hall : (([3] : List TypeId).all fun u => !Tryd.prog.wantsStandIn u) = true := by kernel_rfl
        exact (show Tryd.prog.wantsStandIn t = false by simpa using List.all_eq_true.1 hall t hm)⟩)
    (by kernel_rfl)
#print axioms secondLate_card_holds
end Go.Proofs.YtniomgngiiiklabDoor
