/- WorldsGood: a valid world remains valid after all actions, and actions that fail change nothing: the law's walk, then its row and its card. Conditions: none. -/
import Derived.Test.YtniomgngiiiklabDoorTopRun
import Derived.Test.YtniomgngiiiklabDoorActsApp
import Derived.Test.YtniomgngiiiklabDoorGrowA
import Derived.Test.YtniomgngiiiklabDoorEqRows
import Derived.Test.YtniomgngiiiklabDoorCheckW
import Derived.Test.YtniomgngiiiklabDoorTxnCopy
import Derived.Test.YtniomgngiiiklabDoorScripts
import Derived.Test.YtniomgngiiiklabDoorDoor
import Derived.Laws.OwnMore
namespace Go.Proofs.YtniomgngiiiklabDoor
open Go.RowKit

def zeroAct : MAct := ⟨0, 0, ⟨#[]⟩, ⟨#[]⟩⟩
/-- All that is known of the script of WorldsGood ahead of its walk. -/
structure GoodScript (nn kd : Nat) (l : List MRaw) (acts p zl : List MAct) (X Y : List MAns) (M : MWorld) : Prop where
  eq : acts = actsK (nn : Int) 90 l
  len : acts.length ≤ 90
  run : runAll (nn : Int) acts = (X, M, 0)
  xlen : X.length = acts.length
  pe : p = [⟨7 + (kd : Int), 0, ⟨#[]⟩, ⟨#[]⟩⟩, ⟨2, (nn : Int), ⟨#[]⟩, ⟨#[]⟩⟩]
  run2 : runAll (nn : Int) (acts ++ p) = (Y, M, 0)
  ylen : Y.length = acts.length + 2
  y1 : ∃ y, Y[acts.length]? = some y ∧ y.code = 3
  y2 : ∃ y, Y[acts.length + 1]? = some y ∧ y.code = 2
  good : WorldGood M
  ze : zl = List.replicate 401 zeroAct
  run4 : runAll (nn : Int) zl = ([], zeroWorld, 1)
theorem goodScript_mk {nn kd : Nat} (h1 : 1 ≤ nn) (h5 : nn ≤ 5) (l : List MRaw) : ∃ acts p zl X Y M, GoodScript nn kd l acts p zl X Y M := by
  have hlen : (actsK (nn : Int) 90 l).length ≤ 90 := by rw [actsK_length]; omega
  have hok : ∀ a ∈ actsK (nn : Int) 90 l, ActOk nn a := actsK_ok (by omega)
  have hw := worlds_plain (n := nn) (k := 7 + (kd : Int)) (c := 0) (s := ⟨#[]⟩) (v := ⟨#[]⟩) h1 h5 hlen hok (by omega)
  have hx : (ansFrom (startW nn) (actsK (nn : Int) 90 l)).length = (actsK (nn : Int) 90 l).length := length_ansFrom _ _
  refine ⟨_, _, _, _, _, _, rfl, hlen, runAll_acts h1 h5 (by omega) hok, hx, rfl, by rw [← hw, List.append_assoc]; rfl, by simp [hx], ⟨{ zeroAns with code := 3 }, ?_, rfl⟩, ⟨{ zeroAns with code := 2 }, ?_, rfl⟩, (fit_end h5 (by omega) hok).good, rfl, runCode_long h1 h5 (by rw [List.length_replicate]; decide)⟩
  · rw [List.append_assoc, List.getElem?_append_right (by omega), hx, Nat.sub_self]; rfl
  · rw [List.append_assoc, List.getElem?_append_right (by omega), hx, show (actsK (nn : Int) 90 l).length + 1 - (actsK (nn : Int) 90 l).length = 1 by omega]; rfl
theorem made_zero : ∀ n : Nat, (madeCells (Value.agg #[.int .i64 0, .int .i64 0, .string ⟨#[]⟩, .string ⟨#[]⟩]).cells (n * 4)).toList = actCells (List.replicate n zeroAct) := by
  intro n
  have hc : (Value.agg #[.int .i64 0, .int .i64 0, .string ⟨#[]⟩, .string ⟨#[]⟩]).cells = #[.int .i64 0, .int .i64 0, .string ⟨#[]⟩, .string ⟨#[]⟩] := by simp [Value.cells]
  unfold madeCells
  rw [hc, Array.toList_map, Array.toList_range]
  induction n with
  | zero => simp [actCells]
  | succ n ih =>
    have e : (n + 1) * 4 = n * 4 + 1 + 1 + 1 + 1 := by omega
    rw [e, List.range_succ, List.range_succ, List.range_succ, List.range_succ, List.map_append, List.map_append, List.map_append, List.map_append, ih, List.replicate_succ', actCells_append]
    have h0 : (n * 4) % 4 = 0 := by omega
    have h1 : (n * 4 + 1) % 4 = 1 := by omega
    have h2 : (n * 4 + 1 + 1) % 4 = 2 := by omega
    have h3 : (n * 4 + 1 + 1 + 1) % 4 = 3 := by omega
    simp [h0, h1, h2, h3, actCells, MAct.cells, zeroAct]
theorem make_zeros (w : World) : ∃ w', (Instr.makeSlice 40 (.int .i64 401) (.int .i64 401)).run Tryd.prog w = .ok (.slice (some ⟨w.heap.size, 0, none⟩) 401 401) w' ∧ ActsOk w' w'.heap.size (some ⟨w.heap.size, 0, none⟩) 401 (List.replicate 401 zeroAct) ∧ Below w.heap.size w w' := by
  obtain ⟨i0, hi0, hz0, hz1, hz2⟩ := info_parts info_act
  obtain ⟨w', hr, ho, hg⟩ := run_makeSlice_full (P := Tryd.prog) w w.heap.size 40 62 i0 _ 4 Tryd.underlying40 hi0 hz0 hz1 .i64 .i64 401 (by decide) (by rw [hz2]; decide) (by unfold maxLen; decide) (Nat.le_refl _)
  rw [made_zero 401] at ho
  exact ⟨w', hr, ActsOk.of_own ho, (Below.refl _ w).grown hg (Nat.le_refl _) (fun j hj => by cases hj)⟩

set_option maxRecDepth 100000 in
set_option maxHeartbeats 4000000 in
theorem worldsGood_walk (l : List MRaw) (A : Option Addr) (n c : Nat) (a1 a2 : Int) (w : World) (h : RawsOk w w.heap.size A n c l) (ha1 : InI64 a1) (ha2 : InI64 a2) :
    Calls Tryd.prog 8 #[.slice A n c, .int .i64 a1, .int .i64 a2] w fun e w' => e = .returned (.bool true) ∧ Below w.heap.size w w' := by
  have HR := Lib.hid h
  have HI1 := Lib.hid ha1
  have HI2 := Lib.hid ha2
  clear h ha1 ha2
  obtain ⟨p0, p1⟩ := pickF_lt a2 (m := 5) (by omega)
  obtain ⟨pk, hpk⟩ : ∃ pk : Nat, pickF a2 5 = pk := ⟨(pickF a2 5).toNat, by omega⟩
  rw [hpk] at p0 p1
  have hp5 : ∀ W, Calls Tryd.prog 17 #[.int .i64 a2, .int .i64 5] W fun e W' => e = .returned (.int .i64 (pk : Int)) ∧ W = W' := fun W => by
    rw [← hpk]; exact picked_any a2 5 W HI2.out (by omega) (by omega)
  obtain ⟨nn, hnn⟩ : ∃ nn : Nat, nn = 1 + pk := ⟨_, rfl⟩
  have hn1 : 1 ≤ nn := by omega
  have hn5 : nn ≤ 5 := by omega
  have e1 : (1 + (pk : Int)) = (nn : Int) := by omega
  obtain ⟨r0, r1⟩ := pickF_lt a1 (m := 9) (by omega)
  obtain ⟨kd, hkd⟩ : ∃ kd : Nat, pickF a1 9 = kd := ⟨(pickF a1 9).toNat, by omega⟩
  rw [hkd] at r0 r1
  have hk9 : kd < 9 := by omega
  have HP9 : Hid (∀ W, Calls Tryd.prog 17 #[.int .i64 a1, .int .i64 9] W fun e W' => e = .returned (.int .i64 (kd : Int)) ∧ W = W') := by
    show ∀ W, _
    intro W
    rw [← hkd]; exact picked_any a1 9 W HI1.out (by omega) (by omega)
  obtain ⟨acts, p, zl, X, Y, M, hg⟩ := goodScript_mk (kd := kd) hn1 hn5 l
  have HG := Lib.hid hg
  have HE1 := Lib.hid e1
  clear hpk hkd hg r0 r1 e1
  go_enter Tryd.func8, Tryd.ntmps8
  go_upto_region 2 with (go_at_call 17; refine (hp5 _).mono ?_; rintro e w' ⟨rfl, rfl⟩)
  rw [HE1.out]
  clear hp5 p0 p1 hnn
  go_wp2_with fail
  refine (keepActs_any l 90 nn A n c w HR.out (by decide) hn1 hn5).mono ?_
  rintro e w1 ⟨A1, m1, c1, rfl, ho, hb⟩
  rw [← HG.out.eq] at ho
  have hm1 := len_of_cells (f := MAct.cells) (s := 4) (fun _ => rfl) (by decide) ho
  have HO1 := Lib.hid ho
  have HL1 := Lib.hid hb
  have HM1 : Hid (m1 = acts.length ∧ m1 ≤ 90) := ⟨hm1, by have := HG.out.len; omega⟩
  have hm90 := HM1.out.2
  clear ho hb hm1
  go_wp2_with fail
  refine (txnRun_any (nn : Int) acts A1 m1 c1 w1 (ActsOk.of_own HO1.out) (by unfold maxLen; omega)).mono ?_
  rintro e w2 hr
  rw [HG.out.run] at hr
  obtain ⟨A2, k2, c2, B1, n1, e1, hs1, B2, n2, e2, hs2, rfl, ho, hor, hoc, hb⟩ := hr
  dsimp only at ho hor hoc
  dsimp only
  have hk2 : k2 = m1 := by rw [len_of_cells (f := MAns.cells) (s := 5) (fun _ => rfl) (by decide) ho, HG.out.xlen, HM1.out.1]
  subst hk2
  have HRO2 := Lib.hid (hor.ok HG.out.good.sized.1)
  have HCO2 := Lib.hid (hoc.ok HG.out.good.sized.2)
  have HO2 := Lib.hid (own_at HO1.out (fun g hg => hb.block g hg))
  have HL2 := Lib.hid (HL1.out.trans (hb.mono HL1.out.size))
  clear ho hor hoc hb HL1 HO1
  go_upto_region 4 with (fail)
  obtain ⟨v, hv⟩ : ∃ v, v = w2.alloc (.cells #[.slice B1 n1 e1, .int .i64 M.clock, .slice B2 n2 e2] 37) := ⟨_, rfl⟩
  obtain ⟨g10, hg10⟩ : ∃ g10, g10 = w2.heap.size := ⟨_, rfl⟩
  rw [← hv, ← hg10]
  have HB10 : Hid (v.heap[g10]? = some (.cells #[.slice B1 n1 e1, .int .i64 M.clock, .slice B2 n2 e2] 37 (0, 0))) := by show _ = _; rw [hv, hg10]; exact blk_new w2 _ _
  have hb2 : Below w2.heap.size w2 v := by rw [hv]; exact (Below.refl _ w2).alloc (Nat.le_refl _) _
  have HROv := Lib.hid ((HRO2.out.below hb2 (Nat.le_refl _)).more hb2.size)
  have HCOv := Lib.hid ((HCO2.out.below hb2 (Nat.le_refl _)).more hb2.size)
  have HOv := Lib.hid (own_at HO2.out (fun g hg => hb2.block g hg))
  have HLv := Lib.hid (HL2.out.trans (hb2.mono HL2.out.size))
  clear hv hg10 hb2 HRO2 HCO2 HO2 HL2
  go_wp2_with fail
  refine (cloneActs_any A1 k2 c1 acts w.heap.size v HOv.out (by omega)).mono ?_
  rintro e w3 ⟨A3, c3, rfl, ho, hb⟩
  have HO3 := Lib.hid ho
  have HB3 := Lib.hid hb
  clear ho hb
  go_wp2_with fail
  refine (HP9.out w3).mono ?_
  rintro e w4 ⟨rfl, rfl⟩
  have hz3 := HB3.out.size
  go_wp2_with (at_builtin; refine wpList_append_acts _ rfl _ _ rfl v.heap.size A3 c3 k2 acts p rfl (HO3.out.alloc _) w3.heap.size 2 rfl (by rw [HG.out.pe]; rfl) (by rw [HG.out.pe]; exact blk_new w3 _ _) (by omega) (by decide) (by simp; omega) ?_)
  intro A6 c6 w6 ho hg
  have HO6 := Lib.hid ho
  have HB6 := Lib.hid ((HB3.out.alloc hz3 _).grown hg (by simp; omega) (fun j hj => own_base HO3.out j hj))
  have HRO6 := Lib.hid ((HROv.out.below HB6.out (Nat.le_refl _)).more HB6.out.size)
  have HCO6 := Lib.hid ((HCOv.out.below HB6.out (Nat.le_refl _)).more HB6.out.size)
  have HBB6 := Lib.hid ((HB6.out.block _ (blk_lt HB10.out)).trans HB10.out)
  have HL6 := Lib.hid (HLv.out.trans (HB6.out.mono HLv.out.size))
  clear ho hg hz3 HO3 HB3 HOv HLv HROv HCOv HB10 HB6
  go_wp2_with fail
  refine (txnRun_any (nn : Int) (acts ++ p) A6 (k2 + 2) c6 w6 (ActsOk.of_own HO6.out) (by unfold maxLen; omega)).mono ?_
  rintro e w7 hr
  rw [HG.out.run2] at hr
  obtain ⟨A7, k7, c7, B3, n3, e3, hs3, B4, n4, e4, hs4, rfl, ho, hor, _, hb⟩ := hr
  dsimp only at ho hor
  dsimp only
  have hk7 : k7 = k2 + 2 := by rw [len_of_cells (f := MAns.cells) (s := 5) (fun _ => rfl) (by decide) ho, HG.out.ylen, HM1.out.1]
  subst hk7
  have HY7 := Lib.hid (AnsOk.of_own ho)
  have HR7 := Lib.hid (hor.ok HG.out.good.sized.1)
  have HRO7 := Lib.hid ((HRO6.out.below hb (Nat.le_refl _)).more hb.size)
  have HCO7 := Lib.hid ((HCO6.out.below hb (Nat.le_refl _)).more hb.size)
  have HBB7 := Lib.hid ((hb.block _ (blk_lt HBB6.out)).trans HBB6.out)
  have HL7 := Lib.hid (HL6.out.trans (hb.mono HL6.out.size))
  clear ho hor hb HRO6 HCO6 HBB6 HL6 HO6
  go_upto_region 5 with (fail)
  obtain ⟨v2, hv2⟩ : ∃ v2, v2 = w7.alloc (.cells #[.slice B3 n3 e3, .int .i64 M.clock, .slice B4 n4 e4] 37) := ⟨_, rfl⟩
  obtain ⟨g13, hg13⟩ : ∃ g13, g13 = w7.heap.size := ⟨_, rfl⟩
  rw [← hv2, ← hg13]
  have HB13 : Hid (v2.heap[g13]? = some (.cells #[.slice B3 n3 e3, .int .i64 M.clock, .slice B4 n4 e4] 37 (0, 0))) := by show _ = _; rw [hv2, hg13]; exact blk_new w7 _ _
  have hb2 : Below w7.heap.size w7 v2 := by rw [hv2]; exact (Below.refl _ w7).alloc (Nat.le_refl _) _
  have HY8 := Lib.hid ((HY7.out.below hb2 (Nat.le_refl _)).more hb2.size)
  have HR8 := Lib.hid ((HR7.out.below hb2 (Nat.le_refl _)).more hb2.size)
  have HRO8 := Lib.hid ((HRO7.out.below hb2 (Nat.le_refl _)).more hb2.size)
  have HCO8 := Lib.hid ((HCO7.out.below hb2 (Nat.le_refl _)).more hb2.size)
  have HBB8 := Lib.hid ((hb2.block _ (blk_lt HBB7.out)).trans HBB7.out)
  have HL8 := Lib.hid (HL7.out.trans (hb2.mono HL7.out.size))
  clear hv2 hg13 hb2 HY7 HR7 HRO7 HCO7 HBB7 HL7
  have HR0 : Hid (runAll 0 [] = ([], zeroWorld, 2)) := runCode_low []
  have HA0 : Hid (ActsOk v2 v2.heap.size none 0 []) := ActsOk.of_reads (Reads.nil _ _ _ _)
  go_wp2_with fail
  refine (txnRun_any 0 [] none 0 0 v2 HA0.out (by decide)).mono ?_
  rintro e w9 hr
  rw [HR0.out] at hr
  obtain ⟨A9, k9, c9, B5, n5, e5, hs5, B6, n6, e6, hs6, rfl, _, _, _, hb⟩ := hr
  dsimp only
  have HLb := Lib.hid hb
  clear hb
  go_upto_region 6 with (fail)
  obtain ⟨v3, hv3⟩ : ∃ v3, v3 = w9.alloc (.cells #[.slice B5 n5 e5, .int .i64 zeroWorld.clock, .slice B6 n6 e6] 37) := ⟨_, rfl⟩
  have hb3 : Below v2.heap.size v2 v3 := by rw [hv3]; exact HLb.out.alloc HLb.out.size _
  have heq : w9.alloc (.cells #[.slice B5 n5 e5, .int .i64 0, .slice B6 n6 e6] 37) = v3 := by rw [hv3]; rfl
  first | rw [← hv3] | rw [heq]
  have HY9 := Lib.hid ((HY8.out.below hb3 (Nat.le_refl _)).more hb3.size)
  have HR9 := Lib.hid ((HR8.out.below hb3 (Nat.le_refl _)).more hb3.size)
  have HRO9 := Lib.hid ((HRO8.out.below hb3 (Nat.le_refl _)).more hb3.size)
  have HCO9 := Lib.hid ((HCO8.out.below hb3 (Nat.le_refl _)).more hb3.size)
  have HBB9 := Lib.hid ((hb3.block _ (blk_lt HBB8.out)).trans HBB8.out)
  have HBC9 := Lib.hid ((hb3.block _ (blk_lt HB13.out)).trans HB13.out)
  have HL9 := Lib.hid (HL8.out.trans (hb3.mono HL8.out.size))
  clear hv3 heq hb3 HLb HY8 HR8 HRO8 HCO8 HBB8 HB13 HL8 HR0 HA0
  obtain ⟨wz, hmk, hza, hzb⟩ := make_zeros v3
  have HZA := Lib.hid hza
  have HZB := Lib.hid hzb
  clear hza hzb
  rw [← HG.out.ze] at HZA
  go_wp2_with fail
  clear hmk
  refine (txnRun_any (nn : Int) zl (some ⟨v3.heap.size, 0, none⟩) 401 401 wz HZA.out (by decide)).mono ?_
  rintro e w10 hr
  rw [HG.out.run4] at hr
  obtain ⟨A10, k10, c10, B7, n7, e7, hs7, B8, n8, e8, hs8, rfl, _, _, _, hb⟩ := hr
  dsimp only
  have HBz := Lib.hid (HZB.out.trans (hb.mono HZB.out.size))
  clear hb HZA HZB
  go_upto_region 7 with (fail)
  obtain ⟨v4, hv4⟩ : ∃ v4, v4 = w10.alloc (.cells #[.slice B7 n7 e7, .int .i64 zeroWorld.clock, .slice B8 n8 e8] 37) := ⟨_, rfl⟩
  have hb4 : Below v3.heap.size v3 v4 := by rw [hv4]; exact HBz.out.alloc HBz.out.size _
  have heq : w10.alloc (.cells #[.slice B7 n7 e7, .int .i64 0, .slice B8 n8 e8] 37) = v4 := by rw [hv4]; rfl
  first | rw [← hv4] | rw [heq]
  have HYa := Lib.hid ((HY9.out.below hb4 (Nat.le_refl _)).more hb4.size)
  have HRa := Lib.hid ((HR9.out.below hb4 (Nat.le_refl _)).more hb4.size)
  have HROa := Lib.hid ((HRO9.out.below hb4 (Nat.le_refl _)).more hb4.size)
  have HCOa := Lib.hid ((HCO9.out.below hb4 (Nat.le_refl _)).more hb4.size)
  have HBBa := Lib.hid ((hb4.block _ (blk_lt HBB9.out)).trans HBB9.out)
  have HBCa := Lib.hid ((hb4.block _ (blk_lt HBC9.out)).trans HBC9.out)
  have HLa := Lib.hid (HL9.out.trans (hb4.mono HL9.out.size))
  clear hv4 heq hb4 HBz HY9 HR9 HRO9 HCO9 HBB9 HBC9 HL9
  have HOK : Hid (okCode (worldB M) = 0) := by show _ = _; rw [worldB_iff.2 HG.out.good]; rfl
  obtain ⟨hc10, hf10⟩ := blk_read HBBa.out
  obtain ⟨hc13, hf13⟩ := blk_read HBCa.out
  go_wp2_with fail
  refine (txnCheck_any M B1 B2 n1 e1 n2 e2 v4 HROa.out HCOa.out).mono ?_
  rintro e w11 ⟨rfl, hb⟩
  rw [HOK.out]
  have HYb := Lib.hid ((HYa.out.below hb (Nat.le_refl _)).more hb.size)
  have HRb := Lib.hid ((HRa.out.below hb (Nat.le_refl _)).more hb.size)
  have HROb := Lib.hid ((HROa.out.below hb (Nat.le_refl _)).more hb.size)
  have HCOb := Lib.hid ((HCOa.out.below hb (Nat.le_refl _)).more hb.size)
  have HBBb := Lib.hid ((hb.block _ (blk_lt HBBa.out)).trans HBBa.out)
  have HBCb := Lib.hid ((hb.block _ (blk_lt HBCa.out)).trans HBCa.out)
  have HLb := Lib.hid (HLa.out.trans (hb.mono HLa.out.size))
  clear hb HYa HRa HROa HCOa HBBa HBCa HLa hc10 hf10 hc13 hf13
  obtain ⟨hc10, hf10⟩ := blk_read HBBb.out
  go_wp2_with fail
  refine (txnCopy_any M B1 B2 n1 e1 n2 e2 w11 HROb.out HCOb.out).mono ?_
  rintro e w12 ⟨Ba, da, hsa, Bb, db, hsb, rfl, hor, hoc, hb⟩
  have HRz := Lib.hid (hor.ok HG.out.good.sized.1)
  have HCz := Lib.hid (hoc.ok HG.out.good.sized.2)
  have HYc := Lib.hid ((HYb.out.below hb (Nat.le_refl _)).more hb.size)
  have HRc := Lib.hid ((HRb.out.below hb (Nat.le_refl _)).more hb.size)
  have HROc := Lib.hid ((HROb.out.below hb (Nat.le_refl _)).more hb.size)
  have HBBc := Lib.hid ((hb.block _ (blk_lt HBBb.out)).trans HBBb.out)
  have HBCc := Lib.hid ((hb.block _ (blk_lt HBCb.out)).trans HBCb.out)
  have HLc := Lib.hid (HLb.out.trans (hb.mono HLb.out.size))
  clear hor hoc hb HYb HRb HROb HCOb HBBb HBCb HLb hc10 hf10
  go_wp2_with fail
  refine (txnCheck_any M Ba Bb n1 da n2 db w12 HRz.out HCz.out).mono ?_
  rintro e w13 ⟨rfl, hb⟩
  rw [HOK.out]
  have HYd := Lib.hid ((HYc.out.below hb (Nat.le_refl _)).more hb.size)
  have HRd := Lib.hid ((HRc.out.below hb (Nat.le_refl _)).more hb.size)
  have HROd := Lib.hid ((HROc.out.below hb (Nat.le_refl _)).more hb.size)
  have HBBd := Lib.hid ((hb.block _ (blk_lt HBBc.out)).trans HBBc.out)
  have HBCd := Lib.hid ((hb.block _ (blk_lt HBCc.out)).trans HBCc.out)
  have HLd := Lib.hid (HLc.out.trans (hb.mono HLc.out.size))
  clear hb HYc HRc HROc HBBc HBCc HLc HRz HCz
  obtain ⟨hc10, hf10⟩ := blk_read HBBd.out
  obtain ⟨hc13, hf13⟩ := blk_read HBCd.out
  obtain ⟨ya, hya, hy3⟩ := HG.out.y1
  obtain ⟨yb, hyb, hy2⟩ := HG.out.y2
  rw [← HM1.out.1] at hya hyb
  obtain ⟨y1, b, off, hyk, rfl, hbb, q0, _, _, _, _⟩ := AnsOk.ans HYd.out (show k2 < k2 + 2 by omega)
  obtain rfl : y1 = ya := by rw [hya] at hyk; injection hyk with e; exact e.symm
  obtain ⟨z1, b', off', hzk, e', hbb', r0, _, _, _, _⟩ := AnsOk.ans HYd.out (show k2 + 1 < k2 + 2 by omega)
  obtain rfl : z1 = yb := by rw [hyb] at hzk; injection hzk with e; exact e.symm
  injection e' with e'
  injection e' with ea eb
  rw [← ea, ← eb, hy2] at r0
  rw [hy3] at q0
  clear hya hyb hyk hzk hy2 hy3 ea eb hbb hbb'
  go_wp2_with fail
  have hn31 : n3 = n1 := by have h2 := HROd.out.len; have h3 := HRd.out.len; omega
  have hr3 := HRd.out
  rw [hn31] at hr3 ⊢
  refine (equalRows_any M.rows B1 B3 n1 e1 e3 w13 HROd.out hr3).mono ?_
  rintro e w14 ⟨rfl, hb⟩
  have HBBe := Lib.hid ((hb.block _ (blk_lt HBBd.out)).trans HBBd.out)
  have HBCe := Lib.hid ((hb.block _ (blk_lt HBCd.out)).trans HBCd.out)
  have HLe := Lib.hid (HLd.out.trans (hb.mono HLd.out.size))
  clear hb hr3 hn31 HRd HROd HBBd HBCd HLd hc10 hf10 hc13 hf13 q0 r0
  obtain ⟨hc10, hf10⟩ := blk_read HBBe.out
  obtain ⟨hc13, hf13⟩ := blk_read HBCe.out
  go_wp2_with fail
  go_ret
  exact ⟨rfl, HLe.out⟩
open Go.ChangeShapes Go.WideShapes Go.ChangeAt
open Go.ChangeMaps (open_string shut_string)
set_option maxRecDepth 100000 in
theorem worldsGood_lifted (os : Os) (started : os.Started) (H : Type) (enc : TypeId × Value → H) :
    ReturnsInHanded {} Tryd.checked os 8 .any (fun w args => (Rows.worldsGoodSpec.pre enc Tryd.prog Tryd.f8 [] false w args ∧ laidMetH Tryd.prog laidL w) ∧ sizedMet enc Tryd.prog Tryd.f8 (OpenSpec.ofChange Rows.worldsGoodSpec) false w args)
      (Rows.worldsGoodSpec.post enc Tryd.prog Tryd.f8 false true false false) := by
  refine returnsInHanded_of_change_and (C := Tryd.checked) (X := fun w _ => laidMetH Tryd.prog laidL w) (fun _ _ _ hh h => h.of_heap hh) own started (by kernel_rfl) Tryd.func8
    (ChangeSpec.witness_shaped (enc := enc) (C := Tryd.checked) (os := os) (X := fun w _ => laidMetH Tryd.prog laidL w) false (World.doorLaid Tryd.prog doorN os) #[.slice none 0 0, .int .i64 0, .int .i64 0] 8 rfl (World.shaped_of_RefB (by kernel_rfl) (by kernel_rfl)) (by kernel_rfl) (by kernel_rfl) (by kernel_rfl) (door_met os _)) ?_
  intro W base args ds gs before hval0 hW hcnd hsz0 _ _
  have hval : ∀ (j : Nat) t v, Tryd.f8.params[j]? = some t → args[j]? = some v → Value.okWide Tryd.prog W .any base t v := hval0
  have hsz : (DataW.weightsEach Tryd.prog (Tryd.f8.params.toList ++ Rows.worldsGoodSpec.plain.varTypes Tryd.prog) (ds ++ gs)).all (· ≤ reachBytes) = true := hsz0
  clear hsz0
  have hW' := hW
  obtain ⟨p, q, hA0, hV, rfl, hfz, hnd⟩ := hW
  have hA : DataW.TrodAll enc Tryd.prog W 0 (fun _ => true) true Tryd.f8.params.toList args.toList ds p := hA0
  rw [Tryd.params8] at hA hval hsz
  obtain ⟨v0, vs0, d0, ds0, p0, q0, hargs, rfl, rfl, h0, r0⟩ := trodAll_cons hA
  obtain ⟨v1, vs1, d1, ds1, p1, q1, rfl, rfl, rfl, h1, r1⟩ := trodAll_cons r0
  obtain ⟨v2, vs2, d2, ds2, p2, q2, rfl, rfl, rfl, h2, r2⟩ := trodAll_cons r1
  obtain ⟨rfl, rfl, rfl⟩ := trodAll_nil r2
  obtain rfl : args = #[v0, v1, v2] := by cases args; simp_all
  obtain ⟨rfl, rfl⟩ := trodVars_none hV
  have k0 := h0
  have lt0 : ∀ x ∈ p0, x.block < W.heap.size := by obtain ⟨m, hm⟩ := k0; exact DataW.trod_lt m _ _ _ hm
  have k1 := h1
  have lt1 : ∀ x ∈ p1, x.block < W.heap.size := by obtain ⟨m, hm⟩ := k1; exact DataW.trod_lt m _ _ _ hm
  have k2 := h2
  have lt2 : ∀ x ∈ p2, x.block < W.heap.size := by obtain ⟨m, hm⟩ := k2; exact DataW.trod_lt m _ _ _ hm
  obtain ⟨A0, n0, c0, l0, rfl, ok0⟩ := open_raws_arg (hval 0 22 v0 rfl rfl) h0 (weights_of hsz (j := 0) rfl rfl)
  obtain ⟨a1, rfl, rfl, rfl, w1⟩ := open_int Tryd.underlying3 (hval 1 3 v1 rfl rfl) h1
  obtain ⟨a2, rfl, rfl, rfl, w2⟩ := open_int Tryd.underlying3 (hval 2 3 v2 rfl rfl) h2
  clear hA0 hval0 hsz
  refine (worldsGood_walk l0 A0 n0 c0 a1 a2 W ok0 (of_wf_i64 w1) (of_wf_i64 w2)).mono fun e W' ⟨he, bel⟩ => ?_
  subst he
  exact ⟨_, rfl, _, _, _, [], _, [], hW', trodAll_mk1 (shut_bool Tryd.underlying4 _), (trodAll_cons_mk (Below.trod laidOut (by kernel_rfl) (of_decide_eq_true (by kernel_rfl)) k0 bel lt0) (trodAll_cons_mk (shut_int Tryd.underlying3 w1) (trodAll_cons_mk (shut_int Tryd.underlying3 w2) trodAll_mk0))), rfl, bel.frame _, fun h => by cases h⟩

theorem worldsGood_holds : Rows.WorldsGoodSaid :=
  OpenClaim.holds_of_wide 8 Tryd.f8 rfl rfl rfl rfl rfl rfl rfl ⟨rfl, rfl, rfl, rfl, rfl⟩ rfl rfl rfl rfl rfl (by kernel_rfl) Tryd.func8 (by kernel_rfl)
    (of_decide_eq_true (by kernel_rfl)) (by unfold Func.isWrapper; first | (rw [if_pos (by decide +kernel)]; kernel_rfl) | (rw [if_neg (by decide +kernel)]; exact ⟨rfl, rfl⟩))
    (fun os started H enc _ => worldsGood_lifted os started H enc)
theorem worldsGood_card_holds : Rows.WorldsGoodCardSaid :=
  Claim7.holds_tied_plain_at .later [] [.data, .data, .data] true (true, "e44c9e840b0f46bef65dfb98f0a7588797efde6505a8a41f96fe595c4c41513d") false
    worldsGood_holds (fun _ h => by cases h) (by kernel_rfl) (fun _ h => by cases h) worldsGood_row_tie rfl ⟨rfl, rfl⟩ (by kernel_rfl) rfl
    (fun f fn hf hfn => by
      obtain rfl : f = 8 := Option.some.inj ((show Tryd.prog.funcNamed "rickyard/rickyardkeep.WorldsGood" = some 8 by kernel_rfl).symm.trans hf) |>.symm
      obtain rfl : fn = Tryd.f8 := (Option.some.inj (Tryd.func8.symm.trans hfn)).symm
      exact ⟨by kernel_rfl, fun j t ht => by
        rw [Tryd.params8] at ht
        have hm : t ∈ ([22, 3, 3] : List TypeId) := by simpa using Array.mem_of_getElem? ht
        have hall : (([22, 3, 3] : List TypeId).all fun u => !Tryd.prog.wantsStandIn u) = true := by kernel_rfl
        exact (show Tryd.prog.wantsStandIn t = false by simpa using List.all_eq_true.1 hall t hm)⟩)
    (by kernel_rfl)
#print axioms worldsGood_card_holds
end Go.Proofs.YtniomgngiiiklabDoor
