/- TopApart: of two committed transactions that wrote the same row, one was committed before the other one started: the law's walk, then its row and its card. Conditions: none. -/
import Derived.Test.YtniomgngiiiklaaDoorTopRun
import Derived.Test.YtniomgngiiiklaaDoorActsW
import Derived.Test.YtniomgngiiiklaaDoorCommitted
import Derived.Test.YtniomgngiiiklaaDoorTopSet
import Derived.Test.YtniomgngiiiklaaDoorDoor
import Derived.Test.YtniomgngiiiklaaDoorDeals
namespace Go.Proofs.YtniomgngiiiklaaDoor
open Go.RowKit Go.Maps

set_option maxRecDepth 100000 in
set_option maxHeartbeats 4000000 in
theorem topApart_walk (l : List MRaw) (A : Option Addr) (n c : Nat) (w : World) (h : RawsOk w w.heap.size A n c l) :
    Calls Tryd.prog 4 #[.slice A n c] w fun e w' => e = .returned (.bool true) ∧ Below w.heap.size w w' := by
  have HR := Lib.hid h
  clear h
  obtain ⟨acts, X, M, hs⟩ := script_mk (mo := 90) (by decide) l
  have HS := Lib.hid hs
  clear hs
  have HAP : Hid ((dealsT (List.replicate 4 zeroTrack) 0 acts X).Pairwise fun b a => ∀ k, (writeOf a.1.writes k).isSome = true → (writeOf b.1.writes k).isSome = true → ¬ (b.1.start < a.1.commit ∧ a.1.start < b.1.commit)) := by
    show List.Pairwise _ _
    rw [HS.out.ans]
    exact apart_plain (n := 4) (by decide) (by have := HS.out.len; omega) HS.out.ok
  go_enter Tryd.func4, Tryd.ntmps4
  go_wp2_with fail
  refine (keepActs_any l 90 4 A n c w HR.out (by decide) (by decide) (by decide)).mono ?_
  rintro e w1 ⟨A1, m1, c1, rfl, ho, hb⟩
  rw [← HS.out.eq] at ho
  have hm1 := len_of_cells (f := MAct.cells) (s := 4) (fun _ => rfl) (by decide) ho
  have HA1 := Lib.hid (ActsOk.of_own ho)
  have HL1 := Lib.hid hb
  have HM1 : Hid (m1 = acts.length ∧ m1 ≤ 90) := ⟨hm1, by have := HS.out.len; omega⟩
  clear ho hb hm1
  go_wp2_with fail
  refine (topRun_any acts A1 m1 c1 w1 HA1.out (by have := HM1.out; omega)).mono ?_
  rintro e w2 hr
  rw [HS.out.run] at hr
  obtain ⟨A2, k2, c2, B1, n1, e1, hs1, B2, n2, e2, hs2, rfl, ho, _, _, hb⟩ := hr
  dsimp only at ho
  dsimp only
  have hk2 : k2 = m1 := by rw [len_of_cells (f := MAns.cells) (s := 5) (fun _ => rfl) (by decide) ho, HS.out.xlen, HM1.out.1]
  subst hk2
  have HX2 := Lib.hid (AnsOk.of_own ho)
  have HA2 := Lib.hid ((HA1.out.below hb (Nat.le_refl _)).more hb.size)
  have HL2 := Lib.hid (HL1.out.trans (hb.mono HL1.out.size))
  clear ho hb HL1 HA1
  go_upto_region 3 with (fail)
  obtain ⟨v, hv⟩ : ∃ v, v = w2.alloc (.cells #[.slice B1 n1 e1, .int .i64 M.clock, .slice B2 n2 e2] 29) := ⟨_, rfl⟩
  rw [← hv]
  have hb2 : Below w2.heap.size w2 v := by rw [hv]; exact (Below.refl _ w2).alloc (Nat.le_refl _) _
  have HXv := Lib.hid ((HX2.out.below hb2 (Nat.le_refl _)).more hb2.size)
  have HAv := Lib.hid ((HA2.out.below hb2 (Nat.le_refl _)).more hb2.size)
  have HLv := Lib.hid (HL2.out.trans (hb2.mono HL2.out.size))
  clear hv hb2 HX2 HA2 HL2
  go_wp2_with fail
  refine (committed_any acts X A1 A2 k2 c1 c2 v HAv.out HXv.out (by have := HM1.out; omega) HS.out.ok HS.out.fine HS.out.size).mono ?_
  rintro e w3 ⟨A3, n3, c3, A4, n4, c4, L, S, rfl, hD, hS, hdo, hso, hle, hb⟩
  have HDO := Lib.hid hdo
  have HSO := Lib.hid hso
  have HX3 := Lib.hid ((HXv.out.below hb (Nat.le_refl _)).more hb.size)
  have HA3 := Lib.hid ((HAv.out.below hb (Nat.le_refl _)).more hb.size)
  have HL3 := Lib.hid (HLv.out.trans (hb.mono HLv.out.size))
  rw [← hD] at HAP
  have hsl : ∀ (k : Nat), k ≤ n3 → ∀ W, (Instr.slice 33 (.slice A3 n3 c3) none (some (.int .i64 (k : Int))) none).run Tryd.prog W = .ok (.slice A3 k c3) W := fun k hk W =>
    run_first (P := Tryd.prog) 33 A3 n3 k c3 4 (by kernel_rfl) (fun _ => by kernel_rfl) (by omega) W
  have HSL := Lib.hid hsl
  have hn3 : n3 ≤ 100 := by
    have h1 := deals_len acts X (List.replicate 4 zeroTrack) 0
    rw [← hD, List.length_map, hdo.cells.len] at h1
    have := HS.out.len
    omega
  clear hD hS hdo hso hle hb HXv HAv HLv hsl
  go_wp2_with fail
  go_loopw [32] (fun i wr => (∃ k : Nat, k ≤ n3 ∧ i = .int .i64 k) ∧ Below w3.heap.size w3 wr) (fun i _ => n3 - (intOf i).toNat)
  case atStart => exact ⟨⟨0, Nat.zero_le _, rfl⟩, Below.refl _ _⟩
  case round =>
    obtain ⟨⟨k, hk, rfl⟩, hbel⟩ := hrel
    have HL := Lib.hid hbel
    clear hbel
    have hzw := HL.out.size
    by_cases hlt : k < n3
    · obtain ⟨x, gb, off, hx, rfl, hbb, q0, q1, q2, q3, hxm, hmr⟩ := (HDO.out.below HL.out (Nat.le_refl _)).deal hlt
      have HX := Lib.hid hx
      have HMR := Lib.hid hmr
      clear hx hmr
      have hs1 := HSL.out k hk
      go_upto_region 7 with (fail)
      obtain ⟨v, hv⟩ : ∃ v, v = wr.alloc (.cells #[.int .i64 x.d.start, .int .i64 x.d.commit, .int .i64 x.act, .map (some x.m)] 48) := ⟨_, rfl⟩
      obtain ⟨g10, hg10⟩ : ∃ g10, g10 = wr.heap.size := ⟨_, rfl⟩
      rw [← hv, ← hg10]
      have HB10 : Hid (v.heap[g10]? = some (.cells #[.int .i64 x.d.start, .int .i64 x.d.commit, .int .i64 x.act, .map (some x.m)] 48 (0, 0))) := by show _ = _; rw [hv, hg10]; exact blk_new wr _ _
      have HLv : Hid (Below w3.heap.size w3 v) := by show Below _ _ _; rw [hv]; exact HL.out.alloc hzw _
      have HXM : Hid (x.m < w3.heap.size) := hxm
      have HMR3 : Hid (MapReads 400 w3 x.m x.d.writes) := HMR.out.keep (HL.out.block x.m hxm).symm
      clear hv hg10 q0 q1 q2 q3 hxm HMR
      go_wp2_with fail
      clear hs1
      go_loopw [41] (fun i ws => (∃ j : Nat, j ≤ k ∧ i = .int .i64 j) ∧ Below w3.heap.size w3 ws ∧ ws.heap[g10]? = some (.cells #[.int .i64 x.d.start, .int .i64 x.d.commit, .int .i64 x.act, .map (some x.m)] 48 (0, 0))) (fun i _ => k - (intOf i).toNat)
      case atStart => exact ⟨⟨0, Nat.zero_le _, rfl⟩, HLv.out, HB10.out⟩
      case round =>
        obtain ⟨⟨j, hj, rfl⟩, hbel, hblk⟩ := hrel
        have HL2 := Lib.hid hbel
        have HB2 := Lib.hid hblk
        clear hbel hblk
        have hz2 := HL2.out.size
        by_cases hjlt : j < k
        · obtain ⟨y, gb', off', hy, hA', hbb', q0, q1, q2, q3, hym, hmr⟩ := (HDO.out.below HL2.out (Nat.le_refl _)).deal (show j < n3 by omega)
          injection hA' with hA'
          injection hA' with hA1 hA2
          rw [← hA1, ← hA2] at q0 q1 q2 q3
          have HAPJ : Hid (∀ k, (writeOf x.d.writes k).isSome = true → (writeOf y.d.writes k).isSome = true → ¬ (y.d.start < x.d.commit ∧ x.d.start < y.d.commit)) := by
            show ∀ k, _
            obtain ⟨h1, rfl⟩ := List.getElem?_eq_some_iff.1 HX.out
            obtain ⟨h2, rfl⟩ := List.getElem?_eq_some_iff.1 hy
            have := List.pairwise_iff_getElem.1 HAP.out j k (by rw [List.length_map]; exact h2) (by rw [List.length_map]; exact h1) hjlt
            rw [List.getElem_map, List.getElem_map] at this
            exact this
          have HYM : Hid (y.m < w3.heap.size) := hym
          have HMY : Hid (MapReads 400 w3 y.m y.d.writes) := hmr.keep (HL2.out.block y.m hym).symm
          clear hy hA1 hA2 hym hmr hbb'
          go_upto_region 10 with (fail)
          obtain ⟨v2, hv2⟩ : ∃ v2, v2 = wr.alloc (.cells #[.int .i64 y.d.start, .int .i64 y.d.commit, .int .i64 y.act, .map (some y.m)] 48) := ⟨_, rfl⟩
          obtain ⟨g12, hg12⟩ : ∃ g12, g12 = wr.heap.size := ⟨_, rfl⟩
          rw [← hv2, ← hg12]
          have HB12 : Hid (v2.heap[g12]? = some (.cells #[.int .i64 y.d.start, .int .i64 y.d.commit, .int .i64 y.act, .map (some y.m)] 48 (0, 0))) := by show _ = _; rw [hv2, hg12]; exact blk_new wr _ _
          have HB13 : Hid (v2.heap[g10]? = some (.cells #[.int .i64 x.d.start, .int .i64 x.d.commit, .int .i64 x.act, .map (some x.m)] 48 (0, 0))) := by show _ = _; rw [hv2]; exact blk_old HB2.out _
          have HLv2 : Hid (Below w3.heap.size w3 v2) := by show Below _ _ _; rw [hv2]; exact HL2.out.alloc hz2 _
          obtain ⟨nx, DX, hox, hnx, htx⟩ := HMR3.out.keep (HLv2.out.block x.m HXM.out)
          have HTX := Lib.hid htx
          clear hv2 hg12 q0 q1 q2 q3 htx hnx
          obtain ⟨hc10, hf10⟩ := blk_read HB13.out
          obtain ⟨hc12, hf12⟩ := blk_read HB12.out
          go_wp2_with (first | (at_range; refine wpList_range_own _ rfl _ 41 rfl 9 9 law_str Tryd.underlying41 _ x.m nx DX rfl hox ?_; intro w0 hrg0 hg0 hs0) | fail)
          have HRG := Lib.hid hrg0
          have HBR := Lib.hid ((Below.refl v2.heap.size v2).grown hg0 (Nat.le_refl _) (fun j hj => by cases hj))
          clear hrg0 hg0 hs0 hc10 hf10 hc12 hf12 hox
          obtain ⟨gr, hgr⟩ : ∃ gr, gr = v2.heap.size := ⟨_, rfl⟩
          rw [← hgr] at HRG ⊢
          have HGR := Lib.hid hgr
          clear hgr
          go_loopw [48] (fun _ ws => ∃ (left : Lit → Bool) (cnt : Nat), ws.ranges Tryd.prog 9 (plainElem Tryd.prog 9) x.m gr nx DX left cnt ∧ Below v2.heap.size v2 ws) (fun _ ws => ws.rangeLeft x.m gr)
          case atStart => exact ⟨_, _, HRG.out, HBR.out⟩
          case round =>
            obtain ⟨left, cnt, hrg, hb⟩ := hrel
            have HRN := Lib.hid hrg
            have HNB := Lib.hid hb
            clear hb HRG HBR
            go_wp2_with (first
              | (at_next; refine wpList_next_ranges_ss _ rfl _ rfl 9 9 law_str Tryd.underlying9 Tryd.underlying9 x.m gr nx _ _ _ rfl hrg ?_ ?_)
              | fail)
            · intro hc0 hl0
              clear hrg hc0 hl0
              go_wp2_with fail
              go_roundw
              case rel => exact ⟨⟨j + 1, by omega, by go_num⟩, HLv2.out.trans (HNB.out.mono HLv2.out.size), (HNB.out.block _ (blk_lt HB13.out)).trans HB13.out⟩
              case measure => simp [intOf]; omega
            · intro xk xc w4 cnt4 hwx hwc hlx hat hrg4 hlt4 hg4 hs4 hen
              have hsx : (writeOf x.d.writes xk).isSome = true := by rw [← HTX.out.has]; exact Maps.has_true_of_atKey hat
              have hb4 := HNB.out.grown hg4 HNB.out.size (fun j hj => by have := HGR.out; injection hj with hj; omega)
              have HB4 := Lib.hid hb4
              have HB104 := Lib.hid ((hb4.block _ (blk_lt HB13.out)).trans HB13.out)
              have HB124 := Lib.hid ((hb4.block _ (blk_lt HB12.out)).trans HB12.out)
              have hlk := (HMY.out.keep ((HLv2.out.trans (hb4.mono HLv2.out.size)).block y.m HYM.out)).look_ok hwx
              have HR4 := Lib.hid hrg4
              have HLT := Lib.hid hlt4
              have hno := HAPJ.out xk hsx
              clear hrg hat hlx hrg4 hlt4 hg4 hs4 hb4 hsx
              obtain ⟨hc10, hf10⟩ := blk_read HB104.out
              obtain ⟨hc12, hf12⟩ := blk_read HB124.out
              cases hboth : (writeOf y.d.writes xk).isSome
              · rw [hboth] at hlk
                clear hno hboth
                go_wp2_with fail
                go_roundw
                case rel => exact ⟨_, cnt4, HR4.out, HB4.out⟩
                case measure => rw [HR4.out.left_eq, HRN.out.left_eq]; exact HLT.out
              · rw [hboth] at hlk
                by_cases h1 : y.d.start < x.d.commit
                · have d1 : decide (y.d.start < x.d.commit) = true := decide_eq_true h1
                  have d2 : decide (x.d.start < y.d.commit) = false := decide_eq_false fun h2 => hno hboth ⟨h1, h2⟩
                  clear hno hboth h1
                  go_wp2_with fail
                  go_roundw
                  case rel => exact ⟨_, cnt4, HR4.out, HB4.out⟩
                  case measure => rw [HR4.out.left_eq, HRN.out.left_eq]; exact HLT.out
                · have d1 : decide (y.d.start < x.d.commit) = false := decide_eq_false h1
                  clear hno hboth h1
                  go_wp2_with fail
                  go_roundw
                  case rel => exact ⟨_, cnt4, HR4.out, HB4.out⟩
                  case measure => rw [HR4.out.left_eq, HRN.out.left_eq]; exact HLT.out
        · obtain rfl : j = k := by omega
          go_wp2_with fail
          go_roundw
          case rel => exact ⟨⟨j + 1, by omega, by go_num⟩, HL2.out⟩
          case measure => simp [intOf]; omega
    · go_wp2_with fail
      go_ret
      exact ⟨rfl, HL3.out.trans (HL.out.mono HL3.out.size)⟩
open Go.ChangeShapes Go.WideShapes Go.ChangeAt
open Go.ChangeMaps (open_string shut_string)
set_option maxRecDepth 100000 in
theorem topApart_lifted (os : Os) (started : os.Started) (H : Type) (enc : TypeId × Value → H) :
    ReturnsInHanded {} Tryd.checked os 4 .any (fun w args => (Rows.topApartSpec.pre enc Tryd.prog Tryd.f4 [] false w args ∧ laidMetH Tryd.prog laidL w) ∧ sizedMet enc Tryd.prog Tryd.f4 (OpenSpec.ofChange Rows.topApartSpec) false w args)
      (Rows.topApartSpec.post enc Tryd.prog Tryd.f4 false true false false) := by
  refine returnsInHanded_of_change_and (C := Tryd.checked) (X := fun w _ => laidMetH Tryd.prog laidL w) (fun _ _ _ hh h => h.of_heap hh) own started (by kernel_rfl) Tryd.func4
    (ChangeSpec.witness_shaped (enc := enc) (C := Tryd.checked) (os := os) (X := fun w _ => laidMetH Tryd.prog laidL w) false (World.doorLaid Tryd.prog doorN os) #[.slice none 0 0] 8 rfl (World.shaped_of_RefB (by kernel_rfl) (by kernel_rfl)) (by kernel_rfl) (by kernel_rfl) (by kernel_rfl) (door_met os _)) ?_
  intro W base args ds gs before hval0 hW hcnd hsz0 _ _
  have hval : ∀ (j : Nat) t v, Tryd.f4.params[j]? = some t → args[j]? = some v → Value.okWide Tryd.prog W .any base t v := hval0
  have hsz : (DataW.weightsEach Tryd.prog (Tryd.f4.params.toList ++ Rows.topApartSpec.plain.varTypes Tryd.prog) (ds ++ gs)).all (· ≤ reachBytes) = true := hsz0
  clear hsz0
  have hW' := hW
  obtain ⟨p, q, hA0, hV, rfl, hfz, hnd⟩ := hW
  have hA : DataW.TrodAll enc Tryd.prog W 0 (fun _ => true) true Tryd.f4.params.toList args.toList ds p := hA0
  rw [Tryd.params4] at hA hval hsz
  obtain ⟨v0, vs0, d0, ds0, p0, q0, hargs, rfl, rfl, h0, r0⟩ := trodAll_cons hA
  obtain ⟨rfl, rfl, rfl⟩ := trodAll_nil r0
  obtain rfl : args = #[v0] := by cases args; simp_all
  obtain ⟨rfl, rfl⟩ := trodVars_none hV
  have k0 := h0
  have lt0 : ∀ x ∈ p0, x.block < W.heap.size := by obtain ⟨m, hm⟩ := k0; exact DataW.trod_lt m _ _ _ hm
  obtain ⟨A0, n0, c0, l0, rfl, ok0⟩ := open_raws_arg (hval 0 22 v0 rfl rfl) h0 (weights_of hsz (j := 0) rfl rfl)
  clear hA0 hval0 hsz
  refine (topApart_walk l0 A0 n0 c0 W ok0).mono fun e W' ⟨he, bel⟩ => ?_
  subst he
  exact ⟨_, rfl, _, _, _, [], _, [], hW', trodAll_mk1 (shut_bool Tryd.underlying4 _), (trodAll_cons_mk (Below.trod laidOut (by kernel_rfl) (of_decide_eq_true (by kernel_rfl)) k0 bel lt0) trodAll_mk0), rfl, bel.frame _, fun h => by cases h⟩

theorem topApart_holds : Rows.TopApartSaid :=
  OpenClaim.holds_of_wide 4 Tryd.f4 rfl rfl rfl rfl rfl rfl rfl ⟨rfl, rfl, rfl, rfl, rfl⟩ rfl rfl rfl rfl rfl (by kernel_rfl) Tryd.func4 (by kernel_rfl)
    (of_decide_eq_true (by kernel_rfl)) (by unfold Func.isWrapper; first | (rw [if_pos (by decide +kernel)]; kernel_rfl) | (rw [if_neg (by decide +kernel)]; exact ⟨rfl, rfl⟩))
    (fun os started H enc _ => topApart_lifted os started H enc)
theorem topApart_card_holds : Rows.TopApartCardSaid :=
  Claim7.holds_tied_plain_at .later [] [.data, .data, .data] true (true, "408a8ce1783b3f371d5a906d1e497bd87da8ef5d1be0aa8240e9363c79b6edc6") false
    topApart_holds (fun _ h => by cases h) (by kernel_rfl) (fun _ h => by cases h) topApart_row_tie rfl ⟨rfl, rfl⟩ (by kernel_rfl) rfl
    (fun f fn hf hfn => by
      obtain rfl : f = 4 := Option.some.inj ((show Tryd.prog.funcNamed "rickyard/rickyardtop.TopApart" = some 4 by kernel_rfl).symm.trans hf) |>.symm
      obtain rfl : fn = Tryd.f4 := (Option.some.inj (Tryd.func4.symm.trans hfn)).symm
      exact ⟨by kernel_rfl, fun j t ht => by
        rw [Tryd.params4] at ht
        have hm : t ∈ ([22] : List TypeId) := by simpa using Array.mem_of_getElem? ht
        have hall : (([22] : List TypeId).all fun u => !Tryd.prog.wantsStandIn u) = true := by kernel_rfl
        exact (show Tryd.prog.wantsStandIn t = false by simpa using List.all_eq_true.1 hall t hm)⟩)
    (by kernel_rfl)
#print axioms topApart_card_holds
end Go.Proofs.YtniomgngiiiklaaDoor
