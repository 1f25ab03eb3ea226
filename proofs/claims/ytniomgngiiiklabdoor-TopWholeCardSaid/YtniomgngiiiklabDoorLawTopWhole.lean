/- TopWhole: a transaction is committed in all its rows or in none: the law's walk, then its row and its card. Conditions: none. -/
import Derived.Test.YtniomgngiiiklabDoorTopRun
import Derived.Test.YtniomgngiiiklabDoorActsW
import Derived.Test.YtniomgngiiiklabDoorDoor
import Derived.Maps.OwnSet
import Derived.LoopTactic
namespace Go.Proofs.YtniomgngiiiklabDoor
open Go.RowKit Go.Maps

/-- The map tells of each key the commit of a record. -/
def TimesTold (D : DataW Unit) (l : List MRow) : Prop := ∀ s : Int, Maps.has D (.int .i64 s) = true → ∃ r ∈ l, ∃ x ∈ r.recs, x.start = s ∧ ∀ z, D.atKey (.int .i64 s) z = .lit (.int .i64 x.commit)
theorem timesTold_nil (l : List MRow) : TimesTold (.map []) l := fun s h => by cases h
theorem TimesTold.put {D : DataW Unit} {l : List MRow} {r : MRow} {x : MRec} (h : TimesTold D l) (hm : IsMap D) (hr : r ∈ l) (hx : x ∈ r.recs) : TimesTold (D.put (.int .i64 x.start) (.lit (.int .i64 x.commit))) l := by
  intro s hs
  by_cases e : x.start = s
  · subst e
    exact ⟨r, hr, x, hx, rfl, fun z => atKey_put_same hm (by trivial) _ _⟩
  · have hne : (Lit.int .i64 s) ≠ .int .i64 x.start := fun e' => e (by injection e' with _ e'; exact e'.symm)
    rw [has_put_other hne] at hs
    obtain ⟨r', hr', x', hx', e1, e2⟩ := h s hs
    exact ⟨r', hr', x', hx', e1, fun z => by rw [atKey_put_other hne]; exact e2 z⟩
theorem told_same {D : DataW Unit} {l : List MRow} {r : MRow} {x : MRec} {cc : Int} (hw : ∀ r ∈ l, ∀ x ∈ r.recs, ∀ r' ∈ l, ∀ x' ∈ r'.recs, x.start = x'.start → x.commit = x'.commit) (ht : TimesTold D l) (hh : Maps.has D (.int .i64 x.start) = true) (hr : r ∈ l) (hx : x ∈ r.recs)
    (hat : D.atKey (.int .i64 x.start) (.lit (.int .i64 0)) = .lit (.int .i64 cc)) : (cc != x.commit) = false := by
  obtain ⟨r', hr', x', hx', e1, e2⟩ := ht _ hh
  rw [e2] at hat
  injection hat with hat
  injection hat with _ hat
  have := hw r' hr' x' hx' r hr x hx e1
  rw [← hat, this]
  simp
theorem law_int : Keyed Tryd.prog 3 := int_keyed Tryd.underlying3
theorem zero_int (w : World) : (zeroValue 3).run Tryd.prog w = .ok (.int .i64 0) w := by kernel_rfl
theorem acts_run (l : List MRaw) (mo : Nat) (hmo : mo ≤ 400) : runM 4 (actsK ((4 : Nat) : Int) mo l) = (ansFrom (startW 4) (actsK ((4 : Nat) : Int) mo l), (actsK ((4 : Nat) : Int) mo l).foldl stepW (startW 4)) :=
  run_ok (n := 4) (by decide) (by rw [actsK_length]; omega) (actsK_ok (n := 4) (by decide))
theorem acts_len (l : List MRaw) (mo : Nat) : (actsK ((4 : Nat) : Int) mo l).length ≤ mo := by rw [actsK_length]; omega

set_option maxRecDepth 100000 in
set_option maxHeartbeats 4000000 in
theorem topWhole_walk (l : List MRaw) (A : Option Addr) (n c : Nat) (w : World) (h : RawsOk w w.heap.size A n c l) :
    Calls Tryd.prog 4 #[.slice A n c] w fun e w' => e = .returned (.bool true) ∧ Below w.heap.size w w' := by
  have hmm := @run_makeMap Tryd.prog
  have HMK := Lib.hid hmm
  clear hmm
  have HR := Lib.hid h
  clear h
  obtain ⟨acts, has⟩ : ∃ acts, acts = actsK ((4 : Nat) : Int) 90 l := ⟨_, rfl⟩
  have HLEN : Hid (acts.length ≤ 90) := by show _ ≤ _; rw [has]; exact acts_len l 90
  have HRUN : Hid (runM 4 acts = (ansFrom (startW 4) acts, acts.foldl stepW (startW 4))) := by show _ = _; rw [has]; exact acts_run l 90 (by decide)
  have hok : ∀ a ∈ acts, ActOk 4 a := by rw [has]; exact actsK_ok (n := 4) (by decide)
  have HWH := Lib.hid (whole_plain (n := 4) (by decide) (by have := HLEN.out; omega) hok)
  have HFIT := Lib.hid (fit_end (n := 4) (by decide) (by have := HLEN.out; omega) hok)
  have HAS := Lib.hid has
  clear has hok
  go_enter Tryd.func4, Tryd.ntmps4
  go_wp2_with fail
  refine (keepActs_any l 90 4 A n c w HR.out (by decide) (by decide) (by decide)).mono ?_
  rintro e w1 ⟨A1, m1, c1, rfl, ho, hb⟩
  rw [← HAS.out] at ho
  have hm1 := len_of_cells (f := MAct.cells) (s := 4) (fun _ => rfl) (by decide) ho
  have HA1 := Lib.hid (ActsOk.of_own ho)
  have HL1 := Lib.hid hb
  have hm1' : m1 ≤ 400 := by have := HLEN.out; omega
  have HM1 := Lib.hid hm1'
  clear ho hb hm1 hm1'
  go_wp2_with fail
  refine (topRun_any acts A1 m1 c1 w1 HA1.out HM1.out).mono ?_
  rintro e w2 hr
  rw [HRUN.out] at hr
  obtain ⟨A2, k2, c2, B1, n1, e1, hs, B2, n2, e2, hs', rfl, ho, hor, hoc, hb⟩ := hr
  dsimp only at hor
  dsimp only
  generalize acts.foldl stepW (startW 4) = M at hor HWH HFIT ⊢
  have HL2 := Lib.hid (HL1.out.trans (hb.mono HL1.out.size))
  have HRO := Lib.hid (hor.ok HFIT.out.good.sized.1)
  clear ho hor hoc hb HL1 HA1 HM1 HRUN
  go_upto_region 2 with (fail)
  obtain ⟨v, hv⟩ : ∃ v, v = w2.alloc (.cells #[.slice B1 n1 e1, .int .i64 M.clock, .slice B2 n2 e2] 37) := ⟨_, rfl⟩
  obtain ⟨g4, hg4⟩ : ∃ g4, g4 = w2.heap.size := ⟨_, rfl⟩
  rw [← hv, ← hg4]
  have HB4 : Hid (v.heap[g4]? = some (.cells #[.slice B1 n1 e1, .int .i64 M.clock, .slice B2 n2 e2] 37 (0, 0))) := by show _ = _; rw [hv, hg4]; exact blk_new w2 _ _
  have HLv : Hid (Below w.heap.size w v) := by show Below _ _ _; rw [hv]; exact HL2.out.alloc HL2.out.size _
  have HRv : Hid (RowsOk v v.heap.size B1 n1 e1 M.rows) := by
    have hb2 : Below w2.heap.size w2 v := by rw [hv]; exact (Below.refl _ w2).alloc (Nat.le_refl _) _
    exact (HRO.out.below hb2 (Nat.le_refl _)).more hb2.size
  clear hv hg4 HL2 HRO
  have hmm := HMK.out
  go_upto_region 3 with (fail)
  clear hmm
  obtain ⟨vm, hvm⟩ : ∃ vm, vm = v.alloc (.map #[] 0) := ⟨_, rfl⟩
  obtain ⟨gm, hgm⟩ : ∃ gm, gm = v.heap.size := ⟨_, rfl⟩
  rw [← hvm, ← hgm]
  have HOM : Hid (vm.ownsMap Tryd.prog 3 (plainElem Tryd.prog 3) gm 0 (.map [] : DataW Unit)) := by show World.ownsMap _ _ _ _ _ _ _; rw [hvm, hgm]; exact World.ownsMap_made v _ _ _
  have HBm : Hid (Below gm v vm) := by show Below _ _ _; rw [hvm, hgm]; exact (Below.refl _ v).alloc (Nat.le_refl _) _
  have HGM : Hid (gm = v.heap.size) := hgm
  have HB4m : Hid (vm.heap[g4]? = some (.cells #[.slice B1 n1 e1, .int .i64 M.clock, .slice B2 n2 e2] 37 (0, 0))) := by show _ = _; rw [hvm]; exact blk_old HB4.out _
  clear hvm hgm
  obtain ⟨hc4, hf4⟩ := blk_read HB4m.out
  have HN1 := Lib.hid HRv.out.len
  have hn40 : n1 ≤ 40 := by rw [← HN1.out]; exact HFIT.out.good.rows.len
  go_wp2_with fail
  clear hc4 hf4
  go_loopw [24] (fun i wr => (∃ k : Nat, k ≤ n1 ∧ i = .int .i64 k ∧ ∃ (N : Nat) (D : DataW Unit), wr.ownsMap Tryd.prog 3 (plainElem Tryd.prog 3) gm N D ∧ N ≤ k * 100 ∧ TimesTold D M.rows) ∧ Below gm v wr) (fun i _ => n1 - (intOf i).toNat)
  case atStart => exact ⟨⟨0, Nat.zero_le _, rfl, 0, _, HOM.out, Nat.le_refl _, timesTold_nil _⟩, HBm.out⟩
  case round =>
    obtain ⟨⟨k, hk, rfl, N, D, hown, hN, htold⟩, hbel⟩ := hrel
    have HO := Lib.hid hown
    have HT := Lib.hid htold
    have HL := Lib.hid hbel
    clear hown htold hbel HOM HBm HB4m HB4
    have hzw := HL.out.size
    by_cases hlt : k < n1
    · obtain ⟨r, b, off, A3, n3, c3, hr, rfl, hbb, hok, g0, g1, g2, g3, g4'⟩ := (HRv.out.below HL.out (by rw [HGM.out]; exact Nat.le_refl _)).row hlt
      have hrm := List.mem_of_getElem? hr
      have HRM := Lib.hid hrm
      have HRG := Lib.hid (HFIT.out.good.rows.each r hrm).1
      have HOK := Lib.hid hok
      have HN3 := Lib.hid hok.recs.at_.1
      have hn3 : n3 ≤ 100 := by rw [← HN3.out]; exact HRG.out.len
      have hd1 : decide ((k : Int) < (n1 : Int)) = true := decide_eq_true (by omega)
      clear hr hrm hok
      go_wp2_with fail
      obtain ⟨vr, hvr⟩ : ∃ vr, vr = wr.alloc (.cells #[.string r.key, .int .i64 r.ls, .string r.lp, .string r.value, .slice A3 n3 c3] 27) := ⟨_, rfl⟩
      obtain ⟨g8, hg8⟩ : ∃ g8, g8 = wr.heap.size := ⟨_, rfl⟩
      rw [← hvr, ← hg8]
      have HLr : Hid (Below gm v vr) := by show Below _ _ _; rw [hvr]; exact HL.out.alloc (by rw [HGM.out]; exact hzw) _
      have HOr : Hid (vr.ownsMap Tryd.prog 3 (plainElem Tryd.prog 3) gm N D) := by show World.ownsMap _ _ _ _ _ _ _; rw [hvr]; exact HO.out.alloc _
      have HOKr : Hid (RecsAt v v.heap.size A3 n3 r.recs) := HOK.out.recs.at_.keep (fun p hp => (HL.out.cell (p := p) (by rw [HGM.out]; exact hp)).symm)
      clear hvr hg8 g0 g1 g2 g3 g4' HO HL
      go_loopw [31] (fun i wr => (∃ j : Nat, j ≤ n3 ∧ i = .int .i64 j ∧ ∃ (N' : Nat) (D : DataW Unit), wr.ownsMap Tryd.prog 3 (plainElem Tryd.prog 3) gm N' D ∧ N' ≤ k * 100 + j ∧ TimesTold D M.rows) ∧ Below gm v wr) (fun i _ => n3 - (intOf i).toNat)
      case atStart => exact ⟨⟨0, Nat.zero_le _, rfl, N, D, HOr.out, by omega, HT.out⟩, HLr.out⟩
      case round =>
        obtain ⟨⟨j, hj, rfl, N', D', hown, hN', htold⟩, hbel⟩ := hrel
        have HO := Lib.hid hown
        have HT' := Lib.hid htold
        have HL := Lib.hid hbel
        clear hown htold hbel HOr HLr
        have hzr := HL.out.size
        by_cases hjl : j < n3
        · obtain ⟨x, b3, off3, hx, rfl, hb3, q0, q1, q2⟩ := (HOKr.out.below HL.out (by rw [HGM.out]; exact Nat.le_refl _)).at_ hjl
          have HXM := Lib.hid (List.mem_of_getElem? hx)
          have hxg := HRG.out.recs.each x HXM.out
          have hws : (Lit.int .i64 x.start).wf = true := WalkArith.wf_i64 (by have := hxg.1; have := hxg.2.1; omega)
          have hwc : (Lit.int .i64 x.commit).wf = true := WalkArith.wf_i64 (by
            by_cases h0 : x.commit = 0
            · omega
            · have := (hxg.2.2.2.2 h0).1; have := (hxg.2.2.2.2 h0).2; have := hxg.1; omega)
          have HWS := Lib.hid hws
          have HWC := Lib.hid hwc
          have hd2 : decide ((j : Int) < (n3 : Int)) = true := decide_eq_true (by omega)
          clear hx hxg hws hwc
          go_upto_region 9 with (fail)
          obtain ⟨vx, hvx⟩ : ∃ vx, vx = wr.alloc (.cells #[.int .i64 x.start, .int .i64 x.commit, .string x.value] 44) := ⟨_, rfl⟩
          obtain ⟨g10, hg10⟩ : ∃ g10, g10 = wr.heap.size := ⟨_, rfl⟩
          rw [← hvx, ← hg10]
          have HLx : Hid (Below gm v vx) := by show Below _ _ _; rw [hvx]; exact HL.out.alloc (by rw [HGM.out]; exact hzr) _
          have hox : vx.ownsMap Tryd.prog 3 (plainElem Tryd.prog 3) gm N' D' := by rw [hvx]; exact HO.out.alloc _
          have HBx : Hid (vx.heap[g10]? = some (.cells #[.int .i64 x.start, .int .i64 x.commit, .string x.value] 44 (0, 0))) := by show _ = _; rw [hvx, hg10]; exact blk_new wr _ _
          clear hvx hg10 q0 q1 q2 HO HL
          obtain ⟨hc10, hf10⟩ := blk_read HBx.out
          by_cases hh : Maps.has D' (.int .i64 x.start) = true
          · go_wp2_with (first
              | (at_lookup; refine wpList_lookup_own_ok_int _ rfl _ _ 42 rfl 3 3 .i64 law_int Tryd.underlying42 Tryd.underlying3 (zero_int _) gm N' D' rfl hox _ _ rfl (keyOf_int_mk Tryd.underlying3 HWS.out) ?_; intro cc hat hwc'; have hcc := told_same HWH.out HT'.out hh HRM.out HXM.out hat)
              | (at_mapUpdate; refine wpList_mapUpdate_own _ rfl _ _ _ 42 rfl 3 3 law_int Tryd.underlying42 _ gm N' _ rfl hox (by unfold maxLen; omega) _ _ _ rfl rfl (keyOf_int_mk Tryd.underlying3 HWS.out) _ [] (plainElem_int Tryd.underlying3 HWC.out) ?_; intro w5 hox5 hg5)
              | fail)
            have hbm := HLx.out.grown hg5 (by have := HLx.out.size; rw [HGM.out]; omega) (fun b hb => by injection hb with hb; omega)
            go_roundw
            case rel => exact ⟨⟨j + 1, by omega, by go_num, _, _, hox5, by omega, HT'.out.put hox.isMap HRM.out HXM.out⟩, hbm⟩
            case measure => simp [intOf]; omega
          · have hh' : Maps.has D' (.int .i64 x.start) = false := by simpa using hh
            clear hh
            go_wp2_with (first
              | (at_lookup; refine wpList_lookup_own_ok_int _ rfl _ _ 42 rfl 3 3 .i64 law_int Tryd.underlying42 Tryd.underlying3 (zero_int _) gm N' D' rfl hox _ _ rfl (keyOf_int_mk Tryd.underlying3 HWS.out) ?_; intro cc hat hwc')
              | (at_mapUpdate; refine wpList_mapUpdate_own _ rfl _ _ _ 42 rfl 3 3 law_int Tryd.underlying42 _ gm N' _ rfl hox (by unfold maxLen; omega) _ _ _ rfl rfl (keyOf_int_mk Tryd.underlying3 HWS.out) _ [] (plainElem_int Tryd.underlying3 HWC.out) ?_; intro w5 hox5 hg5)
              | fail)
            have hbm := HLx.out.grown hg5 (by have := HLx.out.size; rw [HGM.out]; omega) (fun b hb => by injection hb with hb; omega)
            go_roundw
            case rel => exact ⟨⟨j + 1, by omega, by go_num, _, _, hox5, by omega, HT'.out.put hox.isMap HRM.out HXM.out⟩, hbm⟩
            case measure => simp [intOf]; omega
        · have hd2 : decide ((j : Int) < (n3 : Int)) = false := decide_eq_false (by omega)
          go_wp2_with fail
          go_roundw
          case rel => exact ⟨⟨k + 1, by omega, by go_num, N', D', HO.out, by omega, HT'.out⟩, HL.out⟩
          case measure => simp [intOf]; omega
    · go_wp2_with fail
      go_ret
      exact ⟨rfl, HLv.out.trans (HL.out.mono (by have := HLv.out.size; rw [HGM.out]; exact this))⟩
open Go.ChangeShapes Go.WideShapes Go.ChangeAt
open Go.ChangeMaps (open_string shut_string)
set_option maxRecDepth 100000 in
theorem topWhole_lifted (os : Os) (started : os.Started) (H : Type) (enc : TypeId × Value → H) :
    ReturnsInHanded {} Tryd.checked os 4 .any (fun w args => (Rows.topWholeSpec.pre enc Tryd.prog Tryd.f4 [] false w args ∧ laidMetH Tryd.prog laidL w) ∧ sizedMet enc Tryd.prog Tryd.f4 (OpenSpec.ofChange Rows.topWholeSpec) false w args)
      (Rows.topWholeSpec.post enc Tryd.prog Tryd.f4 false true false false) := by
  refine returnsInHanded_of_change_and (C := Tryd.checked) (X := fun w _ => laidMetH Tryd.prog laidL w) (fun _ _ _ hh h => h.of_heap hh) own started (by kernel_rfl) Tryd.func4
    (ChangeSpec.witness_shaped (enc := enc) (C := Tryd.checked) (os := os) (X := fun w _ => laidMetH Tryd.prog laidL w) false (World.doorLaid Tryd.prog doorN os) #[.slice none 0 0] 8 rfl (World.shaped_of_RefB (by kernel_rfl) (by kernel_rfl)) (by kernel_rfl) (by kernel_rfl) (by kernel_rfl) (door_met os _)) ?_
  intro W base args ds gs before hval0 hW hcnd hsz0 _ _
  have hval : ∀ (j : Nat) t v, Tryd.f4.params[j]? = some t → args[j]? = some v → Value.okWide Tryd.prog W .any base t v := hval0
  have hsz : (DataW.weightsEach Tryd.prog (Tryd.f4.params.toList ++ Rows.topWholeSpec.plain.varTypes Tryd.prog) (ds ++ gs)).all (· ≤ reachBytes) = true := hsz0
  clear hsz0
  have hW' := hW
  obtain ⟨p, q, hA0, hV, rfl, hfz, hnd⟩ := hW
  have hA : DataW.TrodAll enc Tryd.prog W 0 (fun _ => true) true Tryd.f4.params.toList args.toList ds p := hA0
  rw [Tryd.params4] at hA hval hsz
  obtain ⟨v0, vs0, d0, ds0, p0, q0, hargs, rfl, rfl, h0, r0⟩ := trodAll_cons hA
  obtain ⟨rfl, rfl, rfl⟩ := trodAll_nil r0
  obtain rfl : args = #[v0] := by cases args; simp_all
  obtain ⟨rfl, rfl⟩ := trodVars_none hV
  have k0 := h0
  have lt0 : ∀ x ∈ p0, x.block < W.heap.size := by obtain ⟨m, hm⟩ := k0; exact DataW.trod_lt m _ _ _ hm
  obtain ⟨A0, n0, c0, l0, rfl, ok0⟩ := open_raws_arg (hval 0 22 v0 rfl rfl) h0 (weights_of hsz (j := 0) rfl rfl)
  clear hA0 hval0 hsz
  refine (topWhole_walk l0 A0 n0 c0 W ok0).mono fun e W' ⟨he, bel⟩ => ?_
  subst he
  exact ⟨_, rfl, _, _, _, [], _, [], hW', trodAll_mk1 (shut_bool Tryd.underlying4 _), (trodAll_cons_mk (Below.trod laidOut (by kernel_rfl) (of_decide_eq_true (by kernel_rfl)) k0 bel lt0) trodAll_mk0), rfl, bel.frame _, fun h => by cases h⟩

theorem topWhole_holds : Rows.TopWholeSaid :=
  OpenClaim.holds_of_wide 4 Tryd.f4 rfl rfl rfl rfl rfl rfl rfl ⟨rfl, rfl, rfl, rfl, rfl⟩ rfl rfl rfl rfl rfl (by kernel_rfl) Tryd.func4 (by kernel_rfl)
    (of_decide_eq_true (by kernel_rfl)) (by unfold Func.isWrapper; first | (rw [if_pos (by decide +kernel)]; kernel_rfl) | (rw [if_neg (by decide +kernel)]; exact ⟨rfl, rfl⟩))
    (fun os started H enc _ => topWhole_lifted os started H enc)
theorem topWhole_card_holds : Rows.TopWholeCardSaid :=
  Claim7.holds_tied_plain_at .later [] [.data, .data, .data] true (true, "e44c9e840b0f46bef65dfb98f0a7588797efde6505a8a41f96fe595c4c41513d") false
    topWhole_holds (fun _ h => by cases h) (by kernel_rfl) (fun _ h => by cases h) topWhole_row_tie rfl ⟨rfl, rfl⟩ (by kernel_rfl) rfl
    (fun f fn hf hfn => by
      obtain rfl : f = 4 := Option.some.inj ((show Tryd.prog.funcNamed "rickyard/rickyardtop.TopWhole" = some 4 by kernel_rfl).symm.trans hf) |>.symm
      obtain rfl : fn = Tryd.f4 := (Option.some.inj (Tryd.func4.symm.trans hfn)).symm
      exact ⟨by kernel_rfl, fun j t ht => by
        rw [Tryd.params4] at ht
        have hm : t ∈ ([22] : List TypeId) := by simpa using Array.mem_of_getElem? ht
        have hall : (([22] : List TypeId).all fun u => !Tryd.prog.wantsStandIn u) = true := by kernel_rfl
        exact (show Tryd.prog.wantsStandIn t = false by simpa using List.all_eq_true.1 hall t hm)⟩)
    (by kernel_rfl)
#print axioms topWhole_card_holds
end Go.Proofs.YtniomgngiiiklabDoor
