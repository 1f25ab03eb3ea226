/- TopTimes: times are unique and strictly increasing: the law's walk, then its row and its card. Conditions: none. -/
import Derived.Test.YtniomgngiiiklacDoorTopRun
import Derived.Test.YtniomgngiiiklacDoorActsW
import Derived.Test.YtniomgngiiiklacDoorAnsOk
import Derived.Test.YtniomgngiiiklacDoorDoor
import Derived.LoopTactic
namespace Go.Proofs.YtniomgngiiiklacDoor
open Go.RowKit

theorem acts_run (l : List MRaw) (mo : Nat) (hmo : mo ≤ 400) : runM 4 (actsK ((4 : Nat) : Int) mo l) = (ansFrom (startW 4) (actsK ((4 : Nat) : Int) mo l), (actsK ((4 : Nat) : Int) mo l).foldl stepW (startW 4)) :=
  run_ok (n := 4) (by decide) (by rw [actsK_length]; omega) (actsK_ok (n := 4) (by decide))
theorem acts_len (l : List MRaw) (mo : Nat) : (actsK ((4 : Nat) : Int) mo l).length ≤ mo := by rw [actsK_length]; omega
theorem lastTime_le : ∀ {l : List MAns} {t c : Int}, lastTime t l = some c → t ≤ c
  | [], t, c, h => by
    have : t = c := by injection h
    omega
  | x :: l, t, c, h => by
    unfold lastTime at h
    split at h
    · exact lastTime_le h
    · split at h
      · have := lastTime_le h; omega
      · cases h
theorem drop_get {α : Type} {l : List α} {k : Nat} {x : α} (h : l[k]? = some x) : l.drop k = x :: l.drop (k + 1) := by
  obtain ⟨hk, rfl⟩ := List.getElem?_eq_some_iff.1 h
  exact List.drop_eq_getElem_cons hk
theorem lastTime_next {l : List MAns} {k : Nat} {x : MAns} {t c : Int} (h : lastTime t (l.drop k) = some c) (hx : l[k]? = some x) : (x.time = 0 ∧ lastTime t (l.drop (k + 1)) = some c) ∨ (x.time ≠ 0 ∧ x.time = t + 1 ∧ lastTime x.time (l.drop (k + 1)) = some c) := by
  rw [drop_get hx] at h
  unfold lastTime at h
  by_cases h0 : x.time = 0
  · rw [if_pos h0] at h; exact .inl ⟨h0, h⟩
  · rw [if_neg h0] at h
    by_cases h1 : x.time = t + 1
    · rw [if_pos h1] at h; exact .inr ⟨h0, h1, h⟩
    · rw [if_neg h1] at h; cases h

set_option maxRecDepth 100000 in
set_option maxHeartbeats 4000000 in
theorem topTimes_walk (l : List MRaw) (A : Option Addr) (n c : Nat) (w : World) (h : RawsOk w w.heap.size A n c l) :
    Calls Tryd.prog 5 #[.slice A n c] w fun e w' => e = .returned (.bool true) ∧ Below w.heap.size w w' := by
  have HR := Lib.hid h
  clear h
  obtain ⟨acts, has⟩ : ∃ acts, acts = actsK ((4 : Nat) : Int) 90 l := ⟨_, rfl⟩
  have HLEN : Hid (acts.length ≤ 90) := by show _ ≤ _; rw [has]; exact acts_len l 90
  have HRUN : Hid (runM 4 acts = (ansFrom (startW 4) acts, acts.foldl stepW (startW 4))) := by show _ = _; rw [has]; exact acts_run l 90 (by decide)
  have hok : ∀ a ∈ acts, ActOk 4 a := by rw [has]; exact actsK_ok (n := 4) (by decide)
  have HTM := Lib.hid (times_plain (n := 4) (by decide) (by have := HLEN.out; omega) hok)
  have HFIT := Lib.hid (fit_end (n := 4) (by decide) (by have := HLEN.out; omega) hok)
  have HAS := Lib.hid has
  clear has hok
  go_enter Tryd.func5, Tryd.ntmps5
  go_wp2_with fail
  refine (keepActs_any l 90 4 A n c w HR.out (by decide) (by decide) (by decide)).mono ?_
  rintro e w1 ⟨A1, m1, c1, rfl, ho, hb⟩
  rw [← HAS.out] at ho
  have hm1 := len_of_cells (f := MAct.cells) (s := 4) (fun _ => rfl) (by decide) ho
  have HA1 := Lib.hid (ActsOk.of_own ho)
  have HL1 := Lib.hid hb
  have hm1' : m1 ≤ 400 := by have := HLEN.out; omega
  have HM1 := Lib.hid hm1'
  clear ho hb hm1 hm1'
  go_wp2_with fail
  refine (topRun_any acts A1 m1 c1 w1 HA1.out HM1.out).mono ?_
  rintro e w2 hr
  rw [HRUN.out] at hr
  obtain ⟨A2, k2, c2, B1, n1, e1, hs, B2, n2, e2, hs', rfl, ho, hor, hoc, hb⟩ := hr
  dsimp only at ho
  dsimp only
  have hxl : (ansFrom (startW 4) acts).length ≤ 90 := by rw [length_ansFrom]; exact HLEN.out
  generalize acts.foldl stepW (startW 4) = M at hor HTM HFIT ⊢
  generalize ansFrom (startW 4) acts = X at ho HTM hxl
  have HL2 := Lib.hid (HL1.out.trans (hb.mono HL1.out.size))
  have HX := Lib.hid (AnsOk.of_own ho)
  have HCK := Lib.hid HFIT.out.good.clock
  have hk2 : k2 ≤ 90 := by
    have := len_of_cells (f := MAns.cells) (s := 5) (fun _ => rfl) (by decide) ho
    omega
  clear ho hor hoc hb HL1 HA1 HM1 HRUN HFIT
  go_upto_region 2 with (fail)
  obtain ⟨v, hv⟩ : ∃ v, v = w2.alloc (.cells #[.slice B1 n1 e1, .int .i64 M.clock, .slice B2 n2 e2] 29) := ⟨_, rfl⟩
  obtain ⟨g4, hg4⟩ : ∃ g4, g4 = w2.heap.size := ⟨_, rfl⟩
  rw [← hv, ← hg4]
  have HB4 : Hid (v.heap[g4]? = some (.cells #[.slice B1 n1 e1, .int .i64 M.clock, .slice B2 n2 e2] 29 (0, 0))) := by show _ = _; rw [hv, hg4]; exact blk_new w2 _ _
  have HLv : Hid (Below w.heap.size w v) := by show Below _ _ _; rw [hv]; exact HL2.out.alloc HL2.out.size _
  have HXv : Hid (AnsOk v v.heap.size A2 k2 X) := by
    have hb2 : Below w2.heap.size w2 v := by rw [hv]; exact (Below.refl _ w2).alloc (Nat.le_refl _) _
    exact (HX.out.below hb2 (Nat.le_refl _)).more hb2.size
  clear hv hg4 HL2 HX
  go_wp2_with fail
  go_loopw [6, 18] (fun la i wr => (∃ j : Nat, j ≤ k2 ∧ i = .int .i64 j ∧ ∃ t : Int, 0 ≤ t ∧ la = .int .i64 t ∧ lastTime t (X.drop j) = some M.clock) ∧ Below v.heap.size v wr) (fun _ i _ => k2 - (intOf i).toNat)
  case atStart => exact ⟨⟨0, Nat.zero_le _, rfl, 0, Int.le_refl _, rfl, HTM.out⟩, Below.refl _ _⟩
  case round =>
    obtain ⟨⟨j, hj, rfl, t, ht0, rfl, ht⟩, hbel⟩ := hrel
    have HT := Lib.hid ht
    have HL := Lib.hid hbel
    have htc := lastTime_le ht
    have hcc := HCK.out
    clear ht hbel
    have hzw := HL.out.size
    by_cases hlt : j < k2
    · obtain ⟨x, b, off, hx, rfl, hbb, q0, q1, q2, q3, q4⟩ := AnsOk.ans (HXv.out.below HL.out (Nat.le_refl _)) hlt
      have hd1 : decide ((j : Int) < (k2 : Int)) = true := decide_eq_true (by omega)
      rcases lastTime_next HT.out hx with ⟨h0, h1⟩ | ⟨h0, h1, h2⟩
      · have H1 := Lib.hid h1
        rw [h0] at q4
        clear h0 h1 hx
        go_wp2_with fail
        go_roundw
        case rel => exact ⟨⟨j + 1, by omega, by go_num, t, ht0, rfl, H1.out⟩, HL.out.alloc hzw _⟩
        case measure => simp [intOf]; omega
      · have H2 := Lib.hid h2
        have hle := lastTime_le h2
        have hb1 : (x.time != 0) = true := by simpa using h0
        have hb2 : (x.time != t + 1) = false := by simpa using h1
        have hx0 : 0 ≤ x.time := by omega
        clear h0 h1 h2 hx
        go_wp2_with fail
        go_roundw
        case rel => exact ⟨⟨j + 1, by omega, by go_num, x.time, hx0, rfl, H2.out⟩, HL.out.alloc hzw _⟩
        case measure => simp [intOf]; omega
    · have hjk : j = k2 := by omega
      have hdr : X.drop j = [] := List.drop_of_length_le (by rw [HXv.out.len]; omega)
      have hte : t = M.clock := by
        have := HT.out
        rw [hdr] at this
        exact Option.some.inj this
      have hee : (t == M.clock) = true := by simpa using hte
      have hd1 : decide ((j : Int) < (k2 : Int)) = false := decide_eq_false (by omega)
      have HB4r := Lib.hid ((HL.out.block _ (blk_lt HB4.out)).trans HB4.out)
      obtain ⟨hc4, hf4⟩ := blk_read HB4r.out
      clear hdr hte hjk
      go_wp2_with fail
      go_ret
      exact ⟨rfl, HLv.out.trans (HL.out.mono HLv.out.size)⟩
open Go.ChangeShapes Go.WideShapes Go.ChangeAt
open Go.ChangeMaps (open_string shut_string)
set_option maxRecDepth 100000 in
theorem topTimes_lifted (os : Os) (started : os.Started) (H : Type) (enc : TypeId × Value → H) :
    ReturnsInHanded {} Tryd.checked os 5 .any (fun w args => (Rows.topTimesSpec.pre enc Tryd.prog Tryd.f5 [] false w args ∧ laidMetH Tryd.prog laidL w) ∧ sizedMet enc Tryd.prog Tryd.f5 (OpenSpec.ofChange Rows.topTimesSpec) false w args)
      (Rows.topTimesSpec.post enc Tryd.prog Tryd.f5 false true false false) := by
  refine returnsInHanded_of_change_and (C := Tryd.checked) (X := fun w _ => laidMetH Tryd.prog laidL w) (fun _ _ _ hh h => h.of_heap hh) own started (by kernel_rfl) Tryd.func5
    (ChangeSpec.witness_shaped (enc := enc) (C := Tryd.checked) (os := os) (X := fun w _ => laidMetH Tryd.prog laidL w) false (World.doorLaid Tryd.prog doorN os) #[.slice none 0 0] 8 rfl (World.shaped_of_RefB (by kernel_rfl) (by kernel_rfl)) (by kernel_rfl) (by kernel_rfl) (by kernel_rfl) (door_met os _)) ?_
  intro W base args ds gs before hval0 hW hcnd hsz0 _ _
  have hval : ∀ (j : Nat) t v, Tryd.f5.params[j]? = some t → args[j]? = some v → Value.okWide Tryd.prog W .any base t v := hval0
  have hsz : (DataW.weightsEach Tryd.prog (Tryd.f5.params.toList ++ Rows.topTimesSpec.plain.varTypes Tryd.prog) (ds ++ gs)).all (· ≤ reachBytes) = true := hsz0
  clear hsz0
  have hW' := hW
  obtain ⟨p, q, hA0, hV, rfl, hfz, hnd⟩ := hW
  have hA : DataW.TrodAll enc Tryd.prog W 0 (fun _ => true) true Tryd.f5.params.toList args.toList ds p := hA0
  rw [Tryd.params5] at hA hval hsz
  obtain ⟨v0, vs0, d0, ds0, p0, q0, hargs, rfl, rfl, h0, r0⟩ := trodAll_cons hA
  obtain ⟨rfl, rfl, rfl⟩ := trodAll_nil r0
  obtain rfl : args = #[v0] := by cases args; simp_all
  obtain ⟨rfl, rfl⟩ := trodVars_none hV
  have k0 := h0
  have lt0 : ∀ x ∈ p0, x.block < W.heap.size := by obtain ⟨m, hm⟩ := k0; exact DataW.trod_lt m _ _ _ hm
  obtain ⟨A0, n0, c0, l0, rfl, ok0⟩ := open_raws_arg (hval 0 22 v0 rfl rfl) h0 (weights_of hsz (j := 0) rfl rfl)
  clear hA0 hval0 hsz
  refine (topTimes_walk l0 A0 n0 c0 W ok0).mono fun e W' ⟨he, bel⟩ => ?_
  subst he
  exact ⟨_, rfl, _, _, _, [], _, [], hW', trodAll_mk1 (shut_bool Tryd.underlying4 _), (trodAll_cons_mk (Below.trod laidOut (by kernel_rfl) (of_decide_eq_true (by kernel_rfl)) k0 bel lt0) trodAll_mk0), rfl, bel.frame _, fun h => by cases h⟩

theorem topTimes_holds : Rows.TopTimesSaid :=
  OpenClaim.holds_of_wide 5 Tryd.f5 rfl rfl rfl rfl rfl rfl rfl ⟨rfl, rfl, rfl, rfl, rfl⟩ rfl rfl rfl rfl rfl (by kernel_rfl) Tryd.func5 (by kernel_rfl)
    (of_decide_eq_true (by kernel_rfl)) (by unfold Func.isWrapper; first | (rw [if_pos (by decide +kernel)]; kernel_rfl) | (rw [if_neg (by decide +kernel)]; exact ⟨rfl, rfl⟩))
    (fun os started H enc _ => topTimes_lifted os started H enc)
theorem topTimes_card_holds : Rows.TopTimesCardSaid :=
  Claim7.holds_tied_plain_at .later [] [.data, .data, .data] true (true, "c12c5c7f87fa9a1ad9522a513abd18e9f0a83ef0e85763ce862b44389c9b7365") false
    topTimes_holds (fun _ h => by cases h) (by kernel_rfl) (fun _ h => by cases h) topTimes_row_tie rfl ⟨rfl, rfl⟩ (by kernel_rfl) rfl
    (fun f fn hf hfn => by
      obtain rfl : f = 5 := Option.some.inj ((show Tryd.prog.funcNamed "rickyard/rickyardtop.TopTimes" = some 5 by kernel_rfl).symm.trans hf) |>.symm
      obtain rfl : fn = Tryd.f5 := (Option.some.inj (Tryd.func5.symm.trans hfn)).symm
      exact ⟨by kernel_rfl, fun j t ht => by
        rw [Tryd.params5] at ht
        have hm : t ∈ ([22] : List TypeId) := by simpa using Array.mem_of_getElem? ht
        have hall : (([22] : List TypeId).all fun u => !Tryd.prog.wantsStandIn u) = true := by kernel_rfl
        exact (show Tryd.prog.wantsStandIn t = false by simpa using List.all_eq_true.1 hall t hm)⟩)
    (by kernel_rfl)
#print axioms topTimes_card_holds
end Go.Proofs.YtniomgngiiiklacDoor
