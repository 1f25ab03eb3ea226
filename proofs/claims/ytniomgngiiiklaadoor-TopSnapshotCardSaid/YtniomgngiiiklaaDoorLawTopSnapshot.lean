/- TopSnapshot: a transaction reads the state at its start, and its own writes: the law's walk, then its row and its card. Conditions: none. -/
import Derived.Test.YtniomgngiiiklaaDoorTopRun
import Derived.Test.YtniomgngiiiklaaDoorActsW
import Derived.Test.YtniomgngiiiklaaDoorCommitted
import Derived.Test.YtniomgngiiiklaaDoorTopSet
import Derived.Test.YtniomgngiiiklaaDoorDoor
import Derived.Test.YtniomgngiiiklaaDoorValue
namespace Go.Proofs.YtniomgngiiiklaaDoor
open Go.RowKit Go.Maps

set_option maxRecDepth 100000 in
set_option maxHeartbeats 4000000 in
theorem topSnapshot_walk (l : List MRaw) (A : Option Addr) (n c : Nat) (w : World) (h : RawsOk w w.heap.size A n c l) :
    Calls Tryd.prog 3 #[.slice A n c] w fun e w' => e = .returned (.bool true) ∧ Below w.heap.size w w' := by
  have HR := Lib.hid h
  clear h
  obtain ⟨acts, X, M, hs⟩ := script_mk (mo := 90) (by decide) l
  have HS := Lib.hid hs
  clear hs
  have HSP : Hid (∀ j a, acts[j]? = some a → a.kind = 2 → ∃ x t, X[j]? = some x ∧ (seenT (List.replicate 4 zeroTrack) acts X)[j]? = some t ∧
      (x.code = 0 → (x.value, x.is) = match writeOf t.writes a.key with | some y => (y.value, true) | none => valueT (dealsT (List.replicate 4 zeroTrack) 0 acts X) a.key t.start j)) := by
    show ∀ j a, _ → _ → _
    intro j a hj hk
    rw [HS.out.ans]
    exact snapshot_plain (n := 4) (by decide) (by have := HS.out.len; omega) HS.out.ok hj hk
  go_enter Tryd.func3, Tryd.ntmps3
  go_wp2_with fail
  refine (keepActs_any l 90 4 A n c w HR.out (by decide) (by decide) (by decide)).mono ?_
  rintro e w1 ⟨A1, m1, c1, rfl, ho, hb⟩
  rw [← HS.out.eq] at ho
  have hm1 := len_of_cells (f := MAct.cells) (s := 4) (fun _ => rfl) (by decide) ho
  have HA1 := Lib.hid (ActsOk.of_own ho)
  have HL1 := Lib.hid hb
  have HM1 : Hid (m1 = acts.length ∧ m1 ≤ 90) := ⟨hm1, by have := HS.out.len; omega⟩
  clear ho hb hm1
  go_wp2_with fail
  refine (topRun_any acts A1 m1 c1 w1 HA1.out (by have := HM1.out; omega)).mono ?_
  rintro e w2 hr
  rw [HS.out.run] at hr
  obtain ⟨A2, k2, c2, B1, n1, e1, hs1, B2, n2, e2, hs2, rfl, ho, _, _, hb⟩ := hr
  dsimp only at ho
  dsimp only
  have hk2 : k2 = m1 := by rw [len_of_cells (f := MAns.cells) (s := 5) (fun _ => rfl) (by decide) ho, HS.out.xlen, HM1.out.1]
  subst hk2
  have HX2 := Lib.hid (AnsOk.of_own ho)
  have HA2 := Lib.hid ((HA1.out.below hb (Nat.le_refl _)).more hb.size)
  have HL2 := Lib.hid (HL1.out.trans (hb.mono HL1.out.size))
  clear ho hb HL1 HA1
  go_upto_region 5 with (fail)
  obtain ⟨v, hv⟩ : ∃ v, v = w2.alloc (.cells #[.slice B1 n1 e1, .int .i64 M.clock, .slice B2 n2 e2] 29) := ⟨_, rfl⟩
  rw [← hv]
  have hb2 : Below w2.heap.size w2 v := by rw [hv]; exact (Below.refl _ w2).alloc (Nat.le_refl _) _
  have HXv := Lib.hid ((HX2.out.below hb2 (Nat.le_refl _)).more hb2.size)
  have HAv := Lib.hid ((HA2.out.below hb2 (Nat.le_refl _)).more hb2.size)
  have HLv := Lib.hid (HL2.out.trans (hb2.mono HL2.out.size))
  clear hv hb2 HX2 HA2 HL2
  go_wp2_with fail
  refine (committed_any acts X A1 A2 k2 c1 c2 v HAv.out HXv.out (by have := HM1.out; omega) HS.out.ok HS.out.fine HS.out.size).mono ?_
  rintro e w3 ⟨A3, n3, c3, A4, n4, c4, L, S, rfl, hD, hS, hdo, hso, hle, hb⟩
  have HDO := Lib.hid hdo
  have HSO := Lib.hid hso
  have HX3 := Lib.hid ((HXv.out.below hb (Nat.le_refl _)).more hb.size)
  have HA3 := Lib.hid ((HAv.out.below hb (Nat.le_refl _)).more hb.size)
  have HL3 := Lib.hid (HLv.out.trans (hb.mono HLv.out.size))
  rw [← hD, ← hS] at HSP
  have hn4 : n4 = k2 := by rw [← hso.cells.len, ← List.length_map (f := TrackM.t), hS, HM1.out.1, HS.out.ans]; exact (deals_run (i := 0) (m := 0) (fit_start (n := 4) (by decide) acts.length (by have := HS.out.len; omega)) HS.out.ok likes_start).2.2.1
  have hn3 : n3 ≤ 100 := by
    have h1 := deals_len acts X (List.replicate 4 zeroTrack) 0
    rw [← hD, List.length_map, hdo.cells.len] at h1
    have := HS.out.len
    omega
  have HN3 := Lib.hid hn3
  subst hn4
  have hn90 := HM1.out.2
  clear hD hS hdo hso hle hb HXv HAv HLv hn3
  go_wp2_with fail
  go_loopw [33] (fun i wr => (∃ k : Nat, k ≤ n4 ∧ i = .int .i64 k) ∧ Below w3.heap.size w3 wr) (fun i _ => n4 - (intOf i).toNat)
  case atStart => exact ⟨⟨0, Nat.zero_le _, rfl⟩, Below.refl _ _⟩
  case round =>
    obtain ⟨⟨k, hk, rfl⟩, hbel⟩ := hrel
    have HL := Lib.hid hbel
    clear hbel
    have hzw := HL.out.size
    by_cases hlt : k < n4
    · obtain ⟨a, b, off, hak, rfl, hbb, g0, g1, g2, g3⟩ := (HA3.out.below HL.out (Nat.le_refl _)).act hlt
      obtain ⟨y, b', off', hyk, rfl, hbb', q0, q1, q2, q3, q4⟩ := AnsOk.ans (HX3.out.below HL.out (Nat.le_refl _)) hlt
      obtain ⟨t, b2, off2, gm, htk, rfl, hbb2, t0, t1, t2, t3, htm, hgm, hmr⟩ := (HSO.out.below HL.out (Nat.le_refl _)).track hlt
      have HAK := Lib.hid hak
      have HYK := Lib.hid hyk
      have HTK := Lib.hid htk
      have HMR := Lib.hid hmr
      have hkey := (HS.out.size a (List.mem_of_getElem? hak)).1
      have HKEY := Lib.hid hkey
      clear hak hyk htk htm hmr hkey
      go_upto_region 9 with (fail)
      obtain ⟨va, hva⟩ : ∃ va, va = wr.alloc (.cells #[.int .i64 a.kind, .int .i64 a.c, .string a.key, .string a.value] 38) := ⟨_, rfl⟩
      obtain ⟨g10, hg10⟩ : ∃ g10, g10 = wr.heap.size := ⟨_, rfl⟩
      rw [← hva, ← hg10]
      have HB10 : Hid (va.heap[g10]? = some (.cells #[.int .i64 a.kind, .int .i64 a.c, .string a.key, .string a.value] 38 (0, 0))) := by show _ = _; rw [hva, hg10]; exact blk_new wr _ _
      have hbv : Below wr.heap.size wr va := by rw [hva]; exact (Below.refl _ wr).alloc (Nat.le_refl _) _
      have HLa := Lib.hid (HL.out.trans (hbv.mono hzw))
      have HMRa := Lib.hid (HMR.out.keep (hbv.block _ HMR.out.lt))
      have e0 : ∀ i u, wr.cell? ⟨b', i, none⟩ = some u → va.cell? ⟨b', i, none⟩ = some u := fun i u hu => (hbv.cell (p := ⟨b', i, none⟩) (by show b' < _; omega)).trans hu
      have e2 : ∀ i u, wr.cell? ⟨b2, i, none⟩ = some u → va.cell? ⟨b2, i, none⟩ = some u := fun i u hu => (hbv.cell (p := ⟨b2, i, none⟩) (by show b2 < _; omega)).trans hu
      replace q0 := e0 _ _ q0
      replace q1 := e0 _ _ q1
      replace q2 := e0 _ _ q2
      replace q3 := e0 _ _ q3
      replace q4 := e0 _ _ q4
      replace t0 := e2 _ _ t0
      replace t1 := e2 _ _ t1
      replace t2 := e2 _ _ t2
      replace t3 := e2 _ _ t3
      clear hva hg10 g0 g1 g2 g3 e0 e2 hbv HMR
      obtain ⟨hc10, hf10⟩ := blk_read HB10.out
      have hza := HLa.out.size
      by_cases hkind : a.kind = 2
      · obtain ⟨y', t', h1, h2, h3⟩ := HSP.out k a HAK.out hkind
        obtain rfl : y' = y := by rw [HYK.out] at h1; injection h1 with e; exact e.symm
        obtain rfl : t' = t.t := by rw [List.getElem?_map, HTK.out] at h2; injection h2 with e; exact e.symm
        rw [hkind] at hc10
        have HKD := Lib.hid hkind
        clear h1 h2
        by_cases hcode : y'.code = 0
        · have HSN := Lib.hid (h3 hcode)
          rw [hcode] at q0
          clear h3
          have hlk := fun j : Nat => (HMRa.out.keep (w' := va.drewN j) (by simp)).look HKEY.out
          have hlo := fun j : Nat => (HMRa.out.keep (w' := va.drewN j) (by simp)).look_ok HKEY.out
          cases hwo : writeOf t.t.writes a.key with
          | some z =>
            have hz := HSN.out
            rw [hwo] at hz
            dsimp only at hz
            have hz1 : y'.value = z.value := congrArg Prod.fst hz
            have hz2 : y'.is = true := congrArg Prod.snd hz
            have es : strOf t.t.writes a.key = y'.value := by unfold strOf; rw [hwo, hz1]; rfl
            rw [es] at hlk hlo
            rw [hwo] at hlo
            rw [hz2] at q1
            dsimp only [Option.isSome] at hlo
            clear hz hz1 hz2 es hwo hkind hcode
            go_upto_region 10 with (fail)
            go_wp2_with fail
            go_quiet (fail)
            go_wp2_with fail
            go_quiet (fail)
            go_wp2_with fail
            go_roundw
            case rel => exact ⟨⟨k + 1, by omega, by go_num⟩, below_drewN HLa.out _⟩
            case measure => simp [intOf]; omega
          | none =>
            have hz := HSN.out
            rw [hwo] at hz
            dsimp only at hz
            rw [hwo] at hlo
            dsimp only [Option.isSome] at hlo
            have HZ := Lib.hid hz
            clear hz hwo hkind hcode
            go_wp2_with fail
            go_quiet (fail)
            revert nq
            intro j1
            go_wp2_with fail
            go_quiet (fail)
            revert nq
            intro j2
            obtain ⟨vq, hvq⟩ : ∃ vq, vq = (va.drewN j1).drewN j2 := ⟨_, rfl⟩
            rw [← hvq]
            have HLq : Hid (Below w3.heap.size w3 vq) := by show Below _ _ _; rw [hvq]; exact below_drewN (below_drewN HLa.out _) _
            have hcq : ∀ p, vq.cell? p = va.cell? p := fun p => by rw [hvq]; simp
            have hzq : vq.heap.size = va.heap.size := by rw [hvq]; simp
            have HBq : Hid (vq.heap[g10]? = va.heap[g10]?) := by show _ = _; rw [hvq]; simp
            have HDq : Hid (DealsOk vq vq.heap.size A3 n3 L) := (HDO.out.below HLq.out (Nat.le_refl _)).more HLq.out.size
            have hv : valueT (L.map pairOf) a.key t.t.start k = (y'.value, y'.is) := HZ.out.symm
            have HVC : Hid (∀ u : Grown vq, Calls Tryd.prog 8 #[.slice A3 n3 c3, .string a.key, .int .i64 t.t.start, .int .i64 k] u.w fun e w' => e = .returned (.tuple #[.string y'.value, .bool y'.is]) ∧ Below u.w.heap.size u.w w') := by
              show ∀ u : Grown vq, _
              intro u
              refine (value_any L a.key t.t.start k A3 n3 c3 u.w ((HDq.out.below u.below (Nat.le_refl _)).more u.below.size) HN3.out HKEY.out).mono ?_
              rintro e w' ⟨rfl, hb⟩
              rw [hv]
              exact ⟨rfl, hb⟩
            have HB10q : Hid (vq.heap[g10]? = some (.cells #[.int .i64 2, .int .i64 a.c, .string a.key, .string a.value] 38 (0, 0))) := by
              show _ = _
              rw [HBq.out, HB10.out, HKD.out]
            have k0 := (hcq _).trans q0
            have k1 := (hcq _).trans q1
            have k2 := (hcq _).trans q2
            have u1 := (hcq _).trans t1
            have HLQ0 : Hid (b' < vq.heap.size ∧ b2 < vq.heap.size ∧ g10 < vq.heap.size) := by
              have h1 := HLq.out.size
              exact ⟨by omega, by omega, blk_lt HB10q.out⟩
            clear hvq q0 q1 q2 q3 q4 t0 t1 t2 t3 hlk hlo hc10 hf10 hv hcq hzq
            obtain ⟨hc10, hf10⟩ := blk_read HB10q.out
            go_upto_region 13 with (fail)
            go_cut [11, 12] (fun s t wx => s = .string y'.value ∧ t = .bool y'.is ∧ Below vq.heap.size vq wx)
            case first =>
              have z2 : ∀ u : Grown vq, u.w.cell? ⟨g10, 2, none⟩ = some (.string a.key) := fun u => grown_cell u HLQ0.out.2.2 (by simpa using hc10 2)
              have z3 : ∀ u : Grown vq, u.w.cell? ⟨b2, off2 + k * 4 + 1, none⟩ = some (.int .i64 t.t.start) := fun u => grown_cell u HLQ0.out.2.1 u1
              refine wp_region_grown (by kernel_rfl) (by kernel_rfl) ?_
              repeat (go_big_quiet_step ((go_at_call 8; exact grown_call (HVC.out _))))
              refine wpQuiet_nil ?_
              rintro _ ⟨⟨w4, hb'⟩, rfl⟩
              clear z2 z3
              go_wp2_with fail
              go_meet
              exact ⟨rfl, rfl, hb'⟩
            case rest =>
              obtain ⟨rfl, rfl, hb'⟩ := hcut
              have HLc := Lib.hid (HLq.out.trans (hb'.mono HLq.out.size))
              have x0 := (hb'.cell (p := ⟨b', _, none⟩) HLQ0.out.1).trans k0
              have x1 := (hb'.cell (p := ⟨b', _, none⟩) HLQ0.out.1).trans k1
              have x2 := (hb'.cell (p := ⟨b', _, none⟩) HLQ0.out.1).trans k2
              clear hb' k0 k1 k2 u1 hc10 hf10
              go_wp2_with fail
              go_roundw
              case rel => exact ⟨⟨k + 1, by omega, by go_num⟩, HLc.out⟩
              case measure => simp [intOf]; omega
        · have d1 : (y'.code != 0) = true := by simpa using hcode
          clear h3 hcode hkind
          go_wp2_with fail
          go_roundw
          case rel => exact ⟨⟨k + 1, by omega, by go_num⟩, HLa.out⟩
          case measure => simp [intOf]; omega
      · have d1 : (a.kind != 2) = true := by simpa using hkind
        clear hkind
        go_wp2_with fail
        go_roundw
        case rel => exact ⟨⟨k + 1, by omega, by go_num⟩, HLa.out⟩
        case measure => simp [intOf]; omega
    · go_wp2_with fail
      go_ret
      exact ⟨rfl, HL3.out.trans (HL.out.mono HL3.out.size)⟩
open Go.ChangeShapes Go.WideShapes Go.ChangeAt
open Go.ChangeMaps (open_string shut_string)
set_option maxRecDepth 100000 in
theorem topSnapshot_lifted (os : Os) (started : os.Started) (H : Type) (enc : TypeId × Value → H) :
    ReturnsInHanded {} Tryd.checked os 3 .any (fun w args => (Rows.topSnapshotSpec.pre enc Tryd.prog Tryd.f3 [] false w args ∧ laidMetH Tryd.prog laidL w) ∧ sizedMet enc Tryd.prog Tryd.f3 (OpenSpec.ofChange Rows.topSnapshotSpec) false w args)
      (Rows.topSnapshotSpec.post enc Tryd.prog Tryd.f3 false true false false) := by
  refine returnsInHanded_of_change_and (C := Tryd.checked) (X := fun w _ => laidMetH Tryd.prog laidL w) (fun _ _ _ hh h => h.of_heap hh) own started (by kernel_rfl) Tryd.func3
    (ChangeSpec.witness_shaped (enc := enc) (C := Tryd.checked) (os := os) (X := fun w _ => laidMetH Tryd.prog laidL w) false (World.doorLaid Tryd.prog doorN os) #[.slice none 0 0] 8 rfl (World.shaped_of_RefB (by kernel_rfl) (by kernel_rfl)) (by kernel_rfl) (by kernel_rfl) (by kernel_rfl) (door_met os _)) ?_
  intro W base args ds gs before hval0 hW hcnd hsz0 _ _
  have hval : ∀ (j : Nat) t v, Tryd.f3.params[j]? = some t → args[j]? = some v → Value.okWide Tryd.prog W .any base t v := hval0
  have hsz : (DataW.weightsEach Tryd.prog (Tryd.f3.params.toList ++ Rows.topSnapshotSpec.plain.varTypes Tryd.prog) (ds ++ gs)).all (· ≤ reachBytes) = true := hsz0
  clear hsz0
  have hW' := hW
  obtain ⟨p, q, hA0, hV, rfl, hfz, hnd⟩ := hW
  have hA : DataW.TrodAll enc Tryd.prog W 0 (fun _ => true) true Tryd.f3.params.toList args.toList ds p := hA0
  rw [Tryd.params3] at hA hval hsz
  obtain ⟨v0, vs0, d0, ds0, p0, q0, hargs, rfl, rfl, h0, r0⟩ := trodAll_cons hA
  obtain ⟨rfl, rfl, rfl⟩ := trodAll_nil r0
  obtain rfl : args = #[v0] := by cases args; simp_all
  obtain ⟨rfl, rfl⟩ := trodVars_none hV
  have k0 := h0
  have lt0 : ∀ x ∈ p0, x.block < W.heap.size := by obtain ⟨m, hm⟩ := k0; exact DataW.trod_lt m _ _ _ hm
  obtain ⟨A0, n0, c0, l0, rfl, ok0⟩ := open_raws_arg (hval 0 22 v0 rfl rfl) h0 (weights_of hsz (j := 0) rfl rfl)
  clear hA0 hval0 hsz
  refine (topSnapshot_walk l0 A0 n0 c0 W ok0).mono fun e W' ⟨he, bel⟩ => ?_
  subst he
  exact ⟨_, rfl, _, _, _, [], _, [], hW', trodAll_mk1 (shut_bool Tryd.underlying4 _), (trodAll_cons_mk (Below.trod laidOut (by kernel_rfl) (of_decide_eq_true (by kernel_rfl)) k0 bel lt0) trodAll_mk0), rfl, bel.frame _, fun h => by cases h⟩

theorem topSnapshot_holds : Rows.TopSnapshotSaid :=
  OpenClaim.holds_of_wide 3 Tryd.f3 rfl rfl rfl rfl rfl rfl rfl ⟨rfl, rfl, rfl, rfl, rfl⟩ rfl rfl rfl rfl rfl (by kernel_rfl) Tryd.func3 (by kernel_rfl)
    (of_decide_eq_true (by kernel_rfl)) (by unfold Func.isWrapper; first | (rw [if_pos (by decide +kernel)]; kernel_rfl) | (rw [if_neg (by decide +kernel)]; exact ⟨rfl, rfl⟩))
    (fun os started H enc _ => topSnapshot_lifted os started H enc)
theorem topSnapshot_card_holds : Rows.TopSnapshotCardSaid :=
  Claim7.holds_tied_plain_at .later [] [.data, .data, .data] true (true, "408a8ce1783b3f371d5a906d1e497bd87da8ef5d1be0aa8240e9363c79b6edc6") false
    topSnapshot_holds (fun _ h => by cases h) (by kernel_rfl) (fun _ h => by cases h) topSnapshot_row_tie rfl ⟨rfl, rfl⟩ (by kernel_rfl) rfl
    (fun f fn hf hfn => by
      obtain rfl : f = 3 := Option.some.inj ((show Tryd.prog.funcNamed "rickyard/rickyardtop.TopSnapshot" = some 3 by kernel_rfl).symm.trans hf) |>.symm
      obtain rfl : fn = Tryd.f3 := (Option.some.inj (Tryd.func3.symm.trans hfn)).symm
      exact ⟨by kernel_rfl, fun j t ht => by
        rw [Tryd.params3] at ht
        have hm : t ∈ ([22] : List TypeId) := by simpa using Array.mem_of_getElem? ht
        have hall : (([22] : List TypeId).all fun u => !Tryd.prog.wantsStandIn u) = true := by kernel_rfl
        exact (show Tryd.prog.wantsStandIn t = false by simpa using List.all_eq_true.1 hall t hm)⟩)
    (by kernel_rfl)
#print axioms topSnapshot_card_holds
end Go.Proofs.YtniomgngiiiklaaDoor
