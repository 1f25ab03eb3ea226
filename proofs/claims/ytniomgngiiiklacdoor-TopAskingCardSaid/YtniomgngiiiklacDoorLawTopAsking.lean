/- TopAsking: resolving locks never removes what was committed: the law's walk, then its row and its card. Conditions: none. -/
import Derived.Test.YtniomgngiiiklacDoorTopRun
import Derived.Test.YtniomgngiiiklacDoorActsApp
import Derived.Test.YtniomgngiiiklacDoorCommitted
import Derived.Test.YtniomgngiiiklacDoorTopSet
import Derived.Test.YtniomgngiiiklacDoorDoor
import Derived.Test.YtniomgngiiiklacDoorDeals
import Derived.Test.YtniomgngiiiklacDoorFind
import Derived.Deep.DeepCutAuto
import Derived.LoopTactic
namespace Go.Proofs.YtniomgngiiiklacDoor
open Go.RowKit Go.Maps

/-- The deal tells of a record of a row. -/
def askB (k : ByteArray) (z : MRec) (d : DealM) : Bool := (d.d.start == z.start) && ((d.d.commit == z.commit) && ((writeOf d.d.writes k).isSome && ((strOf d.d.writes k).toList == z.value.toList)))
def DealM.val (d : DealM) : Value := .agg #[.int .i64 d.d.start, .int .i64 d.d.commit, .int .i64 d.act, .map (some d.m)]

set_option maxHeartbeats 1000000 in
theorem ask1_any (d : DealM) (k : ByteArray) (z : MRec) (g1 g2 : Nat) (w : World) (hm : MapReads 400 w d.m d.d.writes) (hk : k.size ≤ maxLen) (hg1 : g1 < w.heap.size) (hg2 : g2 < w.heap.size) (h0 : w.cell? ⟨g1, 0, none⟩ = some (.string k))
    (h1 : w.cell? ⟨g2, 0, none⟩ = some (.int .i64 z.start)) (h2 : w.cell? ⟨g2, 1, none⟩ = some (.int .i64 z.commit)) (h3 : w.cell? ⟨g2, 2, none⟩ = some (.string z.value)) :
    Calls Tryd.prog 14 #[.agg #[.int .i64 d.d.start, .int .i64 d.d.commit, .int .i64 d.act, .map (some d.m)], .pointer (some ⟨g1, 0, none⟩), .pointer (some ⟨g2, 0, none⟩)] w fun e w' => e = .returned (.bool (askB k z d)) ∧ Below w.heap.size w w' := by
  have HM := Lib.hid hm
  have HK := Lib.hid hk
  have ⟨p, hp⟩ : ∃ p, p = askB k z d := ⟨_, rfl⟩
  rw [← hp]
  have HP := Lib.hid hp
  clear hm hk hp
  go_enter Tryd.func14, Tryd.ntmps14
  go_upto_region 1 with (fail)
  obtain ⟨v, hv⟩ : ∃ v, v = w.alloc (.cells #[.int .i64 d.d.start, .int .i64 d.d.commit, .int .i64 d.act, .map (some d.m)] 56) := ⟨_, rfl⟩
  obtain ⟨g3, hg3⟩ : ∃ g3, g3 = w.heap.size := ⟨_, rfl⟩
  rw [← hv, ← hg3]
  have HB3 : Hid (v.heap[g3]? = some (.cells #[.int .i64 d.d.start, .int .i64 d.d.commit, .int .i64 d.act, .map (some d.m)] 56 (0, 0))) := by show _ = _; rw [hv, hg3]; exact blk_new w _ _
  have hb : Below w.heap.size w v := by rw [hv]; exact (Below.refl _ w).alloc (Nat.le_refl _) _
  have hlk := ((HM.out.keep (hb.block _ HM.out.lt)).look_ok HK.out)
  have k0 := (hb.cell (p := ⟨g1, 0, none⟩) hg1).trans h0
  have k1 := (hb.cell (p := ⟨g2, 0, none⟩) hg2).trans h1
  have k2 := (hb.cell (p := ⟨g2, 1, none⟩) hg2).trans h2
  have k3 := (hb.cell (p := ⟨g2, 2, none⟩) hg2).trans h3
  have HL := Lib.hid hb
  clear hv hg3 hb h0 h1 h2 h3 hg1 hg2
  obtain ⟨hc3, hf3⟩ := blk_read HB3.out
  cases e1 : (d.d.start == z.start)
  · have HE : Hid (p = false) := by show _ = _; rw [HP.out]; unfold askB; rw [e1]; rfl
    go_wp2_with fail
    go_ret
    rw [HE.out]
    exact ⟨rfl, HL.out⟩
  cases e2 : (d.d.commit == z.commit)
  · have HE : Hid (p = false) := by show _ = _; rw [HP.out]; unfold askB; rw [e1, e2]; rfl
    go_wp2_with fail
    go_ret
    rw [HE.out]
    exact ⟨rfl, HL.out⟩
  cases e3 : (writeOf d.d.writes k).isSome
  · have HE : Hid (p = false) := by show _ = _; rw [HP.out]; unfold askB; rw [e1, e2, e3]; rfl
    rw [e3] at hlk
    go_wp2_with fail
    go_ret
    rw [HE.out]
    exact ⟨rfl, HL.out⟩
  have HE : Hid (p = ((strOf d.d.writes k).toList == z.value.toList)) := by show _ = _; rw [HP.out]; unfold askB; rw [e1, e2, e3]; rfl
  rw [e3] at hlk
  go_wp2_with fail
  go_ret
  rw [HE.out]
  exact ⟨rfl, HL.out⟩

set_option maxHeartbeats 1000000 in
theorem idxD_any (p : DealM → Bool) (a1 a2 : Addr) (A : Option Addr) (n c : Nat) (L : List DealM) (w : World) (h : DealsOk w w.heap.size A n L) (hn : n ≤ 100)
    (hp : ∀ x ∈ L, ∀ (W : World), Below w.heap.size w W → Calls Tryd.prog 14 #[.agg #[.int .i64 x.d.start, .int .i64 x.d.commit, .int .i64 x.act, .map (some x.m)], .pointer (some a1), .pointer (some a2)] W fun e W' => e = .returned (.bool (p x)) ∧ Below W.heap.size W W') :
    Calls Tryd.prog 20 #[.slice A n c, .func (.func 14) #[] #[.pointer (some a1), .pointer (some a2)]] w
      fun e w' => ∃ i : Int, e = .returned (.int .i64 i) ∧ decide (0 ≤ i) = L.any p ∧ Below w.heap.size w w' := by
  have H := Lib.hid h
  have HP := Lib.hid hp
  clear h hp
  go_enter Tryd.func20, Tryd.ntmps20
  go_wp2_with fail
  go_loopw [8] (fun i wr => (∃ k : Nat, k ≤ n ∧ i = .int .i64 k ∧ ∀ y ∈ L.take k, p y = false) ∧ Below w.heap.size w wr) (fun i _ => n - (intOf i).toNat)
  case atStart => exact ⟨⟨0, Nat.zero_le _, rfl, by intro y h; simp at h⟩, Below.refl _ _⟩
  case round =>
    obtain ⟨⟨k, hk, rfl, hb⟩, hbel⟩ := hrel
    have HB := Lib.hid hb
    have HL := Lib.hid hbel
    clear hb hbel
    by_cases hlt : k < n
    · obtain ⟨x, gb, off, hx, rfl, hbb, q0, q1, q2, q3, hxm, hmr⟩ := (H.out.below HL.out (Nat.le_refl _)).deal hlt
      have HX := Lib.hid hx
      have HXM : Hid (x ∈ L) := List.mem_of_getElem? hx
      clear hx hxm hmr
      cases hpx : p x
      · have HNX : Hid (∀ y ∈ L.take (k + 1), p y = false) := by
          show ∀ y ∈ _, _
          obtain ⟨hkl, rfl⟩ := List.getElem?_eq_some_iff.1 HX.out
          rw [List.take_succ_eq_append_getElem hkl]
          intro y hy
          rcases List.mem_append.1 hy with hy | hy
          · exact HB.out y hy
          · simp at hy; subst hy; exact hpx
        have hcall := HP.out x HXM.out wr HL.out
        rw [hpx] at hcall
        have HC := Lib.hid hcall
        clear hcall
        go_wp2_with fail
        refine HC.out.mono ?_
        rintro e w1 ⟨rfl, hb1⟩
        have HL1 := Lib.hid (HL.out.trans (hb1.mono HL.out.size))
        clear hb1
        go_wp2
        go_roundw
        case rel => exact ⟨⟨k + 1, by omega, by go_num, HNX.out⟩, HL1.out⟩
        case measure => simp [intOf]; omega
      · have HAN : Hid (L.any p = true) := List.any_eq_true.2 ⟨x, HXM.out, hpx⟩
        have hcall := HP.out x HXM.out wr HL.out
        rw [hpx] at hcall
        have HC := Lib.hid hcall
        clear hcall
        go_wp2_with fail
        refine HC.out.mono ?_
        rintro e w1 ⟨rfl, hb1⟩
        have HL1 := Lib.hid (HL.out.trans (hb1.mono HL.out.size))
        clear hb1
        go_wp2
        go_ret
        exact ⟨k, rfl, by rw [HAN.out]; exact decide_eq_true (by omega), HL1.out⟩
    · have hall : L.take k = L := List.take_of_length_le (by rw [H.out.cells.len]; omega)
      have HAN : Hid (L.any p = false) := by
        show _ = _
        rw [List.any_eq_false]
        intro y hy
        rw [HB.out y (by rw [hall]; exact hy)]; decide
      clear hall
      go_wp2
      go_ret
      exact ⟨-1, rfl, by rw [HAN.out]; decide, HL.out⟩

theorem hasD_any (k : ByteArray) (z : MRec) (g1 g2 : Nat) (A : Option Addr) (n c : Nat) (L : List DealM) (w : World) (h : DealsOk w w.heap.size A n L) (hn : n ≤ 100) (hk : k.size ≤ maxLen) (hg1 : g1 < w.heap.size) (hg2 : g2 < w.heap.size) (h0 : w.cell? ⟨g1, 0, none⟩ = some (.string k))
    (h1 : w.cell? ⟨g2, 0, none⟩ = some (.int .i64 z.start)) (h2 : w.cell? ⟨g2, 1, none⟩ = some (.int .i64 z.commit)) (h3 : w.cell? ⟨g2, 2, none⟩ = some (.string z.value)) :
    Calls Tryd.prog 13 #[.slice A n c, .func (.func 14) #[] #[.pointer (some ⟨g1, 0, none⟩), .pointer (some ⟨g2, 0, none⟩)]] w
      fun e w' => e = .returned (.bool (L.any (askB k z))) ∧ Below w.heap.size w w' := by
  have H := Lib.hid (idxD_any (askB k z) ⟨g1, 0, none⟩ ⟨g2, 0, none⟩ A n c L w h hn (fun x hx W hb => by
    have hc : ∀ (g i : Nat), g < w.heap.size → W.cell? ⟨g, i, none⟩ = w.cell? ⟨g, i, none⟩ := fun g i hg => hb.cell (p := ⟨g, i, none⟩) hg
    have hz := hb.size
    exact ask1_any x k z g1 g2 W (((h.maps x hx).2).keep (hb.block _ (h.maps x hx).1)) hk (by omega) (by omega) ((hc g1 0 hg1).trans h0) ((hc g2 0 hg2).trans h1) ((hc g2 1 hg2).trans h2) ((hc g2 2 hg2).trans h3)))
  clear h h0 h1 h2 h3
  go_enter Tryd.func13, Tryd.ntmps13
  go_wp2_with fail
  refine H.out.mono ?_
  rintro e w1 ⟨i, rfl, hi, hb1⟩
  have HL := Lib.hid hb1
  clear hb1
  have HI := Lib.hid hi
  clear hi
  go_wp2
  go_ret
  exact ⟨congrArg (fun b => Ending.returned (Value.bool b)) HI.out, HL.out⟩

set_option maxRecDepth 100000 in
set_option maxHeartbeats 4000000 in
theorem topAsking_walk (l : List MRaw) (A : Option Addr) (n c : Nat) (a1 : Int) (w : World) (h : RawsOk w w.heap.size A n c l) (ha : InI64 a1) :
    Calls Tryd.prog 4 #[.slice A n c, .int .i64 a1] w fun e w' => e = .returned (.bool true) ∧ Below w.heap.size w w' := by
  have HR := Lib.hid h
  have HI := Lib.hid ha
  clear h ha
  obtain ⟨acts, X, M, hs⟩ := script_mk (mo := 80) (by decide) l
  have HS := Lib.hid hs
  clear hs
  obtain ⟨key, hkey⟩ : ∃ key, key = keyF a1 := ⟨_, rfl⟩
  obtain ⟨p, hp⟩ : ∃ p, p = [askA key, askA key] := ⟨_, rfl⟩
  have hask := asking_plain (k := key) HS.out.len HS.out.ok (by rw [hkey]; exact keyF_ok a1)
  rw [← hp, ← HS.out.ans] at hask
  obtain ⟨Y, hY⟩ : ∃ Y, Y = ansFrom (startW 4) (acts ++ p) := ⟨_, rfl⟩
  obtain ⟨M2, hM2⟩ : ∃ M2, M2 = (acts ++ p).foldl stepW (startW 4) := ⟨_, rfl⟩
  rw [← hY, ← hM2] at hask
  obtain ⟨r1, r2, r3, r4⟩ := hask
  have HRUN2 := Lib.hid r1
  have HGOOD := Lib.hid r2
  have HREC : Hid (∀ r ∈ M2.rows, ∀ z ∈ r.recs, z.commit ≠ 0 → ∃ d ∈ dealsT (List.replicate 4 zeroTrack) 0 acts X, d.1.start = z.start ∧ d.1.commit = z.commit ∧ writeOf d.1.writes r.key = some ⟨r.key, z.value⟩) := r3
  have HLAST := Lib.hid r4
  have HYL : Hid (Y.length = acts.length + 2) := by show _ = _; rw [hY, length_ansFrom, hp]; simp
  have HK := Lib.hid hkey
  have HP := Lib.hid hp
  clear hkey hp hY hM2 r1 r2 r3 r4
  go_enter Tryd.func4, Tryd.ntmps4
  go_wp2_with fail
  refine (keepActs_any l 80 4 A n c w HR.out (by decide) (by decide) (by decide)).mono ?_
  rintro e w1 ⟨A1, m1, c1, rfl, ho, hb⟩
  rw [← HS.out.eq] at ho
  have hm1 := len_of_cells (f := MAct.cells) (s := 4) (fun _ => rfl) (by decide) ho
  have HO1 := Lib.hid ho
  have HL1 := Lib.hid hb
  have HM1 : Hid (m1 = acts.length ∧ m1 ≤ 90) := ⟨hm1, by have := HS.out.len; omega⟩
  clear ho hb hm1
  go_wp2_with fail
  refine (topRun_any acts A1 m1 c1 w1 (ActsOk.of_own HO1.out) (by have := HM1.out; omega)).mono ?_
  rintro e w2 hr
  rw [HS.out.run] at hr
  obtain ⟨A2, k2, c2, B1, n1, e1, hs1, B2, n2, e2, hs2, rfl, ho, _, _, hb⟩ := hr
  dsimp only at ho
  dsimp only
  have hk2 : k2 = m1 := by rw [len_of_cells (f := MAns.cells) (s := 5) (fun _ => rfl) (by decide) ho, HS.out.xlen, HM1.out.1]
  subst hk2
  have HX2 := Lib.hid (AnsOk.of_own ho)
  have HO2 := Lib.hid (own_at HO1.out (fun g hg => hb.block g hg))
  have HL2 := Lib.hid (HL1.out.trans (hb.mono HL1.out.size))
  clear ho hb HL1 HO1
  go_upto_region 3 with (fail)
  obtain ⟨v, hv⟩ : ∃ v, v = w2.alloc (.cells #[.slice B1 n1 e1, .int .i64 M.clock, .slice B2 n2 e2] 29) := ⟨_, rfl⟩
  rw [← hv]
  have hb2 : Below w2.heap.size w2 v := by rw [hv]; exact (Below.refl _ w2).alloc (Nat.le_refl _) _
  have HXv := Lib.hid ((HX2.out.below hb2 (Nat.le_refl _)).more hb2.size)
  have HOv := Lib.hid (own_at HO2.out (fun g hg => hb2.block g hg))
  have HLv := Lib.hid (HL2.out.trans (hb2.mono HL2.out.size))
  clear hv hb2 HX2 HO2 HL2
  go_wp2_with fail
  refine (cloneActs_any A1 k2 c1 acts w.heap.size v HOv.out (by have := HM1.out; omega)).mono ?_
  rintro e w3 ⟨A3, c3, rfl, ho, hb⟩
  have HO3 := Lib.hid ho
  have HB3 := Lib.hid hb
  clear ho hb
  go_wp2_with fail
  refine (keepKey_any a1 w3 HI.out).mono ?_
  rintro e w4 ⟨rfl, hb⟩
  rw [← HK.out]
  have HO4 := Lib.hid (own_at HO3.out (fun g hg => hb.block g hg))
  have HB4 := Lib.hid (HB3.out.trans (hb.mono HB3.out.size))
  clear hb HO3 HB3
  go_wp2_with fail
  refine (keepKey_any a1 w4 HI.out).mono ?_
  rintro e w5 ⟨rfl, hb⟩
  rw [← HK.out]
  have HO5 := Lib.hid (own_at HO4.out (fun g hg => hb.block g hg))
  have HB5 := Lib.hid (HB4.out.trans (hb.mono HB4.out.size))
  have hz5 := HB5.out.size
  clear hb HO4 HB4
  go_wp2_with (at_builtin; refine wpList_append_acts _ rfl _ _ rfl v.heap.size A3 c3 k2 acts p rfl (HO5.out.alloc _) w5.heap.size 2 rfl (by rw [HP.out]; rfl) (by rw [HP.out]; exact blk_new w5 _ _) (by have := HM1.out; omega) (by decide) (by simp; omega) ?_)
  intro A6 c6 w6 ho hg
  have HO6 := Lib.hid ho
  have HB6 := Lib.hid ((HB5.out.alloc hz5 _).grown hg (by simp; omega) (fun j hj => own_base HO5.out j hj))
  have HX6 := Lib.hid ((HXv.out.below HB6.out (Nat.le_refl _)).more HB6.out.size)
  have HA6 := Lib.hid ((ActsOk.of_own (own_at HOv.out (fun g hg => HB6.out.block g hg))))
  have HL6 := Lib.hid (HLv.out.trans (HB6.out.mono HLv.out.size))
  clear ho hg hz5 HO5 HB5 HOv HXv HLv HB6
  go_wp2_with fail
  refine (topRun_any (acts ++ p) A6 (k2 + 2) c6 w6 (ActsOk.of_own HO6.out) (by have := HM1.out; omega)).mono ?_
  rintro e w7 hr
  rw [HRUN2.out] at hr
  obtain ⟨A7, k7, c7, B3, n3, e3, hs3, B4, n4, e4, hs4, rfl, ho, hor, _, hb⟩ := hr
  dsimp only at ho hor
  dsimp only
  have hk7 : k7 = k2 + 2 := by rw [len_of_cells (f := MAns.cells) (s := 5) (fun _ => rfl) (by decide) ho, HYL.out, HM1.out.1]
  subst hk7
  have HY7 := Lib.hid (AnsOk.of_own ho)
  have HR7 := Lib.hid (hor.ok HGOOD.out.sized.1)
  have HX7 := Lib.hid ((HX6.out.below hb (Nat.le_refl _)).more hb.size)
  have HA7 := Lib.hid ((HA6.out.below hb (Nat.le_refl _)).more hb.size)
  have HL7 := Lib.hid (HL6.out.trans (hb.mono HL6.out.size))
  clear ho hor hb HX6 HA6 HL6 HO6
  go_upto_region 7 with (fail)
  obtain ⟨v2, hv2⟩ : ∃ v2, v2 = w7.alloc (.cells #[.slice B3 n3 e3, .int .i64 M2.clock, .slice B4 n4 e4] 29) := ⟨_, rfl⟩
  obtain ⟨g11, hg11⟩ : ∃ g11, g11 = w7.heap.size := ⟨_, rfl⟩
  rw [← hv2, ← hg11]
  have HB11 : Hid (v2.heap[g11]? = some (.cells #[.slice B3 n3 e3, .int .i64 M2.clock, .slice B4 n4 e4] 29 (0, 0))) := by show _ = _; rw [hv2, hg11]; exact blk_new w7 _ _
  have hb2 : Below w7.heap.size w7 v2 := by rw [hv2]; exact (Below.refl _ w7).alloc (Nat.le_refl _) _
  have HYv := Lib.hid ((HY7.out.below hb2 (Nat.le_refl _)).more hb2.size)
  have HRv := Lib.hid ((HR7.out.below hb2 (Nat.le_refl _)).more hb2.size)
  have HXv := Lib.hid ((HX7.out.below hb2 (Nat.le_refl _)).more hb2.size)
  have HAv := Lib.hid ((HA7.out.below hb2 (Nat.le_refl _)).more hb2.size)
  have HLv := Lib.hid (HL7.out.trans (hb2.mono HL7.out.size))
  clear hv2 hg11 hb2 HY7 HR7 HX7 HA7 HL7
  go_wp2_with fail
  refine (committed_any acts X A1 A2 k2 c1 c2 v2 HAv.out HXv.out (by have := HM1.out; omega) HS.out.ok HS.out.fine HS.out.size).mono ?_
  rintro e w8 ⟨A8, n8, c8, A9, n9, c9, L, S, rfl, hD, _, hdo, _, hle, hb⟩
  have HDO := Lib.hid hdo
  have hn8 : n8 ≤ 100 := by
    have h1 := deals_len acts X (List.replicate 4 zeroTrack) 0
    rw [← hD, List.length_map, hdo.cells.len] at h1
    have := HS.out.len
    omega
  have HN8 := Lib.hid hn8
  have HANY : Hid (∀ r ∈ M2.rows, ∀ z ∈ r.recs, z.commit ≠ 0 → L.any (askB r.key z) = true) := by
    show ∀ r ∈ _, _
    intro r hr z hz h0
    obtain ⟨d, hd, h1, h2, h3⟩ := HREC.out r hr z hz h0
    rw [← hD] at hd
    obtain ⟨x, hx, rfl⟩ := List.mem_map.1 hd
    have h1' : x.d.start = z.start := h1
    have h2' : x.d.commit = z.commit := h2
    have h3' : writeOf x.d.writes r.key = some ⟨r.key, z.value⟩ := h3
    refine List.any_eq_true.2 ⟨x, hx, ?_⟩
    unfold askB strOf
    rw [h1', h2', h3']
    simp
  have HY8 := Lib.hid ((HYv.out.below hb (Nat.le_refl _)).more hb.size)
  have HR8 := Lib.hid ((HRv.out.below hb (Nat.le_refl _)).more hb.size)
  have HL8 := Lib.hid (HLv.out.trans (hb.mono HLv.out.size))
  have HB8 := Lib.hid ((hb.block _ (blk_lt HB11.out)).trans HB11.out)
  have HN3 := Lib.hid HR8.out.len
  clear hD hdo hle hb hn8 HYv HRv HXv HAv HLv HREC HB11
  obtain ⟨hc11, hf11⟩ := blk_read HB8.out
  go_wp2_with fail
  clear hc11 hf11
  go_loopw [59] (fun i wr => (∃ k : Nat, k ≤ n3 ∧ i = .int .i64 k) ∧ Below w8.heap.size w8 wr) (fun i _ => n3 - (intOf i).toNat)
  case atStart => exact ⟨⟨0, Nat.zero_le _, rfl⟩, Below.refl _ _⟩
  case round =>
    obtain ⟨⟨k, hk, rfl⟩, hbel⟩ := hrel
    have HL := Lib.hid hbel
    clear hbel
    have hzw := HL.out.size
    by_cases hlt : k < n3
    · obtain ⟨r, b, off, A4, n4', c4, hr, rfl, hbb, hok, g0, g1, g2, g3, g4'⟩ := (HR8.out.below HL.out (Nat.le_refl _)).row hlt
      have hrm := List.mem_of_getElem? hr
      have HRM := Lib.hid hrm
      have HRG := Lib.hid (HGOOD.out.rows.each r hrm).1
      have hksz : r.key.size ≤ maxLen := hok.key
      have HKS := Lib.hid hksz
      have HN4 := Lib.hid hok.recs.at_.1
      have hn4 : n4' ≤ 100 := by rw [← HN4.out]; exact HRG.out.len
      have hn3 : n3 ≤ 40 := by rw [← HN3.out]; exact HGOOD.out.rows.len
      have HOK := Lib.hid hok
      clear hr hrm hok hksz
      go_upto_region 11 with (fail)
      obtain ⟨vr, hvr⟩ : ∃ vr, vr = wr.alloc (.cells #[.string r.key, .int .i64 r.ls, .string r.lp, .string r.value, .slice A4 n4' c4] 45) := ⟨_, rfl⟩
      obtain ⟨g16, hg16⟩ : ∃ g16, g16 = wr.heap.size := ⟨_, rfl⟩
      rw [← hvr, ← hg16]
      have HB16 : Hid (vr.heap[g16]? = some (.cells #[.string r.key, .int .i64 r.ls, .string r.lp, .string r.value, .slice A4 n4' c4] 45 (0, 0))) := by show _ = _; rw [hvr, hg16]; exact blk_new wr _ _
      have HLr : Hid (Below w8.heap.size w8 vr) := by show Below _ _ _; rw [hvr]; exact HL.out.alloc hzw _
      have HOKr : Hid (RecsAt w8 w8.heap.size A4 n4' r.recs) := HOK.out.recs.at_.keep (fun p hp => (HL.out.cell (p := p) hp).symm)
      clear hvr hg16 g0 g1 g2 g3 g4' HL HOK
      obtain ⟨hc16, hf16⟩ := blk_read HB16.out
      go_wp2_with fail
      clear hc16 hf16
      go_loopw [66] (fun i ws => (∃ j : Nat, j ≤ n4' ∧ i = .int .i64 j) ∧ Below w8.heap.size w8 ws ∧ ws.heap[g16]? = some (.cells #[.string r.key, .int .i64 r.ls, .string r.lp, .string r.value, .slice A4 n4' c4] 45 (0, 0))) (fun i _ => n4' - (intOf i).toNat)
      case atStart => exact ⟨⟨0, Nat.zero_le _, rfl⟩, HLr.out, HB16.out⟩
      case round =>
        obtain ⟨⟨j, hj, rfl⟩, hbel, hblk⟩ := hrel
        have HL := Lib.hid hbel
        have HBr := Lib.hid hblk
        clear hbel hblk
        have hzr := HL.out.size
        by_cases hjl : j < n4'
        · obtain ⟨x, b3, off3, hx, rfl, hb3, q0, q1, q2⟩ := (HOKr.out.below HL.out (Nat.le_refl _)).at_ hjl
          have HXM := Lib.hid (List.mem_of_getElem? hx)
          clear hx
          go_upto_region 14 with (fail)
          obtain ⟨vz, hvz⟩ : ∃ vz, vz = wr.alloc (.cells #[.int .i64 x.start, .int .i64 x.commit, .string x.value] 52) := ⟨_, rfl⟩
          obtain ⟨g18, hg18⟩ : ∃ g18, g18 = wr.heap.size := ⟨_, rfl⟩
          rw [← hvz, ← hg18]
          have HB18 : Hid (vz.heap[g18]? = some (.cells #[.int .i64 x.start, .int .i64 x.commit, .string x.value] 52 (0, 0))) := by show _ = _; rw [hvz, hg18]; exact blk_new wr _ _
          have HBz := Lib.hid ((congrArg (fun W : World => W.heap[g16]?) hvz).trans (blk_old HBr.out _))
          have HLz : Hid (Below w8.heap.size w8 vz) := by show Below _ _ _; rw [hvz]; exact HL.out.alloc hzr _
          clear hvz hg18 q0 q1 q2
          obtain ⟨hc16, hf16⟩ := blk_read HBz.out
          obtain ⟨hc18, hf18⟩ := blk_read HB18.out
          by_cases h0 : x.commit = 0
          · rw [h0] at hc18
            clear h0
            go_wp2_with fail
            go_roundw
            case rel => exact ⟨⟨j + 1, by omega, by go_num⟩, HLz.out, HBz.out⟩
            case measure => simp [intOf]; omega
          · have d1 : (x.commit != 0) = true := by simpa using h0
            have HT := Lib.hid (HANY.out r HRM.out x HXM.out h0)
            clear h0
            go_wp2_with fail
            refine (hasD_any r.key x g16 g18 A8 n8 c8 L vz ((HDO.out.below HLz.out (Nat.le_refl _)).more HLz.out.size) HN8.out HKS.out (blk_lt HBz.out) (blk_lt HB18.out) (by simpa using hc16 0) (by simpa using hc18 0) (by simpa using hc18 1) (by simpa using hc18 2)).mono ?_
            rintro e w9 ⟨rfl, hb⟩
            rw [HT.out]
            have HL9 := Lib.hid (HLz.out.trans (hb.mono HLz.out.size))
            have HB9 := Lib.hid ((hb.block _ (blk_lt HBz.out)).trans HBz.out)
            clear hb
            go_wp2_with fail
            go_roundw
            case rel => exact ⟨⟨j + 1, by omega, by go_num⟩, HL9.out, HB9.out⟩
            case measure => simp [intOf]; omega
        · obtain rfl : j = n4' := by omega
          go_wp2_with fail
          go_roundw
          case rel => exact ⟨⟨k + 1, by omega, by go_num⟩, HL.out⟩
          case measure => simp [intOf]; omega
    · obtain ⟨y, hy, hy5⟩ := HLAST.out
      obtain ⟨y', b, off, hyk, rfl, hbb, q0, q1, q2, q3, q4⟩ := AnsOk.ans (HY8.out.below HL.out (Nat.le_refl _)) (show k2 + 1 < k2 + 2 by omega)
      obtain rfl : y' = y := by rw [HM1.out.1, hy] at hyk; injection hyk with e; exact e.symm
      rw [hy5] at q0
      clear hy hyk
      have hk90 := HM1.out.2
      go_wp2_with fail
      go_ret
      exact ⟨rfl, HL8.out.trans (HL.out.mono HL8.out.size)⟩
open Go.ChangeShapes Go.WideShapes Go.ChangeAt
open Go.ChangeMaps (open_string shut_string)
set_option maxRecDepth 100000 in
theorem topAsking_lifted (os : Os) (started : os.Started) (H : Type) (enc : TypeId × Value → H) :
    ReturnsInHanded {} Tryd.checked os 4 .any (fun w args => (Rows.topAskingSpec.pre enc Tryd.prog Tryd.f4 [] false w args ∧ laidMetH Tryd.prog laidL w) ∧ sizedMet enc Tryd.prog Tryd.f4 (OpenSpec.ofChange Rows.topAskingSpec) false w args)
      (Rows.topAskingSpec.post enc Tryd.prog Tryd.f4 false true false false) := by
  refine returnsInHanded_of_change_and (C := Tryd.checked) (X := fun w _ => laidMetH Tryd.prog laidL w) (fun _ _ _ hh h => h.of_heap hh) own started (by kernel_rfl) Tryd.func4
    (ChangeSpec.witness_shaped (enc := enc) (C := Tryd.checked) (os := os) (X := fun w _ => laidMetH Tryd.prog laidL w) false (World.doorLaid Tryd.prog doorN os) #[.slice none 0 0, .int .i64 0] 8 rfl (World.shaped_of_RefB (by kernel_rfl) (by kernel_rfl)) (by kernel_rfl) (by kernel_rfl) (by kernel_rfl) (door_met os _)) ?_
  intro W base args ds gs before hval0 hW hcnd hsz0 _ _
  have hval : ∀ (j : Nat) t v, Tryd.f4.params[j]? = some t → args[j]? = some v → Value.okWide Tryd.prog W .any base t v := hval0
  have hsz : (DataW.weightsEach Tryd.prog (Tryd.f4.params.toList ++ Rows.topAskingSpec.plain.varTypes Tryd.prog) (ds ++ gs)).all (· ≤ reachBytes) = true := hsz0
  clear hsz0
  have hW' := hW
  obtain ⟨p, q, hA0, hV, rfl, hfz, hnd⟩ := hW
  have hA : DataW.TrodAll enc Tryd.prog W 0 (fun _ => true) true Tryd.f4.params.toList args.toList ds p := hA0
  rw [Tryd.params4] at hA hval hsz
  obtain ⟨v0, vs0, d0, ds0, p0, q0, hargs, rfl, rfl, h0, r0⟩ := trodAll_cons hA
  obtain ⟨v1, vs1, d1, ds1, p1, q1, rfl, rfl, rfl, h1, r1⟩ := trodAll_cons r0
  obtain ⟨rfl, rfl, rfl⟩ := trodAll_nil r1
  obtain rfl : args = #[v0, v1] := by cases args; simp_all
  obtain ⟨rfl, rfl⟩ := trodVars_none hV
  have k0 := h0
  have lt0 : ∀ x ∈ p0, x.block < W.heap.size := by obtain ⟨m, hm⟩ := k0; exact DataW.trod_lt m _ _ _ hm
  have k1 := h1
  have lt1 : ∀ x ∈ p1, x.block < W.heap.size := by obtain ⟨m, hm⟩ := k1; exact DataW.trod_lt m _ _ _ hm
  obtain ⟨A0, n0, c0, l0, rfl, ok0⟩ := open_raws_arg (hval 0 22 v0 rfl rfl) h0 (weights_of hsz (j := 0) rfl rfl)
  obtain ⟨a1, rfl, rfl, rfl, w1⟩ := open_int Tryd.underlying3 (hval 1 3 v1 rfl rfl) h1
  clear hA0 hval0 hsz
  refine (topAsking_walk l0 A0 n0 c0 a1 W ok0 (of_wf_i64 w1)).mono fun e W' ⟨he, bel⟩ => ?_
  subst he
  exact ⟨_, rfl, _, _, _, [], _, [], hW', trodAll_mk1 (shut_bool Tryd.underlying4 _), (trodAll_cons_mk (Below.trod laidOut (by kernel_rfl) (of_decide_eq_true (by kernel_rfl)) k0 bel lt0) (trodAll_cons_mk (shut_int Tryd.underlying3 w1) trodAll_mk0)), rfl, bel.frame _, fun h => by cases h⟩

theorem topAsking_holds : Rows.TopAskingSaid :=
  OpenClaim.holds_of_wide 4 Tryd.f4 rfl rfl rfl rfl rfl rfl rfl ⟨rfl, rfl, rfl, rfl, rfl⟩ rfl rfl rfl rfl rfl (by kernel_rfl) Tryd.func4 (by kernel_rfl)
    (of_decide_eq_true (by kernel_rfl)) (by unfold Func.isWrapper; first | (rw [if_pos (by decide +kernel)]; kernel_rfl) | (rw [if_neg (by decide +kernel)]; exact ⟨rfl, rfl⟩))
    (fun os started H enc _ => topAsking_lifted os started H enc)
theorem topAsking_card_holds : Rows.TopAskingCardSaid :=
  Claim7.holds_tied_plain_at .later [] [.data, .data, .data] true (true, "c12c5c7f87fa9a1ad9522a513abd18e9f0a83ef0e85763ce862b44389c9b7365") false
    topAsking_holds (fun _ h => by cases h) (by kernel_rfl) (fun _ h => by cases h) topAsking_row_tie rfl ⟨rfl, rfl⟩ (by kernel_rfl) rfl
    (fun f fn hf hfn => by
      obtain rfl : f = 4 := Option.some.inj ((show Tryd.prog.funcNamed "rickyard/rickyardtop.TopAsking" = some 4 by kernel_rfl).symm.trans hf) |>.symm
      obtain rfl : fn = Tryd.f4 := (Option.some.inj (Tryd.func4.symm.trans hfn)).symm
      exact ⟨by kernel_rfl, fun j t ht => by
        rw [Tryd.params4] at ht
        have hm : t ∈ ([22, 3] : List TypeId) := by simpa using Array.mem_of_getElem? ht
        have hall : (([22, 3] : List TypeId).all fun u => !Tryd.prog.wantsStandIn u) = true := by kernel_rfl
        exact (show Tryd.prog.wantsStandIn t = false by simpa using List.all_eq_true.1 hall t hm)⟩)
    (by kernel_rfl)
#print axioms topAsking_card_holds
end Go.Proofs.YtniomgngiiiklacDoor
