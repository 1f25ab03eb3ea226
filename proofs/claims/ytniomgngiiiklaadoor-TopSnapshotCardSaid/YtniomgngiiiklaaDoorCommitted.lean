/- The walk of top's committed: the deals of a script, and what each client has written when an act comes, told from acts and answers alone. -/
import Derived.Test.YtniomgngiiiklaaDoorDeals
import Derived.Test.YtniomgngiiiklaaDoorCopy
import Derived.Maps.RangeRun
import Derived.Deep.CutBlock
import Derived.Deep.DeepCutAuto
import Derived.Deep.RegionLaw
import Derived.LoopTactic
import Derived.Outline
namespace Go.Proofs.YtniomgngiiiklaaDoor
open Go.RowKit Go.Maps

theorem info_track : (Tryd.prog.info? 43).map (fun i => (i.zero, i.size, i.bytes)) = some (some (.agg #[.int .i64 0, .int .i64 0, .int .i64 0, .map none]), 4, 32) := by kernel_rfl
theorem info_deal : (Tryd.prog.info? 48).map (fun i => (i.zero, i.size, i.bytes)) = some (some (.agg #[.int .i64 0, .int .i64 0, .int .i64 0, .map none]), 4, 32) := by kernel_rfl
theorem news4 {w : World} {g : Nat} {t : TypeId} {a b c d : Value} (h : w.heap[g]? = some (.cells #[a, b, c, d] t (0, 0))) : ∀ j u, [a, b, c, d][j]? = some u → w.cell? ((⟨g, 0, none⟩ : Addr).add j) = some u := by
  intro j u hu
  rw [addr_add, (blk_read h).1]
  simpa using hu
theorem trackM_cells_one (x : TrackM) : ∀ u ∈ x.cells, u.oneCell' = true := fun u hu => by
  simp [TrackM.cells] at hu; rcases hu with rfl | rfl | rfl | rfl <;> rfl
theorem dealM_cells_one (x : DealM) : ∀ u ∈ x.cells, u.oneCell' = true := fun u hu => by
  simp [DealM.cells] at hu; rcases hu with rfl | rfl | rfl | rfl <;> rfl
def zeroM : TrackM := ⟨zeroTrack, none⟩
/-- What committed hands back. -/
def CommRet (w : World) (D : List (Deal × Nat)) (T : List MTrack) (e : Ending) (w' : World) : Prop :=
  ∃ A n c A' n' c' L S, e = .returned (.tuple #[.slice A n c, .slice A' n' c']) ∧ L.map pairOf = D ∧ S.map TrackM.t = T ∧ DealsOk w' w'.heap.size A n L ∧ SeenOk w' w'.heap.size A' n' S ∧ n ≤ c ∧ Below w.heap.size w w'
theorem drop_get {α : Type} {l : List α} {k : Nat} {x : α} (h : l[k]? = some x) : l.drop k = x :: l.drop (k + 1) := by
  obtain ⟨hk, rfl⟩ := List.getElem?_eq_some_iff.1 h
  exact List.drop_eq_getElem_cons hk
theorem comMem_start {w : World} {gA : Nat} (hb : w.heap[gA]? = some (.cells #[.int .i64 0, .int .i64 0, .int .i64 0, .map none, .int .i64 0, .int .i64 0, .int .i64 0, .map none, .int .i64 0, .int .i64 0, .int .i64 0, .map none, .int .i64 0, .int .i64 0, .int .i64 0, .map none] 43 (0, 0))) :
    ComMem w (gA + 1) gA 0 [zeroM, zeroM, zeroM, zeroM] [] [] none 0 0 none 0 0 := by
  have hz : ∀ x ∈ [zeroM, zeroM, zeroM, zeroM], x = zeroM := fun x hx => by simpa using hx
  refine ⟨rfl, hb, World.ownsRow_nil _ _ _ _, World.ownsRow_nil _ _ _ _, ⟨fun x hx => ?_, fun i j x y b hij hi hj e => ?_, fun s hs => (by cases hs), fun d hd => (by cases hd)⟩, by omega⟩
  · rw [hz x hx]; exact .inl ⟨rfl, rfl, rfl⟩
  · rw [hz x (List.mem_of_getElem? hi)] at e; cases e

/-- A range over a track's map, about to begin. -/
def IterAt (wx : World) (r N : Nat) (x : TrackM) : Prop := (x.m = none ∧ x.t.writes = [] ∧ ∃ a s b, wx.heap[r]? = some (Obj.mapIter none a s b)) ∨
  ∃ (b n : Nat) (D : DataW Unit), x.m = some b ∧ n ≤ N ∧ Tells D x.t.writes ∧ wx.ranges Tryd.prog 9 (plainElem Tryd.prog 9) b r n D (Maps.has D) (Maps.size D)
theorem run_next_nil_at {P : Program} {w : World} {r a b : Nat} {s : Array Nat} (h : w.heap[r]? = some (Obj.mapIter none a s b)) (ty : TypeId) : (Instr.next (.pointer (some ⟨r, 0, none⟩)) false ty).run P w = .ok (.tuple #[.bool false]) w := by
  simp only [Instr.next, getObj, Sem.run_bind, Sem.run, h, Result.andThen]
  rfl
theorem zero_str (w : World) : (zeroValue 9).run Tryd.prog w = .ok (.string ⟨#[]⟩) w := by kernel_rfl

/-- What an act leaves of the tracks, but for the phase. -/
def ComTurn (w : World) (gA k cc : Nat) (M S : List TrackM) (L : List DealM) (A4 : Option Addr) (c4 : Nat) (t' : MTrack) (ph : Int) (Dn : List (Deal × Nat)) (dl : Value) (wx : World) : Prop :=
  ∃ (x1 : TrackM) (L' : List DealM) (A5 : Option Addr) (n5 c5 : Nat), dl = .slice A5 n5 c5 ∧ n5 ≤ k + 1 ∧ ComMem wx (gA + 1) gA (k + 1) (M.set cc x1) S L' A5 n5 c5 A4 (k + 1) c4 ∧ L'.map pairOf = L.map pairOf ++ Dn ∧ x1.t = t' ∧ (x1.m = none → ph = 0) ∧ Below w.heap.size w wx
theorem set_same {α : Type} {l : List α} {k : Nat} {x : α} (h : l[k]? = some x) : l.set k x = l := by
  obtain ⟨hk, rfl⟩ := List.getElem?_eq_some_iff.1 h
  exact List.set_getElem_self hk

set_option maxRecDepth 100000 in
set_option maxHeartbeats 8000000 in
theorem committed_any (l : List MAct) (x : List MAns) (A A' : Option Addr) (n c c' : Nat) (w : World) (ha : ActsOk w w.heap.size A n l) (hx : AnsOk w w.heap.size A' n x) (hn : n ≤ 100) (hok : ∀ a ∈ l, ActOk 4 a)
    (hfine : Fine (List.replicate 4 zeroTrack) l x) (hsz : ∀ a ∈ l, a.key.size ≤ maxLen ∧ a.value.size ≤ maxLen) :
    Calls Tryd.prog 7 #[.slice A n c, .slice A' n c'] w (CommRet w (dealsT (List.replicate 4 zeroTrack) 0 l x) (seenT (List.replicate 4 zeroTrack) l x)) := by
  obtain ⟨i0, hi0, hz0, hz1, hz2⟩ := info_parts info_track
  obtain ⟨j0, hj0, hy0, hy1, hy2⟩ := info_parts info_deal
  have HA := Lib.hid ha
  have HX := Lib.hid hx
  have HOK := Lib.hid hok
  have HF := Lib.hid hfine
  have HSZ := Lib.hid hsz
  clear ha hx hok hfine hsz
  obtain ⟨TS, hTS⟩ : ∃ TS, TS = List.replicate 4 zeroTrack := ⟨_, rfl⟩
  rw [← hTS] at HF ⊢
  have HTS := Lib.hid hTS
  obtain ⟨D0, hD0⟩ : ∃ D0, D0 = dealsT TS 0 l x := ⟨_, rfl⟩
  obtain ⟨T0, hT0⟩ : ∃ T0, T0 = seenT TS l x := ⟨_, rfl⟩
  rw [← hD0, ← hT0]
  have HD0 := Lib.hid hD0
  have HT0 := Lib.hid hT0
  clear hTS hD0 hT0
  have hmk : ∀ W : World, (Instr.makeSlice 34 (.int .i64 4) (.int .i64 4)).run Tryd.prog W = .ok (.slice (some ⟨W.heap.size, 0, none⟩) 4 4) (W.alloc (.cells #[.int .i64 0, .int .i64 0, .int .i64 0, .map none, .int .i64 0, .int .i64 0, .int .i64 0, .map none, .int .i64 0, .int .i64 0, .int .i64 0, .map none, .int .i64 0, .int .i64 0, .int .i64 0, .map none] 43)) := fun _ => by kernel_rfl
  go_enter Tryd.func7, Tryd.ntmps7
  go_upto_region 6 with (fail)
  clear hmk
  obtain ⟨v, hv⟩ : ∃ v, v = w.alloc (.cells #[.int .i64 0, .int .i64 0, .int .i64 0, .map none, .int .i64 0, .int .i64 0, .int .i64 0, .map none, .int .i64 0, .int .i64 0, .int .i64 0, .map none, .int .i64 0, .int .i64 0, .int .i64 0, .map none] 43) := ⟨_, rfl⟩
  obtain ⟨gA, hgA⟩ : ∃ gA, gA = w.heap.size := ⟨_, rfl⟩
  rw [← hv, ← hgA]
  have HGA : Hid (gA = w.heap.size) := hgA
  have HCM : Hid (ComMem v (gA + 1) gA 0 [zeroM, zeroM, zeroM, zeroM] [] [] none 0 0 none 0 0) := comMem_start (by rw [hv, hgA]; exact blk_new w _ _)
  have HLv : Hid (Below w.heap.size w v) := by show Below _ _ _; rw [hv]; exact (Below.refl _ w).alloc (Nat.le_refl _) _
  have HSv : Hid (v.heap.size = gA + 1) := by show _ = _; rw [hv, hgA]; simp
  clear hv hgA
  go_wp2_with fail
  go_loopw [6, 7, 23] (fun dl sl i wr => (∃ k : Nat, k ≤ n ∧ i = .int .i64 k ∧ ∃ (M S : List TrackM) (L : List DealM) (A1 : Option Addr) (n1 c1 : Nat) (A2 : Option Addr) (n2 c2 : Nat), dl = .slice A1 n1 c1 ∧ sl = .slice A2 n2 c2 ∧ n1 ≤ k ∧ k = n2 ∧ ComMem wr (gA + 1) gA k M S L A1 n1 c1 A2 n2 c2 ∧
      D0 = L.map pairOf ++ dealsT (M.map TrackM.t) k (l.drop k) (x.drop k) ∧ T0 = S.map TrackM.t ++ seenT (M.map TrackM.t) (l.drop k) (x.drop k) ∧ Fine (M.map TrackM.t) (l.drop k) (x.drop k)) ∧ Below w.heap.size w wr) (fun _ _ i _ => n - (intOf i).toNat)
  case atStart => exact ⟨⟨0, Nat.zero_le _, rfl, _, _, _, none, 0, 0, none, 0, 0, rfl, rfl, Nat.le_refl _, rfl, HCM.out, by rw [HD0.out, HTS.out]; rfl, by rw [HT0.out, HTS.out]; rfl, by have := HF.out; rw [HTS.out] at this; exact this⟩, HLv.out⟩
  case round =>
    obtain ⟨⟨k, hk, rfl, M, S, L, A1, n1, c1, A2, n2, c2, rfl, rfl, hn1, rfl, hcm, hD, hT, hF⟩, hbel⟩ := hrel
    clear HF HTS HCM HD0 HT0
    have HCM := Lib.hid hcm
    have HD := Lib.hid hD
    have HT := Lib.hid hT
    have HF := Lib.hid hF
    have HL := Lib.hid hbel
    clear hcm hD hT hF hbel
    have hzw := HL.out.size
    by_cases hlt : k < n
    · obtain ⟨a, b, off, hak, rfl, hbb, g0, g1, g2, g3⟩ := (HA.out.below HL.out (Nat.le_refl _)).act hlt
      obtain ⟨y, b', off', hyk, rfl, hbb', q0, q1, q2, q3, q4⟩ := AnsOk.ans (HX.out.below HL.out (Nat.le_refl _)) hlt
      have HAK := Lib.hid hak
      have HYK := Lib.hid hyk
      obtain ⟨⟨hkd1, hkd2⟩, hac0, hac1⟩ := HOK.out a (List.mem_of_getElem? hak)
      obtain ⟨cc, hcc⟩ : ∃ cc : Nat, a.c = cc := ⟨a.c.toNat, by omega⟩
      have hcc4 : cc < 4 := by omega
      obtain ⟨x0, hx0⟩ : ∃ x0, M[cc]? = some x0 := ⟨M[cc]'(by rw [HCM.out.four]; exact hcc4), List.getElem?_eq_getElem _⟩
      have HX0 := Lib.hid hx0
      have HTK : Hid (tk (M.map TrackM.t) a = x0.t) := by show _ = _; unfold tk; rw [hcc, Int.toNat_natCast, List.getElem?_map, hx0]; rfl
      have HDL : Hid (l.drop k = a :: l.drop (k + 1)) := drop_get hak
      have HDX : Hid (x.drop k = y :: x.drop (k + 1)) := drop_get hyk
      have HCC := Lib.hid hcc
      have HKD : Hid (1 ≤ a.kind ∧ a.kind ≤ 6) := ⟨hkd1, hkd2⟩
      rw [hcc] at g1
      have hd1 : decide ((k : Int) < (n : Int)) = true := decide_eq_true (by omega)
      clear hak hyk hcc hx0 hac0 hac1 hkd1 hkd2
      go_upto_region 9 with (fail)
      obtain ⟨va, hva⟩ : ∃ va, va = wr.alloc (.cells #[.int .i64 a.kind, .int .i64 cc, .string a.key, .string a.value] 38) := ⟨_, rfl⟩
      obtain ⟨g10, hg10⟩ : ∃ g10, g10 = wr.heap.size := ⟨_, rfl⟩
      rw [← hva, ← hg10]
      have HB10 : Hid (va.heap[g10]? = some (.cells #[.int .i64 a.kind, .int .i64 cc, .string a.key, .string a.value] 38 (0, 0))) := by show _ = _; rw [hva, hg10]; exact blk_new wr _ _
      have HCA : Hid (ComMem va (gA + 1) gA k M S L A1 n1 c1 A2 k c2) := by show ComMem _ _ _ _ _ _ _ _ _ _ _ _ _; rw [hva]; exact HCM.out.alloc _
      have HLa : Hid (Below w.heap.size w va) := by show Below _ _ _; rw [hva]; exact HL.out.alloc hzw _
      have hgl : gA < va.heap.size := blk_lt HCA.out.blk
      clear hva hg10 g0 g1 g2 g3 q0 q1 q2 q3 q4 HCM HL hzw
      obtain ⟨hc10, hf10⟩ := blk_read HB10.out
      obtain ⟨m0, m1, m2, m3, hfA⟩ := HCA.out.cells HX0.out
      have hmm := @run_makeMap Tryd.prog
      have ic1 : (0 : Int) ≤ (cc : Int) := by omega
      have ic2 : (cc : Int) < 4 := by omega
      go_upto_region 12 with (fail)
      clear hmm ic1 ic2
      obtain ⟨g12, hg12⟩ : ∃ g12, g12 = va.heap.size := ⟨_, rfl⟩
      rw [← hg12]
      obtain ⟨gO, hgO⟩ : ∃ gO, gO = g12 + 1 := ⟨_, rfl⟩
      rw [← hgO]
      obtain ⟨v2, hv2⟩ : ∃ v2, v2 = (va.alloc (.cells #[.int .i64 x0.t.phase, .int .i64 x0.t.start, .int .i64 x0.t.commit, .map (some gO)] 43)).alloc (.map #[] 0) := ⟨_, rfl⟩
      rw [← hv2]
      have HB12 : Hid (v2.heap[g12]? = some (.cells #[.int .i64 x0.t.phase, .int .i64 x0.t.start, .int .i64 x0.t.commit, .map (some gO)] 43 (0, 0))) := by show _ = _; rw [hv2, hg12]; exact blk_old (blk_new va _ _) _
      have HOM : Hid (v2.ownsMap Tryd.prog 9 (plainElem Tryd.prog 9) gO 0 (.map [] : DataW Unit)) := by
        show World.ownsMap _ _ _ _ _ _ _
        have h := World.ownsMap_made (H := Unit) (va.alloc (.cells #[.int .i64 x0.t.phase, .int .i64 x0.t.start, .int .i64 x0.t.commit, .map (some gO)] 43)) Tryd.prog 9 (plainElem Tryd.prog 9)
        have e : (va.alloc (.cells #[.int .i64 x0.t.phase, .int .i64 x0.t.start, .int .i64 x0.t.commit, .map (some gO)] 43)).heap.size = gO := by rw [hgO, hg12]; simp
        rw [e] at h
        rw [hv2]; exact h
      have HOL : Hid (Old va v2) := by show Old _ _; rw [hv2]; exact (old_alloc va _).trans (old_alloc _ _)
      have HSZ2 : Hid (v2.heap.size = gO + 1 ∧ va.heap.size = g12 ∧ gO = g12 + 1) := by show _ ∧ _; rw [hv2]; simp; omega
      have HC2 : Hid (ComMem v2 (gA + 1) gA k M S L A1 n1 c1 A2 k c2) := HCA.out.keep HOL.out.block
      have HB102 := Lib.hid ((HOL.out.block _ (blk_lt HB10.out)).trans HB10.out)
      have HL2 : Hid (Below w.heap.size w v2) := by show Below _ _ _; rw [hv2]; exact (HLa.out.alloc HLa.out.size _).alloc (by have := HLa.out.size; simp; omega) _
      have HFR : Hid (∀ z ∈ M, ∀ b, z.m = some b → b < g12) := fun z hz b e => by
        have := (HCA.out.inv.track z hz).lt e
        have := HSZ2.out.2.1
        omega
      have HGL : Hid (gA < g12) := by show _ < _; have := blk_lt HCA.out.blk; have := HSZ2.out.2.1; omega
      have HSB : Hid (some g12 ≠ (Value.slice A2 k c2).ownBlock) := by
        show _ ≠ _
        intro e
        have := (HCA.out.seen.lt g12 e.symm).2
        have := HSZ2.out.2.1
        omega
      clear hv2 hg12 hgO hc10 hf10 m0 m1 m2 m3 hfA HB10 HLa
      obtain ⟨m0, m1, m2, m3, hfA⟩ := HC2.out.cells HX0.out
      go_cut [41] (fun it wx => ∃ r, it = .pointer (some ⟨r, 0, none⟩) ∧ r = v2.heap.size ∧ IterAt wx r k x0 ∧ v2.grownBy wx none ∧ wx.heap.size = v2.heap.size + 1)
      case first =>
        rcases HC2.out.inv.track x0 (List.mem_of_getElem? HX0.out) with ⟨e0, e1, e2⟩ | ⟨bx, e0, hbx, hmr⟩
        · rw [e0] at m3
          have E1 : Hid (x0.m = none ∧ x0.t.writes = []) := ⟨e0, e1⟩
          clear e0 e1 e2
          have hrg := run_range_nilMap (P := Tryd.prog) v2 41 9 9 Tryd.underlying41
          go_wp2_with fail
          go_meet
          exact ⟨_, rfl, rfl, .inl ⟨E1.out.1, E1.out.2, 0, #[], 0, heap_alloc_new v2 _⟩, World.grownBy_alloc v2 _ none, by simp⟩
        · obtain ⟨nx, DX, hox, hnx, htx⟩ := hmr
          rw [e0] at m3
          have E1 := Lib.hid e0
          have HTX := Lib.hid htx
          clear e0 htx
          go_wp2_with (first | (at_range; refine wpList_range_own _ rfl _ 41 rfl 9 9 law_str Tryd.underlying41 _ bx nx DX rfl hox ?_; intro w0 hrg0 hg0 hs0) | fail)
          go_meet
          exact ⟨_, rfl, rfl, .inr ⟨bx, nx, DX, E1.out, hnx, HTX.out, hrg0⟩, hg0, hs0⟩
      case rest =>
        obtain ⟨r, rfl, hr, hit, hg, hsz⟩ := hcut
        have HIT := Lib.hid hit
        have HBL : Hid (∀ g, g < v2.heap.size → wc.heap[g]? = v2.heap[g]?) := fun g hlt => hg.block g hlt (by simp)
        have HBW : Hid (Below gO v2 wc) := by
          show Below _ _ _
          exact ((Below.refl gO v2).grown hg (by have := HSZ2.out.1; omega) (fun j hj => by cases hj))
        have HC3 := Lib.hid (HC2.out.keep HBL.out)
        have HB12c := Lib.hid ((HBL.out _ (blk_lt HB12.out)).trans HB12.out)
        have HOMc := Lib.hid (HOM.out.kept hg (by simp))
        have HR : Hid (r = v2.heap.size ∧ wc.heap.size = r + 1) := by show _ ∧ _; omega
        clear hr hit hg hsz m0 m1 m2 m3 hfA
        go_upto_block 2 with (fail)
        go_cut [] (fun wx => (∃ (n' : Nat) (D' : DataW Unit), wx.ownsMap Tryd.prog 9 (plainElem Tryd.prog 9) gO n' D' ∧ n' ≤ k ∧ Tells D' x0.t.writes) ∧ Below gO v2 wx)
        case first =>
          rcases HIT.out with ⟨e0, e1, ia, is, ib, hib⟩ | ⟨bx, nx, DX, e0, hnx, htx, hrg⟩
          · have hnxt := run_next_nil_at (P := Tryd.prog) hib
            have E1 := Lib.hid e1
            clear e0 e1 hib
            go_wp2_with fail
            refine wp_loop_rounds 1 ?_
            rw [rounds_succ]
            go_wp2_with fail
            go_meet
            exact ⟨⟨0, .map [], HOMc.out, Nat.zero_le _, by rw [E1.out]; exact tells_nil⟩, HBW.out⟩
          · have HRG := Lib.hid hrg
            have HTX := Lib.hid htx
            have HNX := Lib.hid (Nat.le_trans hrg.owns.size_le hnx)
            have HBX : Hid (bx < gO ∧ bx ≠ r ∧ bx ≠ gO) := by
              show _ ∧ _
              rcases HC2.out.inv.track x0 (List.mem_of_getElem? HX0.out) with ⟨e1, _⟩ | ⟨bx', e1, _, hmr⟩
              · rw [e1] at e0; cases e0
              · rw [e1] at e0; injection e0 with e0; subst e0
                have h1 := hmr.lt
                have h2 := HSZ2.out
                have h3 := HFR.out x0 (List.mem_of_getElem? HX0.out) bx' e1
                have := HR.out
                omega
            clear hrg htx e0
            go_wp2_with fail
            go_loopw [42] (fun _ wr => ∃ (left : Lit → Bool) (cnt : Nat) (Dout : DataW Unit), wr.ranges Tryd.prog 9 (plainElem Tryd.prog 9) bx r nx DX left cnt ∧ cnt ≤ Maps.size DX ∧
                wr.ownsMap Tryd.prog 9 (plainElem Tryd.prog 9) gO (Maps.size DX - cnt) Dout ∧ Agree Dout DX left ∧ Below gO v2 wr) (fun _ wr => wr.rangeLeft bx r)
            case atStart => exact ⟨_, _, .map [], HRG.out, Nat.le_refl _, HOMc.out.mono (Nat.zero_le _), agree_start DX, HBW.out⟩
            case round =>
              obtain ⟨left, cnt, Dout, hrg, hcs, hout, hA, hnb⟩ := hrel
              have HAG := Lib.hid hA
              have HNB := Lib.hid hnb
              have HOUT := Lib.hid hout
              have HRN := Lib.hid hrg
              clear hA hnb HRG HOMc HBW HC3 HB12c HBL HIT
              have hzb := HNB.out.size
              have HB12r := Lib.hid ((HNB.out.block _ (by have := HSZ2.out; omega)).trans HB12.out)
              obtain ⟨hc12, hf12⟩ := blk_read HB12r.out
              go_wp2_with (first
                | (at_next; refine wpList_next_ranges_ss _ rfl _ rfl 9 9 law_str Tryd.underlying9 Tryd.underlying9 bx r nx _ _ _ rfl hrg ?_ ?_)
                | fail)
              · intro hc0 hl0
                go_wp2_with fail
                go_meet
                have e := agree_end HAG.out hl0 (hout.canon law_str) (hrg.owns.canon law_str)
                subst e
                exact ⟨⟨_, _, hout, by have := HNX.out; omega, HTX.out⟩, HNB.out⟩
              · intro xk xc w4 cnt4 hwx hwc hlx hat hrg4 hlt4 hg4 hs4 hen
                have hout4 := HOUT.out.kept hg4 (by intro e; injection e with e; have := HR.out; have := HSZ2.out; omega)
                have hzm := HOUT.out.size_le
                have hsm : Maps.size DX - cnt < maxLen := by unfold maxLen; have := HNX.out; omega
                have HB124 := Lib.hid ((hg4.block _ (blk_lt HB12r.out) (by intro e; injection e with e; have := HR.out; have := HSZ2.out; omega)).trans HB12r.out)
                have HSM := Lib.hid hsm
                have HAT := Lib.hid hat
                clear hc12 hf12 hat hzm hsm
                obtain ⟨hc12, hf12⟩ := blk_read HB124.out
                go_wp2_with (first
                  | (at_mapUpdate; refine wpList_mapUpdate_own _ rfl _ _ _ 41 rfl 9 9 law_str Tryd.underlying41 _ gO _ _ rfl hout4 HSM.out _ _ _ rfl rfl (keyOf_kLit Tryd.underlying9 hwx) _ [] (plainElem_string Tryd.underlying9 hwc) ?_; intro w5 hout5 hg5; go_frame)
                  | fail)
                have hb4 := HNB.out.grown hg4 (by have := HNB.out.size; have := HSZ2.out; omega) (fun j hj => by injection hj with hj; have := HR.out; have := HSZ2.out; omega)
                have hb5 := hb4.grown hg5 (by have := hb4.size; have := HSZ2.out; omega) (fun j hj => by injection hj with hj; omega)
                have hrg5 := hrg4.kept hg5 (by intro e; injection e with e; have := HBX.out; omega) (by intro e; injection e with e; have := HR.out; have := HSZ2.out; omega)
                go_roundw
                case rel => exact ⟨_, cnt4, _, hrg5, by omega, hout5.mono (by omega), agree_step HAG.out HOUT.out.isMap (by trivial) HAT.out, hb5⟩
                case measure => rw [hrg5.left_eq, HRN.out.left_eq]; exact hlt4
        case rest =>
          obtain ⟨hmr, hb⟩ := hcut
          have HMR : Hid (MapReads k wc gO x0.t.writes) := hmr
          have HC3' : Hid (ComMem wc (gA + 1) gA k M S L A1 n1 c1 A2 k c2) := HCA.out.keep (fun g hg => (hb.block g (by have := HSZ2.out; omega)).trans (HOL.out.block g hg))
          have HB123 := Lib.hid ((hb.block _ (by have := HSZ2.out; omega)).trans HB12.out)
          have HB103 := Lib.hid ((hb.block _ (by have := blk_lt HB102.out; have := HSZ2.out; rcases Nat.lt_or_ge g10 gO with h | h; (· exact h); (· exfalso; have h1 := HB102.out; have : g10 = gO := (by omega); subst this; obtain ⟨es, cl, hm, _⟩ := HOM.out; rw [hm] at h1; cases h1))).trans HB102.out)
          have HL3 := Lib.hid (HL2.out.trans (hb.mono (by have := HGA.out; have := HSZ2.out; have := blk_lt HCA.out.blk; omega)))
          have hgO' : gA + 1 ≤ gO := by have := HSZ2.out; have := blk_lt HCA.out.blk; omega
          have HGO := Lib.hid hgO'
          clear hmr hb hgO' HC3 HIT HBL HBW HB12c HOMc HC2 HB12 HB102 HL2 HCA HOL
          obtain ⟨hc12, hf12⟩ := blk_read HB123.out
          have hz3 := HL3.out.size
          have hgab : gA + 1 ≤ wc.heap.size := blk_lt HC3'.out.blk
          go_wp2_with (first
            | (at_builtin; refine wpList_append_own _ rfl _ _ 34 rfl (gA + 1) 43 i0 _ 4 32 Tryd.underlying34 hi0 hz0 hz1 hz2 rfl (by decide) (.slice A2 k c2) k (S.flatMap TrackM.cells) rfl (HC3'.out.seen.alloc _) ⟨wc.heap.size, 0, none⟩ 1 1 (TrackM.cells ⟨x0.t, some gO⟩) rfl rfl ?c1 ?c2 ?c3 ?c4 ?c5 ?_)
            | fail)
          case c1 => exact news4 (by exact blk_new _ _ _)
          case c2 => exact trackM_cells_one _
          case c3 => unfold maxLen; omega
          case c4 => omega
          case c5 => simp; omega
          intro v' w4 hown4 hg4 _
          obtain ⟨A4, c4, hv⟩ := own_slice hown4
          rw [hv] at hown4 ⊢
          have HC4 : Hid (ComMem w4 (gA + 1) gA k M (S ++ [⟨x0.t, some gO⟩]) L A1 n1 c1 A4 (k + 1) c4) :=
            (HC3'.out.alloc _).see hg4 hown4 rfl HGO.out ((HMR.out.alloc _).wide (by omega)) (fun z hz e => by have := HFR.out z hz gO e; have := HSZ2.out; omega)
          have hkc : ∀ (g : Nat) (cs : Array Value) (t : TypeId), wc.heap[g]? = some (.cells cs t (0, 0)) → g < gA + 1 ∨ t ≠ 43 ∨ g12 = g → w4.heap[g]? = wc.heap[g]? := fun g cs t hgg ht =>
            (hg4.block g (by have := blk_lt hgg; simp; omega) (by
              rcases ht with ht | ht | ht
              · exact own_old_ne HC3'.out.seen ht
              · exact own_ne HC3'.out.seen hgg (fun e => ht e.symm)
              · subst ht
                exact HSB.out)).trans (Below.heap_alloc _ _ g (blk_lt hgg))
          have HB104 := Lib.hid ((hkc _ _ _ HB103.out (.inr (.inl (by decide)))).trans HB103.out)
          have HB124 := Lib.hid ((hkc _ _ _ HB123.out (.inr (.inr rfl))).trans HB123.out)
          have HL4 := Lib.hid ((HL3.out.alloc hz3 _).grown hg4 (by simp; omega) (fun j hj => by have := own_base HC3'.out.seen j hj; have := HGA.out; omega))
          have HMR4 : Hid (MapReads k w4 gO x0.t.writes) := (HMR.out.alloc _).grown hg4 (HMR.out.ne_own HC3'.out.seen)
          clear hv hown4 hg4 hkc hc12 hf12 HC3' HB103 HB123 HL3 HMR hz3 hgab
          obtain ⟨y', b2, off2, hyk, hA', hbb2, q0, q1, q2, q3, q4⟩ := AnsOk.ans (HX.out.below HL4.out (Nat.le_refl _)) hlt
          obtain rfl : y' = y := by rw [HYK.out] at hyk; injection hyk with e; exact e.symm
          injection hA' with hA'
          injection hA' with hA1 hA2
          rw [← hA1, ← hA2] at q0 q1 q2 q3 q4
          clear hyk hbb2 hA1 hA2
          obtain ⟨hc10, hf10⟩ := blk_read HB104.out
          obtain ⟨m0, m1, m2, m3, hfA⟩ := HC4.out.cells HX0.out
          go_upto_if 60 with (fail)
          have hfn := HF.out
          rw [HDL.out, HDX.out] at hfn
          obtain ⟨⟨hf1, hf2⟩, hf3⟩ := hfn
          rw [HTK.out] at hf1 hf2
          have HF1 := Lib.hid hf1
          have HF2 := Lib.hid hf2
          have HF3 := Lib.hid hf3
          have HP0 : Hid (x0.m = none → x0.t.phase = 0) := fun e => by
            rcases HC4.out.inv.track x0 (List.mem_of_getElem? HX0.out) with ⟨_, _, h⟩ | ⟨b, e', _⟩
            · exact h
            · rw [e'] at e; cases e
          have HN0 : Hid (¬ (a.kind = 1 ∧ y'.code = 0) → x0.m = none → y'.phase = 0) := fun h1 h2 => HF2.out (HP0.out h2) h1
          clear hf1 hf2 hf3
          go_cut [6] (fun dl wx => ComTurn w gA k cc M (S ++ [⟨x0.t, some gO⟩]) L A4 c4 (trackTurn x0.t a y') y'.phase ((trackDeal x0.t a y').map fun d => (d, k)) dl wx)
          case first =>
            by_cases hcode : y'.code = 0
            · have hcb : (y'.code == 0) = true := by simpa using hcode
              have HCO := Lib.hid hcode
              clear hcode
              by_cases k1 : a.kind = 1
              · have HE : Hid (trackTurn x0.t a y' = ⟨0, y'.time, 0, []⟩ ∧ trackDeal x0.t a y' = []) := by
                  show _ ∧ _
                  exact ⟨by unfold trackTurn; rw [if_pos HCO.out, if_pos k1], by unfold trackDeal; rw [if_neg (by omega)]⟩
                have hk1 : (a.kind == 1) = true := by simpa using k1
                have hmm := @run_makeMap Tryd.prog
                obtain ⟨r0, r1, r2, r3, rfA⟩ := (HC4.out.alloc (Obj.map #[] 0)).cells HX0.out
                clear k1
                go_wp2_with fail
                go_meet
                rw [HE.out.1, HE.out.2]
                have hcm := HC4.out.begun (x' := ⟨⟨0, y'.time, 0, []⟩, some w4.heap.size⟩) HX0.out rfl rfl (blk_lt HC4.out.blk)
                have hgw : w.heap.size ≤ gA := by rw [HGA.out]; exact Nat.le_refl _
                exact ⟨_, L, A1, n1, c1, rfl, by omega, hcm.wide (by omega), by simp, rfl, (fun e => by cases e),
                  ((((HL4.out.alloc HL4.out.size _).setCell (p := ⟨gA, cc * 4, none⟩) hgw _).setCell (p := ⟨gA, cc * 4 + 1, none⟩) hgw _).setCell (p := ⟨gA, cc * 4 + 2, none⟩) hgw _).setCell (p := ⟨gA, cc * 4 + 3, none⟩) hgw _⟩
              by_cases k3 : a.kind = 3
              · have HE : Hid (trackTurn x0.t a y' = { x0.t with writes := putWrite x0.t.writes ⟨a.key, a.value⟩ } ∧ trackDeal x0.t a y' = []) := by
                  show _ ∧ _
                  exact ⟨by unfold trackTurn; rw [if_pos HCO.out, if_neg (by omega), if_pos k3], by unfold trackDeal; rw [if_neg (by omega)]⟩
                have HPH := Lib.hid (HF1.out HCO.out k3)
                have hk1 : (a.kind == 1) = false := by simpa using k1
                have hk3 : (a.kind == 3) = true := by simpa using k3
                obtain ⟨bx, hbx, hmx⟩ : ∃ bx, x0.m = some bx ∧ MapReads k w4 bx x0.t.writes := by
                  rcases HC4.out.inv.track x0 (List.mem_of_getElem? HX0.out) with ⟨_, _, h⟩ | ⟨b, e', _, h⟩
                  · exact absurd h HPH.out
                  · exact ⟨b, e', h⟩
                obtain ⟨nx, DX, hox, hnx, htx⟩ := hmx
                obtain ⟨hs1, hs2⟩ := HSZ.out a (List.mem_of_getElem? HAK.out)
                obtain ⟨w5, hrun, hown5, hg5⟩ := (World.ownsMap.drew hox).update law_str Tryd.underlying41 (by unfold maxLen; omega) (keyOf_kLit Tryd.underlying9 hs1) (plainElem_string Tryd.underlying9 hs2)
                have hcm : ComMem w5 (gA + 1) gA (k + 1) (M.set cc ⟨{ x0.t with writes := putWrite x0.t.writes ⟨a.key, a.value⟩ }, x0.m⟩) (S ++ [⟨x0.t, some gO⟩]) L A1 n1 c1 A4 (k + 1) c4 :=
                  (HC4.out.keep (w' := w4.drew) (fun _ _ => rfl)).put HX0.out hbx hg5 hown5 hnx (htx.put hox.isMap) rfl rfl
                have hlo : Below w.heap.size w w5 := (HL4.out.drew).grown hg5 HL4.out.size (fun j hj => by
                  injection hj with hj
                  subst hj
                  rcases HC4.out.inv.track x0 (List.mem_of_getElem? HX0.out) with ⟨e, _⟩ | ⟨b, e, hb, _⟩
                  · rw [e] at hbx; cases hbx
                  · rw [e] at hbx; injection hbx with hbx; have := HGA.out; omega)
                have HCM5 := Lib.hid hcm
                have HLO := Lib.hid hlo
                have HBX := Lib.hid hbx
                rw [hbx] at m3
                clear k1 k3 hox hnx htx hown5 hg5 hcm hlo hbx
                go_wp2_with fail
                go_region
                all_goals
                  go_wp2_with fail
                  go_meet
                  rw [HE.out.1, HE.out.2]
                  exact ⟨_, L, A1, n1, c1, rfl, by omega, HCM5.out, by simp, rfl, (fun e => by rw [HBX.out] at e; cases e), HLO.out⟩
              by_cases k4 : a.kind = 4
              · have hk1 : (a.kind == 1) = false := by simpa using k1
                have hk3 : (a.kind == 3) = false := by simpa using k3
                have hk4 : (a.kind == 4) = true := by simpa using k4
                have HK1 := Lib.hid k1
                obtain ⟨t5, ht5⟩ : ∃ t5, t5 = trackTurn x0.t a y' := ⟨_, rfl⟩
                have HT5 : Hid (t5 = (if y'.time ≠ 0 then { x0.t with commit := y'.time } else x0.t)) := by
                  show _ = _
                  rw [ht5]
                  unfold trackTurn
                  rw [if_pos HCO.out, if_neg k1, if_neg k3]
                  by_cases h0 : y'.time = 0
                  · rw [if_neg (fun h => h.2 h0), if_neg (fun h => h h0)]
                  · rw [if_pos ⟨k4, h0⟩, if_pos h0]
                have HTT : Hid (t5 = trackTurn x0.t a y') := ht5
                have HDE : Hid (trackDeal x0.t a y' = if x0.t.phase = 3 then [⟨x0.t.start, t5.commit, x0.t.writes⟩] else []) := by
                  show _ = _
                  unfold trackDeal
                  rw [← ht5]
                  by_cases h3 : x0.t.phase = 3
                  · rw [if_pos ⟨HCO.out, k4, h3⟩, if_pos h3]
                  · rw [if_neg (fun h => h3 h.2.2), if_neg h3]
                clear k1 k3 k4 ht5
                have hg12A : g12 ≠ gA := by have := HGL.out; omega
                have HGAA := Lib.hid hg12A
                clear hg12A
                go_upto_if 91 with (fail)
                go_cut [] (fun wx => ∃ x1 : TrackM, x1.t = t5 ∧ x1.m = x0.m ∧ ComMem wx (gA + 1) gA k (M.set cc x1) (S ++ [⟨x0.t, some gO⟩]) L A1 n1 c1 A4 (k + 1) c4 ∧ Below w.heap.size w wx ∧ wx.heap[g12]? = w4.heap[g12]? ∧ wx.heap[gO]? = w4.heap[gO]?)
                case first =>
                  by_cases h0 : y'.time = 0
                  · have hb0 : (y'.time != 0) = false := by simpa using h0
                    have E5 : Hid (x0.t = t5) := by show _ = _; rw [HT5.out, if_neg (fun h => h h0)]
                    clear h0
                    go_wp2_with fail
                    go_meet
                    exact ⟨x0, E5.out, rfl, by rw [set_same HX0.out]; exact HC4.out, HL4.out, rfl, rfl⟩
                  · have hb0 : (y'.time != 0) = true := by simpa using h0
                    have E5 : Hid ({ x0.t with commit := y'.time } = t5) := by show _ = _; rw [HT5.out, if_pos h0]
                    clear h0
                    go_wp2_with fail
                    go_meet
                    have hgw : w.heap.size ≤ gA := by rw [HGA.out]; exact Nat.le_refl _
                    exact ⟨⟨{ x0.t with commit := y'.time }, x0.m⟩, E5.out, rfl, HC4.out.set1 (i := 2) HX0.out (by omega) rfl rfl rfl HP0.out, HL4.out.setCell (p := ⟨gA, cc * 4 + 2, none⟩) hgw _, Below.heap_setCell _ _ _ _ HGAA.out, Below.heap_setCell _ _ _ _ (HMR4.out.ne HC4.out.blk)⟩
                case rest =>
                  obtain ⟨x1, e1, e2, hcm, hlo, hb12, hbO⟩ := hcut
                  have HE1 := Lib.hid e1
                  have HE2 := Lib.hid e2
                  have HC5 := Lib.hid hcm
                  have HL5 := Lib.hid hlo
                  have HB125 := Lib.hid (hb12.trans HB124.out)
                  have HMR5 := Lib.hid (HMR4.out.keep hbO)
                  have HX1 : Hid ((M.set cc x1)[cc]? = some x1) := List.getElem?_set_self (List.getElem?_eq_some_iff.1 HX0.out).1
                  clear e1 e2 hcm hlo hb12 hbO m0 m1 m2 m3 hfA hc10 hf10 q0 q1 q2 q3 q4
                  obtain ⟨m0, m1, m2, m3, hfA⟩ := HC5.out.cells HX1.out
                  obtain ⟨hc12, hf12⟩ := blk_read HB125.out
                  have E6 : Hid (x1.t.phase = x0.t.phase ∧ x1.t.start = x0.t.start ∧ x1.t.writes = x0.t.writes) := by
                    show _ ∧ _
                    rw [HE1.out, HT5.out]
                    split <;> exact ⟨rfl, rfl, rfl⟩
                  have HN1 : Hid (x1.m = none → y'.phase = 0) := fun e => HN0.out (fun h => HK1.out h.1) (by rw [← HE2.out]; exact e)
                  by_cases h3 : x0.t.phase = 3
                  · have hb3 : (x1.t.phase == 3) = true := by rw [E6.out.1]; simpa using h3
                    have HDD : Hid (trackDeal x0.t a y' = [⟨x1.t.start, x1.t.commit, x1.t.writes⟩]) := by show _ = _; rw [HDE.out, if_pos h3, HE1.out, ← HE1.out, E6.out.2.1, E6.out.2.2]
                    clear h3
                    have hz5 := HL5.out.size
                    have hgab5 : gA + 1 ≤ wc.heap.size := blk_lt HC5.out.blk
                    have HFIN : Hid (∀ (A6 : Option Addr) (c6 : Nat) (w6 : World), w6.ownsRow (gA + 1) 48 4 (.slice A6 (n1 + 1) c6) (n1 + 1) (L.flatMap DealM.cells ++ DealM.cells ⟨⟨x1.t.start, x1.t.commit, x1.t.writes⟩, k, gO⟩) →
                        (wc.alloc (.cells #[.int .i64 x1.t.start, .int .i64 x1.t.commit, .int .i64 k, .map (some gO)] 48)).drew.grownBy w6 (Value.slice A1 n1 c1).ownBlock →
                        ComTurn w gA k cc M (S ++ [⟨x0.t, some gO⟩]) L A4 c4 (trackTurn x0.t a y') y'.phase ((trackDeal x0.t a y').map fun d => (d, k)) (.slice A6 (n1 + 1) c6) w6) := by
                      intro A6 c6 w6 hown6 hg6
                      have hcm := (HC5.out.keep (w' := (wc.alloc (.cells #[.int .i64 x1.t.start, .int .i64 x1.t.commit, .int .i64 k, .map (some gO)] 48)).drew) (fun g hg => Below.heap_alloc _ _ g hg)).made hg6 hown6 HGO.out
                        (by show MapReads 400 _ gO x1.t.writes; rw [E6.out.2.2]; exact (HMR5.out.keep (Below.heap_alloc _ _ gO HMR5.out.lt)).wide (by omega)) (fun z hz e => by
                          rcases List.mem_or_eq_of_mem_set hz with hz | hz
                          · have := HFR.out z hz gO e; have := HSZ2.out; omega
                          · subst hz
                            rw [HE2.out] at e
                            have := HFR.out x0 (List.mem_of_getElem? HX0.out) gO e; have := HSZ2.out; omega)
                      refine ⟨x1, L ++ [⟨⟨x1.t.start, x1.t.commit, x1.t.writes⟩, k, gO⟩], A6, n1 + 1, c6, rfl, by omega, hcm.wide (by omega), ?_, by rw [HE1.out, HTT.out], HN1.out, ?_⟩
                      · rw [HDD.out, List.map_append]; rfl
                      · exact ((HL5.out.alloc HL5.out.size _).drew).grown hg6 (by have := HL5.out.size; simp; omega) (fun j hj => by have := own_base HC5.out.deals j hj; have := HGA.out; omega)
                    go_wp2_with fail
                    go_region_law (refine step_append_own (by rfl) _ _ _ (by rfl) (gA + 1) 48 j0 _ 4 32 Tryd.underlying33 hj0 hy0 hy1 hy2 rfl (by omega) (.slice A1 n1 c1) n1 (L.flatMap DealM.cells) (by rfl) (by exact HC5.out.deals.alloc _) ⟨wc.heap.size, 0, none⟩ 1 1 (DealM.cells ⟨⟨x1.t.start, x1.t.commit, x1.t.writes⟩, k, gO⟩) (by rfl) (by rfl) (news4 (by exact blk_new_at _ _ _ rfl)) (dealM_cells_one _) (by unfold maxLen; omega) (by omega) (by simp; omega) ?_; intro A6 c6 w6 hown6 hg6)
                    all_goals
                      go_wp2_with fail
                      go_meet
                      exact HFIN.out _ _ _ hown6 hg6
                  · have hb3 : (x1.t.phase == 3) = false := by rw [E6.out.1]; simpa using h3
                    have HDD : Hid (trackDeal x0.t a y' = []) := by show _ = _; rw [HDE.out, if_neg h3]
                    clear h3
                    go_wp2_with fail
                    go_meet
                    rw [HDD.out]
                    exact ⟨x1, L, A1, n1, c1, rfl, by omega, HC5.out.wide (by omega), by simp, by rw [HE1.out, HTT.out], HN1.out, HL5.out⟩
              · have HE : Hid (trackTurn x0.t a y' = x0.t ∧ trackDeal x0.t a y' = []) := by
                  show _ ∧ _
                  exact ⟨turn_other ⟨k1, k3, k4⟩, by unfold trackDeal; rw [if_neg (by omega)]⟩
                have HK1 := Lib.hid k1
                have hk1 : (a.kind == 1) = false := by simpa using k1
                have hk3 : (a.kind == 3) = false := by simpa using k3
                have hk4 : (a.kind == 4) = false := by simpa using k4
                clear k1 k3 k4
                go_wp2_with fail
                go_meet
                rw [HE.out.1, HE.out.2]
                exact ⟨x0, L, A1, n1, c1, rfl, by omega, by rw [set_same HX0.out]; exact HC4.out.wide (by omega), by simp, rfl, HN0.out (fun h => HK1.out h.1), HL4.out⟩
            · have HE : Hid (trackTurn x0.t a y' = x0.t ∧ trackDeal x0.t a y' = []) := by
                show _ ∧ _
                exact ⟨by unfold trackTurn; rw [if_neg hcode], by unfold trackDeal; rw [if_neg (fun h => hcode h.1)]⟩
              have hcb : (y'.code == 0) = false := by simpa using hcode
              have HCO := Lib.hid hcode
              clear hcode
              go_wp2_with fail
              go_meet
              rw [HE.out.1, HE.out.2]
              exact ⟨x0, L, A1, n1, c1, rfl, by omega, by rw [set_same HX0.out]; exact HC4.out.wide (by omega), by simp, rfl, HN0.out (fun h => HCO.out h.2), HL4.out⟩
          case rest =>
            obtain ⟨x1, L', A5, n5, c5, rfl, hn5, hcm, hD, hxt, hx0, hlo⟩ := hcut
            have HC5 := Lib.hid hcm
            have HD5 := Lib.hid hD
            have HXT := Lib.hid hxt
            have HXP := Lib.hid hx0
            have HL5 := Lib.hid hlo
            have HX1 : Hid ((M.set cc x1)[cc]? = some x1) := List.getElem?_set_self (List.getElem?_eq_some_iff.1 HX0.out).1
            clear hcm hD hxt hx0 hlo m0 m1 m2 m3 hfA hc10 hf10 q0 q1 q2 q3 q4
            obtain ⟨y2, b3, off3, hyk, hA', hbb3, q0, q1, q2, q3, q4⟩ := AnsOk.ans (HX.out.below HL5.out (Nat.le_refl _)) hlt
            obtain rfl : y2 = y' := by rw [HYK.out] at hyk; injection hyk with e; exact e.symm
            injection hA' with hA'
            injection hA' with hA1 hA2
            rw [← hA1, ← hA2] at q0 q1 q2 q3 q4
            clear hyk hbb3 hA1 hA2
            obtain ⟨m0, m1, m2, m3, hfA⟩ := HC5.out.cells HX1.out
            have hgw : w.heap.size ≤ gA := by rw [HGA.out]; exact Nat.le_refl _
            have HGW := Lib.hid hgw
            clear hgw
            go_wp2_with fail
            go_roundw
            case rel =>
              have hset : (M.set cc x1).set cc ⟨{ x1.t with phase := y2.phase }, x1.m⟩ = M.set cc ⟨{ x1.t with phase := y2.phase }, x1.m⟩ := List.set_set ..
              have hmt : (M.set cc ⟨{ x1.t with phase := y2.phase }, x1.m⟩).map TrackM.t = tksTurn (M.map TrackM.t) a y2 := by
                unfold tksTurn
                rw [HTK.out, HCC.out, Int.toNat_natCast, List.map_set]
                show (M.map TrackM.t).set cc { x1.t with phase := y2.phase } = _
                rw [HXT.out]
                rfl
              refine ⟨⟨k + 1, by omega, by go_num, M.set cc ⟨{ x1.t with phase := y2.phase }, x1.m⟩, S ++ [⟨x0.t, some gO⟩], L', A5, n5, c5, A4, k + 1, c4, rfl, rfl, by omega, rfl, ?_, ?_, ?_, ?_⟩, HL5.out.setCell (p := ⟨gA, cc * 4, none⟩) HGW.out _⟩
              · rw [← hset]
                exact HC5.out.set1 (i := 0) (x' := ⟨{ x1.t with phase := y2.phase }, x1.m⟩) HX1.out (by omega) rfl rfl rfl HXP.out
              · rw [hmt, HD5.out, List.append_assoc, HD.out, HDL.out, HDX.out]
                show _ ++ ((trackDeal (tk (M.map TrackM.t) a) a y2).map (fun d => (d, k)) ++ _) = _
                rw [HTK.out]
              · rw [hmt, List.map_append, HT.out, HDL.out, HDX.out]
                show _ ++ (tk (M.map TrackM.t) a :: _) = _
                rw [HTK.out]
                simp
              · rw [hmt]; exact HF3.out
            case measure => simp [intOf]; omega
    · have hkn : k = n := by omega
      have hl0 : l.drop k = [] := List.drop_of_length_le (by rw [HA.out.len]; omega)
      have hx0 : x.drop k = [] := List.drop_of_length_le (by rw [HX.out.len]; omega)
      have HDE : Hid (D0 = L.map pairOf) := by show _ = _; rw [HD.out, hl0, hx0]; simp [dealsT]
      have HTE : Hid (T0 = S.map TrackM.t) := by show _ = _; rw [HT.out, hl0, hx0]; simp [seenT]
      have hd1 : decide ((k : Int) < (n : Int)) = false := decide_eq_false (by omega)
      clear hl0 hx0 hkn
      go_wp2_with fail
      refine bodyPost_ret (v := .tuple #[.slice A1 n1 c1, .slice A2 k c2]) (by simp [results, Tryd.results7, go_sem]) rfl ?_
      exact ⟨A1, n1, c1, A2, k, c2, L, S, rfl, HDE.out.symm, HTE.out.symm, HCM.out.ends.1, HCM.out.ends.2, (own_facts HCM.out.deals).1, HL.out⟩
end Go.Proofs.YtniomgngiiiklaaDoor
