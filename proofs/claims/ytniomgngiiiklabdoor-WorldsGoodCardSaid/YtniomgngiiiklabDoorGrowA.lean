/- The walks of slices.Grow (from nil) and slices.Concat at acts. -/
import Derived.Test.YtniomgngiiiklabDoorActsApp
import Derived.Test.YtniomgngiiiklabDoorAnsOk
import Derived.Lib.AppendZeros
import Derived.LoopTactic
namespace Go.Proofs.YtniomgngiiiklabDoor
open Go.RowKit

theorem grow_any (n : Nat) (w : World) (h0 : 0 < n) (hn : n ≤ 500) :
    Calls Tryd.prog 49 #[.slice none 0 0, .int .i64 (n : Int)] w fun e w' => ∃ A' c', e = .returned (.slice A' 0 c') ∧ w'.ownsRow w.heap.size 62 4 (.slice A' 0 c') 0 (actCells []) ∧ Below w.heap.size w w' := by
  obtain ⟨i0, hi0, hz0, hz1, hz2⟩ := info_parts info_act
  have hrun := Lib.run_append_nil_zeros (P := Tryd.prog) w 40 3 40 62 i0 _ .i64 .i64 Tryd.underlying40 Tryd.underlying3 hi0 hz0 n h0 (by omega) (by omega) (by rw [hz2]; omega)
  have hge := grownCap_ge w n 0 62
  have hle := grownCap_le_maxLen w n 0 62 (by unfold maxLen; omega)
  obtain ⟨cp, hcp⟩ : ∃ cp, cp = grownCap w n 0 62 := ⟨_, rfl⟩
  rw [← hcp] at hrun hge hle
  obtain ⟨cur, hcur⟩ : ∃ cur : Array Value, cur = Builtin.zeroCells (Value.agg #[.int .i64 0, .int .i64 0, .string ⟨#[]⟩, .string ⟨#[]⟩]).cells n ++ Builtin.zeroCells (Value.agg #[.int .i64 0, .int .i64 0, .string ⟨#[]⟩, .string ⟨#[]⟩]).cells (cp - n) := ⟨_, rfl⟩
  rw [← hcur] at hrun
  have hsz : cur.size = cp * 4 := by
    rw [hcur, Array.size_append, size_zeroCells, size_zeroCells]
    have : (Value.agg #[.int .i64 0, .int .i64 0, .string ⟨#[]⟩, .string ⟨#[]⟩]).cells.size = 4 := by decide
    rw [this]; omega
  have HO := Lib.hid (World.ownsRow_made (base := w.heap.size) (e := 62) (size := 4) w.drew cur cp (Nat.le_refl _) hle hsz)
  have HB : Hid (Below w.heap.size w (w.drew.alloc (.cells cur 62))) := ((Below.refl _ w).drew).alloc (Nat.le_refl _) _
  have d1 : decide ((n : Int) < 0) = false := decide_eq_false (by omega)
  have d2 : decide ((0 : Int) < (n : Int)) = true := decide_eq_true (by omega)
  have hw1 : IntKind.i64.wrap (n : Int) = n := IntWalk.i64_in _ (by omega)
  clear hcp hcur hge hle hsz
  go_enter Tryd.func49, Tryd.ntmps49
  go_wp2_with (at_builtin; refine Lib.wpList_append_run _ rfl _ _ _ _ rfl _ _ rfl rfl _ _ hrun ?_)
  go_wp2
  go_ret
  exact ⟨some ⟨w.heap.size, 0, none⟩, cp, rfl, HO.out, HB.out⟩

theorem run_firstG {P : Program} (t : TypeId) (A : Option Addr) (n k c s : Nat) (i : Int) (h : P.underlying t = some (.slice (P.elem t))) (hs : ∀ W, (Go.sizeOf (P.elem t)).run P W = .ok s W) (hk : k ≤ c) (hi : i = (k : Int)) (w : World) :
    (Instr.slice t (.slice A n c) none (some (.int .i64 i)) none).run P w = .ok (.slice A k c) w := by
  subst hi
  rw [run_slice_h _ _ _ _ _ h _ _ (by omega) (by omega), hs]
  simp [Result.andThen, sliced]
  intro _; cases A <;> simp [Addr.add]

/-- Acts that lie together in memory. -/
structure ActPart where
  g : Nat
  c : Nat
  l : List MAct
def ActPart.cells (p : ActPart) : List Value := [.slice (some ⟨p.g, 0, none⟩) p.l.length p.c]
def PartOk (w : World) (B : Nat) (p : ActPart) : Prop := p.g < B ∧ ∀ j u, (actCells p.l)[j]? = some u → w.cell? ⟨p.g, j, none⟩ = some u
theorem PartOk.of_own {w : World} {base n c : Nat} {A : Option Addr} {l : List MAct} (h : w.ownsRow base 62 4 (.slice A n c) n (actCells l)) (h0 : 0 < n) : ∃ g, A = some ⟨g, 0, none⟩ ∧ n = l.length ∧ PartOk w w.heap.size ⟨g, c, l⟩ := by
  have hl : l.length = n := by have := h.1; rw [actCells_length] at this; omega
  have hc : ∃ u, (actCells l)[0]? = some u := ⟨_, List.getElem?_eq_getElem (by rw [actCells_length]; omega)⟩
  obtain ⟨u, hu⟩ := hc
  obtain ⟨g, e, hg, _⟩ := own_cell h hu
  refine ⟨g, e, hl.symm, hg, fun j v hv => ?_⟩
  obtain ⟨g', e', _, hcell⟩ := own_cell h hv
  have : g' = g := by rw [e] at e'; exact (congrArg Addr.block (Option.some.inj e')).symm
  subst this
  exact hcell
theorem PartOk.of_blk {w : World} {g c : Nat} {l : List MAct} {t : TypeId} (h : w.heap[g]? = some (.cells (actCells l).toArray t (0, 0))) : PartOk w w.heap.size ⟨g, c, l⟩ :=
  ⟨blk_lt h, fun j u hu => by rw [(blk_read h).1]; simpa using hu⟩
theorem PartOk.below {w w' : World} {B C : Nat} {p : ActPart} (h : PartOk w B p) (hb : Below C w w') (hC : B ≤ C) : PartOk w' B p :=
  ⟨h.1, fun j u hu => ((hb.mono hC).cell (p := ⟨p.g, j, none⟩) h.1).trans (h.2 j u hu)⟩
theorem PartOk.more {w : World} {B C : Nat} {p : ActPart} (h : PartOk w B p) (hC : B ≤ C) : PartOk w C p := ⟨Nat.lt_of_lt_of_le h.1 hC, h.2⟩
def joinTo (ps : List ActPart) (k : Nat) : List MAct := (ps.take k).flatMap ActPart.l
theorem joinTo_more {ps : List ActPart} {k : Nat} {p : ActPart} (h : ps[k]? = some p) : joinTo ps (k + 1) = joinTo ps k ++ p.l := by
  obtain ⟨hk, rfl⟩ := List.getElem?_eq_some_iff.1 h
  unfold joinTo
  rw [List.take_succ_eq_append_getElem hk, List.flatMap_append]; simp
theorem joinTo_le {ps : List ActPart} : ∀ k, (joinTo ps k).length ≤ (ps.flatMap ActPart.l).length := by
  intro k
  unfold joinTo
  conv => rhs; rw [← List.take_append_drop k ps, List.flatMap_append, List.length_append]
  omega

set_option maxRecDepth 100000 in
set_option maxHeartbeats 2000000 in
theorem concat_any (ps : List ActPart) (A : Option Addr) (n c : Nat) (w : World) (h : Reads ActPart.cells 1 w w.heap.size A n ps) (hp : ∀ p ∈ ps, PartOk w w.heap.size p) (hn : n ≤ 10) (h0 : 0 < (ps.flatMap ActPart.l).length) (hs : (ps.flatMap ActPart.l).length ≤ 400) :
    Calls Tryd.prog 31 #[.slice A n c] w fun e w' => ∃ A' m' c', e = .returned (.slice A' m' c') ∧ m' = (ps.flatMap ActPart.l).length ∧ w'.ownsRow w.heap.size 62 4 (.slice A' m' c') m' (actCells (ps.flatMap ActPart.l)) ∧ Below w.heap.size w w' := by
  have HR := Lib.hid h
  have HP := Lib.hid hp
  have HLN := Lib.hid h.len
  obtain ⟨all, hall⟩ : ∃ all, all = ps.flatMap ActPart.l := ⟨_, rfl⟩
  rw [← hall] at h0 hs ⊢
  have HALL : Hid (joinTo ps n = all) := by show _ = _; rw [hall]; unfold joinTo; rw [List.take_of_length_le (by rw [h.len]; omega)]
  have HLE : Hid (∀ k, (joinTo ps k).length ≤ all.length) := by show ∀ k, _; rw [hall]; exact joinTo_le
  clear h hp hall
  go_enter Tryd.func31, Tryd.ntmps31
  go_upto_block 0 with (fail)
  go_cut [3] (fun s wx => s = .int .i64 (all.length : Int) ∧ wx = w)
  case first =>
    go_wp2_with fail
    go_loopw [3, 11] (fun s i wr => (∃ k : Nat, k ≤ n ∧ i = .int .i64 k ∧ s = .int .i64 ((joinTo ps k).length : Int)) ∧ wr = w) (fun _ i _ => n - (intOf i).toNat)
    case atStart => exact ⟨⟨0, Nat.zero_le _, rfl, rfl⟩, rfl⟩
    case round =>
      obtain ⟨⟨k, hk, rfl, rfl⟩, rfl⟩ := hrel
      by_cases hlt : k < n
      · obtain ⟨p, b, off, hpk, rfl, hbb, hcell⟩ := HR.out.get hlt
        have q0 := hcell 0 _ rfl
        have hle := HLE.out (k + 1)
        rw [joinTo_more hpk, List.length_append] at hle
        have HPK := Lib.hid hpk
        have hq : wr.cell? ⟨b, off + k, none⟩ = some (.slice (some ⟨p.g, 0, none⟩) p.l.length p.c) := by simpa using q0
        have d1 : decide (((joinTo ps k).length : Int) + (p.l.length : Int) < 0) = false := decide_eq_false (by omega)
        have hw1 : IntKind.i64.wrap (((joinTo ps k).length : Int) + (p.l.length : Int)) = ((joinTo ps k).length : Int) + (p.l.length : Int) := IntWalk.i64_in _ (by omega)
        clear hcell q0 hpk
        go_wp2_with fail
        go_roundw
        case rel => exact ⟨⟨k + 1, by omega, by go_num, by rw [joinTo_more HPK.out, List.length_append]; simp⟩, trivial⟩
        case measure => simp [intOf]; omega
      · obtain rfl : k = n := by omega
        go_wp2_with fail
        go_meet
        exact ⟨by rw [HALL.out], rfl⟩
  case rest =>
    obtain ⟨rfl, rfl⟩ := hcut
    go_wp2_with fail
    refine (grow_any all.length wc h0 (by omega)).mono ?_
    rintro e w1 ⟨A1, c1, rfl, ho, hb⟩
    have HO1 := Lib.hid ho
    have HB1 := Lib.hid hb
    clear ho hb
    go_wp2_with fail
    go_loopw [6, 27] (fun s i wr => (∃ k : Nat, k ≤ n ∧ i = .int .i64 k ∧ ∃ A' m' c', s = .slice A' m' c' ∧ m' = (joinTo ps k).length ∧ wr.ownsRow wc.heap.size 62 4 (.slice A' m' c') m' (actCells (joinTo ps k))) ∧ Below wc.heap.size wc wr) (fun _ i _ => n - (intOf i).toNat)
    case atStart => exact ⟨⟨0, Nat.zero_le _, rfl, A1, 0, c1, rfl, rfl, HO1.out⟩, HB1.out⟩
    case round =>
      obtain ⟨⟨k, hk, rfl, A', m', c', rfl, hm', ho⟩, hbel⟩ := hrel
      have HO := Lib.hid ho
      have HL := Lib.hid hbel
      have HM := Lib.hid hm'
      clear ho hbel hm'
      by_cases hlt : k < n
      · obtain ⟨p, b, off, hpk, rfl, hbb, hcell⟩ := (HR.out.below HL.out (Nat.le_refl _)).get hlt
        have q0 := hcell 0 _ rfl
        have hle := HLE.out (k + 1)
        rw [joinTo_more hpk, List.length_append] at hle
        have HPK := Lib.hid hpk
        have HPO := Lib.hid ((HP.out p (List.mem_of_getElem? hpk)).below HL.out (Nat.le_refl _))
        have hq : wr.cell? ⟨b, off + k, none⟩ = some (.slice (some ⟨p.g, 0, none⟩) p.l.length p.c) := by simpa using q0
        obtain ⟨i0, hi0, hz0, hz1, hz2⟩ := info_parts info_act
        have hmm : m' + p.l.length ≤ 400 := by rw [HM.out]; omega
        clear hcell q0 hpk hle
        go_wp2_with (at_builtin; refine wpList_append_own _ rfl _ _ 40 rfl wc.heap.size 62 i0 _ 4 48 Tryd.underlying40 hi0 hz0 hz1 hz2 rfl (by decide) (.slice A' m' c') m' (actCells (joinTo ps k)) rfl HO.out ⟨p.g, 0, none⟩ p.l.length p.c (actCells p.l) rfl (actCells_length _) (fun j u hu => by rw [addr_add, Nat.zero_add]; exact HPO.out.2 j u hu) actCells_one (by unfold maxLen; omega) (by omega) HL.out.size ?_)
        intro v' w3 hown3 hg3 _
        obtain ⟨A4, c4, hv⟩ := own_slice hown3
        rw [hv] at hown3 ⊢
        have HO3 := Lib.hid hown3
        have HL3 := Lib.hid (HL.out.grown hg3 HL.out.size (fun j hj => own_base HO.out j hj))
        clear hv hown3 hg3
        go_wp2_with fail
        go_roundw
        case rel =>
          refine ⟨⟨k + 1, by omega, by go_num, A4, m' + p.l.length, c4, rfl, by rw [joinTo_more HPK.out, List.length_append, HM.out], ?_⟩, HL3.out⟩
          rw [joinTo_more HPK.out, actCells_append]
          exact HO3.out
        case measure => simp [intOf]; omega
      · obtain rfl : k = n := by omega
        have hm := HM.out
        rw [HALL.out] at hm
        have HM' := Lib.hid hm
        have ho := HO.out
        rw [HALL.out] at ho
        have HO' := Lib.hid ho
        clear hm ho
        go_wp2_with fail
        go_ret
        exact ⟨A', m', c', rfl, HM'.out, HO'.out, HL.out⟩
end Go.Proofs.YtniomgngiiiklabDoor
