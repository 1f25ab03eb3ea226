/- The walks of keep's picked and Key, and of strconv.Itoa at numbers below ten. -/
import Derived.Test.YtniomgngiiiklabDoorRows
import Derived.Test.YtniomgngiiiklabDoorKey
import Derived.Test.YtniomgngiiiklabDoorOpen
namespace Go.Proofs.YtniomgngiiiklabDoor
open Go.RowKit

/-- A number from 0 to m - 1. -/
def pickF (n m : Int) : Int := (if n < 0 then -(n + 1) else n) % m
theorem pickF_lt (n : Int) {m : Int} (hm : 0 < m) : 0 ≤ pickF n m ∧ pickF n m < m := ⟨Int.emod_nonneg _ (by omega), Int.emod_lt_of_pos _ hm⟩
def InI64 (n : Int) : Prop := -9223372036854775808 ≤ n ∧ n ≤ 9223372036854775807

theorem picked_any (n m : Int) (w : World) (hn : InI64 n) (hm : 0 < m) (hm' : m ≤ 1000000) :
    Calls Tryd.prog 17 #[.int .i64 n, .int .i64 m] w fun e w' => e = .returned (.int .i64 (pickF n m)) ∧ w = w' := by
  obtain ⟨h1, h2⟩ := hn
  unfold pickF
  by_cases h0 : n < 0
  · rw [if_pos h0]
    have e1 : (m == 0) = false := by simp; omega
    go_enter Tryd.func17, Tryd.ntmps17
    go_wp2
    go_ret
    exact ⟨ret_int (by rw [← Int.neg_tmod]; exact Int.tmod_eq_emod_of_nonneg (by omega)), rfl⟩
  · rw [if_neg h0]
    have h3 : 0 ≤ n := by omega
    have e1 : (m == 0) = false := by simp; omega
    go_enter Tryd.func17, Tryd.ntmps17
    go_wp2
    go_ret
    exact ⟨rfl, rfl⟩

def keyN (n : Int) : ByteArray := if n = 0 then ⟨#[97, 98]⟩ else if n = 1 then ⟨#[98]⟩ else if n = 2 then ⟨#[99, 111, 119]⟩ else ⟨#[100, 111, 103]⟩
def keyF (n : Int) : ByteArray := keyN (pickF n 4)
theorem keepKey_any (n : Int) (w : World) (hn : InI64 n) :
    Calls Tryd.prog 35 #[.int .i64 n] w fun e w' => e = .returned (.string (keyF n)) ∧ Below w.heap.size w w' := by
  unfold keyF
  obtain ⟨h1, h2⟩ := pickF_lt n (m := 4) (by omega)
  have HN := Lib.hid hn
  obtain ⟨p, hpe⟩ : ∃ p, pickF n 4 = p := ⟨_, rfl⟩
  rw [hpe] at h1 h2 ⊢
  have HP := Lib.hid hpe
  clear hn hpe
  go_enter Tryd.func35, Tryd.ntmps35
  go_wp2_with fail
  refine (picked_any n 4 _ HN.out (by omega) (by omega)).mono ?_
  rintro e w1 ⟨rfl, rfl⟩
  rw [HP.out]
  have hp : p = 0 ∨ p = 1 ∨ p = 2 ∨ p = 3 := by omega
  clear h1 h2
  rcases hp with rfl | rfl | rfl | rfl
  all_goals
    go_wp2
    go_ret
    exact ⟨rfl, (Below.refl _ _).alloc (Nat.le_refl _) _⟩

def digitS (n : Int) : ByteArray := ⟨#[UInt8.ofNat (48 + n.toNat)]⟩
theorem itoa_small (n : Int) (w : World) (h1 : 0 ≤ n) (h2 : n < 10) :
    Calls Tryd.prog 36 #[.int .i64 n] w fun e w' => e = .returned (.string (digitS n)) ∧ w = w' := by
  have hp : n = 0 ∨ n = 1 ∨ n = 2 ∨ n = 3 ∨ n = 4 ∨ n = 5 ∨ n = 6 ∨ n = 7 ∨ n = 8 ∨ n = 9 := by omega
  clear h1 h2
  rcases hp with rfl | rfl | rfl | rfl | rfl | rfl | rfl | rfl | rfl | rfl
  all_goals
    go_enter Tryd.func36, Tryd.ntmps36
    go_wp2_with (go_in)
    go_ret
    exact ⟨rfl, rfl⟩
end Go.Proofs.YtniomgngiiiklabDoor

/- Raw things among the arguments: read as plain data. No walk. -/
namespace Go.Proofs.YtniomgngiiiklabDoor
open Go.RowKit Go.ChangeShapes Go.WideShapes Go.Deep
set_option maxRecDepth 100000

structure MRaw where
  kind : Int
  a : Int
  b : Int
  c : Int
def MRaw.Ok (x : MRaw) : Prop := InI64 x.kind ∧ InI64 x.a ∧ InI64 x.b ∧ InI64 x.c
/-- The slice (A, n) reads as raw things. -/
structure RawsOk (w : World) (B : Nat) (A : Option Addr) (n c : Nat) (l : List MRaw) : Prop where
  len : l.length = n
  at_ : ∀ (k : Nat) (x : MRaw), l[k]? = some x → x.Ok ∧ ∃ b off, A = some ⟨b, off, none⟩ ∧ b < B ∧ w.cell? ⟨b, off + k * 4, none⟩ = some (.int .i64 x.kind) ∧ w.cell? ⟨b, off + k * 4 + 1, none⟩ = some (.int .i64 x.a) ∧
    w.cell? ⟨b, off + k * 4 + 2, none⟩ = some (.int .i64 x.b) ∧ w.cell? ⟨b, off + k * 4 + 3, none⟩ = some (.int .i64 x.c)
  small : n * 32 ≤ 140737488351232
theorem RawsOk.keep {w w' : World} {B C n c : Nat} {A : Option Addr} {l : List MRaw} (h : RawsOk w B A n c l) (hk : ∀ g, g < B → w'.heap[g]? = w.heap[g]?) (hC : B ≤ C) : RawsOk w' C A n c l :=
  ⟨h.len, fun k x hx => by
    obtain ⟨ho, b, off, e, hb, h0, h1, h2, h3⟩ := h.at_ k x hx
    have hc : ∀ i, w'.cell? ⟨b, i, none⟩ = w.cell? ⟨b, i, none⟩ := fun i => World.cell?_of_block (hk b hb)
    exact ⟨ho, b, off, e, Nat.lt_of_lt_of_le hb hC, (hc _).trans h0, (hc _).trans h1, (hc _).trans h2, (hc _).trans h3⟩, h.small⟩
theorem RawsOk.raw {w : World} {B n c : Nat} {A : Option Addr} {l : List MRaw} (h : RawsOk w B A n c l) {k : Nat} (hk : k < n) : ∃ x b off, l[k]? = some x ∧ x.Ok ∧ A = some ⟨b, off, none⟩ ∧ b < B ∧ w.cell? ⟨b, off + k * 4, none⟩ = some (.int .i64 x.kind) ∧ w.cell? ⟨b, off + k * 4 + 1, none⟩ = some (.int .i64 x.a) ∧
    w.cell? ⟨b, off + k * 4 + 2, none⟩ = some (.int .i64 x.b) ∧ w.cell? ⟨b, off + k * 4 + 3, none⟩ = some (.int .i64 x.c) := by
  have hl : k < l.length := by rw [h.len]; exact hk
  obtain ⟨ho, b, off, hr⟩ := h.at_ k l[k] (List.getElem?_eq_getElem hl)
  exact ⟨l[k], b, off, List.getElem?_eq_getElem hl, ho, hr⟩

theorem cellsOf_raw : Tryd.prog.cellsOf 78 = 4 := by kernel_rfl
theorem bytesOf_raw : Tryd.prog.bytesOf 78 = 32 := by kernel_rfl
theorem of_wf_i64 {a : Int} (h : (Lit.int .i64 a).wf = true) : -9223372036854775808 ≤ a ∧ a ≤ 9223372036854775807 := by
  simp [Lit.wf, IntKind.min, IntKind.max, IntKind.signed, IntKind.bits] at h
  omega
section
variable {H : Type} {enc : TypeId × Value → H} {w : World} {base : Nat} {spare : Nat → Bool} {held : Bool}
theorem trod_i64 {fuel : Nat} {cs : List Value} {x : DataW H × List MemPlace} (h : DataW.trod enc Tryd.prog w base spare held fuel 3 cs = some x) : ∃ a : Int, cs = [.int .i64 a] ∧ InI64 a := by
  obtain ⟨a, e, _, hw⟩ := DataW.trod_int Tryd.underlying3 h
  refine ⟨a, e, ?_⟩
  have h := of_wf_i64 hw
  exact ⟨by omega, by omega⟩
theorem open_raw {fuel : Nat} {cs : List Value} {x : DataW H × List MemPlace} (h : DataW.trod enc Tryd.prog w base spare held fuel 78 cs = some x) :
    ∃ r : MRaw, cs = [.int .i64 r.kind, .int .i64 r.a, .int .i64 r.b, .int .i64 r.c] ∧ r.Ok := by
  obtain ⟨xs, n, _, _, hlen, hxl, hf⟩ := DataW.trod_struct Tryd.underlying78 h
  rw [cellsOf_raw] at hlen
  match cs, hlen with
  | [c0, c1, c2, c3], _ =>
    match xs, hxl with
    | [y0, y1, y2, y3], _ =>
      have h0 : DataW.trod enc Tryd.prog w base spare held n 3 [c0] = some y0 := by simpa [one_int] using hf 0 _ rfl
      have h1 : DataW.trod enc Tryd.prog w base spare held n 3 [c1] = some y1 := by simpa [one_int] using hf 1 _ rfl
      have h2 : DataW.trod enc Tryd.prog w base spare held n 3 [c2] = some y2 := by simpa [one_int] using hf 2 _ rfl
      have h3 : DataW.trod enc Tryd.prog w base spare held n 3 [c3] = some y3 := by simpa [one_int] using hf 3 _ rfl
      obtain ⟨a0, e0, k0⟩ := trod_i64 h0
      obtain ⟨a1, e1, k1⟩ := trod_i64 h1
      obtain ⟨a2, e2, k2⟩ := trod_i64 h2
      obtain ⟨a3, e3, k3⟩ := trod_i64 h3
      simp at e0 e1 e2 e3
      exact ⟨⟨a0, a1, a2, a3⟩, by simp [e0, e1, e2, e3], k0, k1, k2, k3⟩
theorem open_raws {fuel : Nat} {cs : List Value} {x : DataW H × List MemPlace} (h : DataW.trod enc Tryd.prog w base spare held fuel 22 cs = some x)
    (hw : ∀ k ∈ x.1.weights Tryd.prog 22, k ≤ reachBytes) (hsp : ∀ b, spare b = true) :
    ∃ A n c rs, cs = [.slice A n c] ∧ RawsOk w w.heap.size A n c rs := by
  rcases open_slice Tryd.underlying22 h with ⟨hcs, _⟩ | ⟨a, len, cap, m, n, D, Pl, hcs, hb, hl, hm, hmm, hx, hi⟩
  · exact ⟨none, 0, 0, [], hcs, ⟨rfl, fun k r hr => by simp at hr, by omega⟩⟩
  · rw [hsp, if_pos rfl] at hmm
    subst hmm
    have hsz : m * 32 ≤ 140737488351232 := by
      have := hw (m * 32) (by
        rw [hx]
        simp only [DataW.weights, Tryd.underlying22, bytesOf_raw, List.length_map, List.length_range]
        rw [show len + (m - len) = m from by omega]
        exact List.mem_cons_self)
      exact this
    obtain ⟨rs, hrl, hrs⟩ := slice_elems (α := MRaw) (size := 4) (P := fun r cs => cs = [.int .i64 r.kind, .int .i64 r.a, .int .i64 r.b, .int .i64 r.c] ∧ r.Ok) (a := a) (m := m) (fun i him => by
      obtain ⟨cs', hc, ht⟩ := hi i him
      rw [cellsOf_raw] at hc
      obtain ⟨r, rfl, hk⟩ := open_raw ht
      exact ⟨r, _, hc, rfl, hk⟩) (by omega) ⟨⟨0, 0, 0, 0⟩⟩ len hl
    refine ⟨some a, len, m, rs, hcs, ⟨hrl, fun k r hr => ?_, by omega⟩⟩
    obtain ⟨b, off, cs', e, hlt, ⟨rfl, hok⟩, _, hc⟩ := hrs k r hr
    exact ⟨hok, b, off, by rw [e], hlt, hc 0 _ rfl, hc 1 _ rfl, hc 2 _ rfl, hc 3 _ rfl⟩
end
/-- Raw things among a law's parameters. -/
theorem open_raws_arg {H : Type} {enc : TypeId × Value → H} {w : World} {r0 : Reach} {b0 : Nat} {v : Value} {d : DataW H} {p : List MemPlace}
    (hv : Value.okWide Tryd.prog w r0 b0 22 v) (h : DataW.Trod enc Tryd.prog w 0 (fun _ => true) true 22 v d p) (hw : ∀ k ∈ d.weights Tryd.prog 22, k ≤ reachBytes) :
    ∃ A n c rs, v = .slice A n c ∧ RawsOk w w.heap.size A n c rs := by
  obtain ⟨fuel, hf⟩ := h
  obtain ⟨A, n, c, rs, hcs, hok⟩ := open_raws hf hw (fun _ => rfl)
  obtain ⟨a', l', c', rfl⟩ := okWide_slice Tryd.underlying22 hv
  have e : [Value.slice a' l' c'] = [Value.slice A n c] := hcs
  exact ⟨A, n, c, rs, by simpa using e, hok⟩
end Go.Proofs.YtniomgngiiiklabDoor
