/- slices.Backward at records: the iterator's contract: the records come from the last to the first. -/
import Derived.Test.YtniomgngiiiklaaOpen
import Derived.RangeFuncNested
import Derived.RangeFuncBound
import Derived.RangeFuncCalls
import Derived.RangeFuncLeaves
import Derived.RangeFuncBox
import Derived.Shelf.Abstract
import Derived.Shelf.RegionOpen
import Derived.OwnWalkIn
import Derived.TacticsInMore
import Derived.LoopNIn
import Derived.LoopIn
namespace Go.Proofs.Ytniomgngiiiklaa
open Go.RowKit Go.Shelf
attribute [local go_sem] Oper.semAt_some

/-- What has come when k rounds are over: the last k records, the last one first. -/
def came (rs : List MRec) (k : Nat) : List (Int × MRec) := (List.range k).map fun j => (((rs.length - 1 - j : Nat) : Int), (rs[rs.length - 1 - j]?).getD MRec.zero)
theorem came_succ (rs : List MRec) (k : Nat) : came rs (k + 1) = came rs k ++ [(((rs.length - 1 - k : Nat) : Int), (rs[rs.length - 1 - k]?).getD MRec.zero)] := by simp [came, List.range_succ]
theorem came_length (rs : List MRec) (k : Nat) : (came rs k).length = k := by simp [came]

/-- What a round that goes on keeps: all below n₀, and block g. -/
def KpAt (n₀ g : Nat) (A B : World) : Prop := Below n₀ A B ∧ B.heap[g]? = A.heap[g]?
theorem kpAt_t {n₀ g : Nat} {A B C : World} (h : KpAt n₀ g A B) (k : KpAt n₀ g B C) : KpAt n₀ g A C := ⟨h.1.trans k.1, k.2.trans h.2⟩
theorem kpAt_b {n₀ g : Nat} {w : World} (hn : n₀ ≤ w.heap.size) (hg : g < w.heap.size) (W : World) (l : Nat) (o o' : Obj) (hl : w.heap.size ≤ l) (h : W.heap[l]? = some o) (h1 : o.isCells = false) (h2 : o.isWalk = false) : KpAt n₀ g W (W.putObj l o') :=
  ⟨belowK_b hn W l o o' hl h h1 h2, World.putObj_heap_other (by omega)⟩
theorem kpAt_refl (n₀ g : Nat) (W : World) : KpAt n₀ g W W := ⟨Below.refl _ _, rfl⟩

def recArgs (x : Int × MRec) : Array Value := #[.int .i64 x.1, .agg #[.int .i64 x.2.start, .int .i64 x.2.commit, .string x.2.value]]

set_option maxRecDepth 100000 in
set_option maxHeartbeats 2000000 in
theorem back1_in (F : Fence) (n : Nat) (hf : F.fn 52) (hro : F.round = none) (hn : 1 ≤ n) (l g n₀ : Nat) (A : Option Addr) (len cap : Nat) (rs : List MRec) (hreach : len ≤ 140737488351232) (hlen : rs.length = len)
    (J Jx : List (Int × MRec) → World → Prop)
    (hY : ∀ pre x W, J pre W → pre.length < len → YieldAt F (n - 1) Try.prog l (recArgs x) W fun e W' =>
      (e = .returned (.bool true) ∧ J (pre ++ [x]) W' ∧ KpAt n₀ g W W') ∨ (e = .returned (.bool false) ∧ Jx (pre ++ [x]) W'))
    (W : World) (hg : W.heap[g]? = some (.cells #[.slice A len cap] 28 (0, 0))) (hR : RecsAt W n₀ A len rs) (h0 : J [] W) :
    CallsIn F n Try.prog 52 #[.func (.yield l) #[] #[], .pointer (some ⟨g, 0, none⟩)] W fun e W' => (∃ v, e = .returned v) ∧
      ((∃ ys, ys = came rs len ∧ J ys W') ∨ (∃ pre, (∃ k, k ≤ len ∧ pre = came rs k) ∧ Jx pre W')) := by
  have Hl := Lib.hid hlen
  have HR := Lib.hid hR
  have HG := Lib.hid hg
  obtain ⟨hc0, _⟩ := blk_read hg
  clear hlen hR hg
  refine callsIn_of_wp Try.func52 rfl hf ?_ hro
  simp only [Try.ntmps52, List.size_toArray, List.length_cons, List.length_nil, Nat.reduceAdd, Nat.reduceSub, Array.replicate_succ, Array.replicate_zero, List.push_toArray, List.append_toArray, List.nil_append, List.cons_append]
  gi_wp2
  gi_loopw [3] (fun i wr => ∃ m k : Nat, m + k = len ∧ i = .int .i64 ((m : Int) - 1) ∧ J (came rs k) wr ∧ KpAt n₀ g W wr) (fun i _ => (intOf i + 1).toNat)
  case atStart => exact ⟨len, 0, rfl, rfl, h0, kpAt_refl _ _ _⟩
  case round =>
    obtain ⟨m, k, hmk, rfl, hJs, hnx⟩ := hrel
    have HN := Lib.hid hnx
    obtain ⟨hcx, _⟩ := blk_read (hnx.2.trans HG.out)
    clear hnx hc0
    cases m with
    | zero =>
      obtain rfl : k = len := by omega
      gi_wp2
      go_end0
      exact ⟨⟨_, rfl⟩, .inl ⟨_, rfl, hJs⟩⟩
    | succ m =>
      have hm1 : (((m + 1 : Nat) : Int) - 1) = (m : Int) := by omega
      rw [hm1]
      clear hm1
      obtain ⟨x, b, off, hx, rfl, hbb, g0, g1, g2⟩ := (HR.out.below HN.out.1 (Nat.le_refl _)).at_ (show m < len by omega)
      have hce : came rs (k + 1) = came rs k ++ [((m : Int), x)] := by
        have e : rs.length - 1 - k = m := by have := Hl.out; omega
        rw [came_succ, e, hx]; rfl
      have HC := Lib.hid hce
      clear hx hce
      obtain ⟨fn, tmps, assign, body, hy, hR⟩ := hY _ ((m : Int), x) wr hJs (by rw [came_length]; omega)
      simp only [recArgs] at hy
      have hml : (m : Int) < (len : Int) := by omega
      have hm0 : (0 : Int) ≤ (m : Int) := by omega
      gi_wp2
      refine hR.mono ?_
      rintro e W3 (⟨rfl, hJ3, hk3⟩ | ⟨rfl, hJx3⟩)
      · gi_wp2
        go_roundw
        case rel => exact ⟨m, k + 1, by omega, rfl, by rw [HC.out]; exact hJ3, kpAt_t HN.out hk3⟩
        case measure => simp [intOf]
      · gi_wp2
        refine bodyPost_ret (results_none rfl _ _ _) rfl ?_
        exact ⟨⟨_, rfl⟩, .inr ⟨_, ⟨k + 1, by omega, HC.out.symm⟩, hJx3⟩⟩

theorem back_in (F : Fence) (n : Nat) (hf : F.fn 42) (hro : F.round = none) (A : Option Addr) (len cap : Nat) (w : World) :
    CallsIn F n Try.prog 42 #[.slice A len cap] w
      fun e w' => e = .returned (.func (.func 52) #[] #[.pointer (some ⟨w.heap.size, 0, none⟩)]) ∧ w' = w.alloc (.cells #[.slice A len cap] 28) := by
  refine callsIn_of_wp Try.func42 rfl hf ?_ hro
  simp only [Try.ntmps42, List.size_toArray, List.length_cons, List.length_nil, Nat.reduceAdd, Nat.reduceSub, Array.replicate_succ, Array.replicate_zero, List.push_toArray, List.append_toArray, List.nil_append, List.cons_append]
  gi_wp2
  go_ret
  exact ⟨rfl, rfl⟩

theorem back_stops (F : Fence) (n : Nat) (hf : F.fn 52) (hro : F.round = none) (hn : 1 ≤ n) (g n₀ : Nat) (A : Option Addr) (len cap : Nat) (rs : List MRec) (hreach : len ≤ 140737488351232) (hlen : rs.length = len) (w : World) (hn₀ : n₀ ≤ w.heap.size)
    (hg : w.heap[g]? = some (.cells #[.slice A len cap] 28 (0, 0))) (hR : RecsAt w n₀ A len rs) :
    SeqStopsK F n Try.prog 52 #[.pointer (some ⟨g, 0, none⟩)] recArgs (KpAt n₀ g) (fun ys => ys = came rs len) (fun pre => ∃ k, k ≤ len ∧ pre = came rs k) len w := fun l J Jx W hW _ _ hY h0 =>
  back1_in F n hf hro hn l g n₀ A len cap rs hreach hlen J Jx hY W ((hW.block g (blk_lt hg)).trans hg) (hR.below hW hn₀) h0
end Go.Proofs.Ytniomgngiiiklaa
