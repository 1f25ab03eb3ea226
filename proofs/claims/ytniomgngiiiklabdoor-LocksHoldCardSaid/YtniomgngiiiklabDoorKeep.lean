/- What is known of blocks, owned rows and old memory, carried over a call and over new blocks: each law takes a fact hidden and gives it back hidden. No program in sight. -/
import Derived.Test.YtniomgngiiiklabDoorMem
namespace Go.Proofs.YtniomgngiiiklabDoor
open Go.RowKit
/-- All that was there is as it was. -/
structure Old (W w1 : World) : Prop where
  size : W.heap.size ≤ w1.heap.size
  block : ∀ g, g < W.heap.size → w1.heap[g]? = W.heap[g]?
section
variable {w W w1 : World} {B B0 g : Nat} {cs : Array Value} {t : TypeId} {o o' o'' o''' : Obj}
theorem old_alloc (W : World) (o : Obj) : Old W (W.alloc o) := ⟨by simp, fun g hg => Below.heap_alloc W o g hg⟩
theorem Old.trans {a b c : World} (h : Old a b) (k : Old b c) : Old a c := ⟨Nat.le_trans h.size k.size, fun g hg => (k.block g (Nat.lt_of_lt_of_le hg h.size)).trans (h.block g hg)⟩
theorem old_below (hb : Below B W w1) (hB : W.heap.size ≤ B) : Old W w1 := ⟨hb.size, fun g hg => hb.block g (Nat.lt_of_lt_of_le hg hB)⟩
theorem old0 (_ : Hid (Below B0 w W)) (hb : Below B W w1) (hB : W.heap.size ≤ B) : Old W w1 := old_below hb hB
theorem old1 (_ : Hid (Below B0 w W)) (hb : Below B (W.alloc o) w1) (hB : W.heap.size ≤ B) : Old W w1 :=
  ⟨by have := hb.size; simp at this; omega, fun g hg => (hb.block g (Nat.lt_of_lt_of_le hg hB)).trans ((old_alloc W o).block g hg)⟩
theorem old2 (_ : Hid (Below B0 w W)) (hb : Below B ((W.alloc o).alloc o') w1) (hB : W.heap.size ≤ B) : Old W w1 :=
  ⟨by have := hb.size; simp at this; omega, fun g hg => (hb.block g (Nat.lt_of_lt_of_le hg hB)).trans (((old_alloc W o).trans (old_alloc _ o')).block g hg)⟩
theorem old3 (_ : Hid (Below B0 w W)) (hb : Below B (((W.alloc o).alloc o').alloc o'') w1) (hB : W.heap.size ≤ B) : Old W w1 :=
  ⟨by have := hb.size; simp at this; omega, fun g hg => (hb.block g (Nat.lt_of_lt_of_le hg hB)).trans ((((old_alloc W o).trans (old_alloc _ o')).trans (old_alloc _ o'')).block g hg)⟩
theorem Old.blk (h : Old W w1) (hg : Hid (W.heap[g]? = some (.cells cs t (0, 0)))) : Hid (w1.heap[g]? = some (.cells cs t (0, 0))) := (h.block g (blk_lt hg.out)).trans hg.out
theorem Old.row {base n size : Nat} {e : TypeId} {v : Value} {xs : List Value} (h : Old W w1) (hr : Hid (W.ownsRow base e size v n xs)) : Hid (w1.ownsRow base e size v n xs) := by
  refine ⟨hr.out.1, ?_⟩
  rcases hr.out.2 with hr | ⟨g', cap, cur, rfl, hbg, hg, r⟩
  · exact .inl hr
  · exact .inr ⟨g', cap, cur, rfl, hbg, (h.block g' (blk_lt hg)).trans hg, r⟩
theorem keepL0 (h : Hid (Below B0 w W)) (hb : Below B W w1) (h0 : B0 ≤ W.heap.size) (hB : W.heap.size ≤ B) : Hid (Below B0 w w1) := h.out.trans (hb.mono (Nat.le_trans h0 hB))
theorem keepL1 (h : Hid (Below B0 w W)) (hb : Below B (W.alloc o) w1) (h0 : B0 ≤ W.heap.size) (hB : W.heap.size ≤ B) : Hid (Below B0 w w1) := (h.out.alloc h0 _).trans (hb.mono (Nat.le_trans h0 hB))
theorem keepL2 (h : Hid (Below B0 w W)) (hb : Below B ((W.alloc o).alloc o') w1) (h0 : B0 ≤ W.heap.size) (hB : W.heap.size ≤ B) : Hid (Below B0 w w1) :=
  ((h.out.alloc h0 _).alloc (by simp; omega) _).trans (hb.mono (Nat.le_trans h0 hB))
theorem keepL3 (h : Hid (Below B0 w W)) (hb : Below B (((W.alloc o).alloc o').alloc o'') w1) (h0 : B0 ≤ W.heap.size) (hB : W.heap.size ≤ B) : Hid (Below B0 w w1) :=
  (((h.out.alloc h0 _).alloc (by simp; omega) _).alloc (by simp; omega) _).trans (hb.mono (Nat.le_trans h0 hB))
/-- Three, four stores into a block that is known whole. -/
theorem below_row5' {w0 w : World} {B g : Nat} (h : Hid (Below B w0 w)) (hg : B ≤ g) (a' b' c' d' e' : Value) :
    Hid (Below B w0 (((((w.setCell ⟨g, 0, none⟩ a').setCell ⟨g, 1, none⟩ b').setCell ⟨g, 2, none⟩ c').setCell ⟨g, 3, none⟩ d').setCell ⟨g, 4, none⟩ e')) := below_row5 h.out hg _ _ _ _ _
end
theorem blk_new2 (w : World) {a b : Array Value} {ta tb : TypeId} : Below w.heap.size w ((w.alloc (.cells a ta)).alloc (.cells b tb)) ∧
    ((w.alloc (.cells a ta)).alloc (.cells b tb)).heap[w.heap.size]? = some (.cells a ta (0, 0)) ∧ ((w.alloc (.cells a ta)).alloc (.cells b tb)).heap[w.heap.size + 1]? = some (.cells b tb (0, 0)) :=
  ⟨((Below.refl _ _).alloc (Nat.le_refl _) _).alloc (by simp) _, blk_old (blk_new w _ _) _, blk_new_at (w.alloc _) _ _ (by simp)⟩
theorem blk_new3 (w : World) {a b c : Array Value} {ta tb tc : TypeId} : Below w.heap.size w (((w.alloc (.cells a ta)).alloc (.cells b tb)).alloc (.cells c tc)) ∧
    (((w.alloc (.cells a ta)).alloc (.cells b tb)).alloc (.cells c tc)).heap[w.heap.size]? = some (.cells a ta (0, 0)) ∧ (((w.alloc (.cells a ta)).alloc (.cells b tb)).alloc (.cells c tc)).heap[w.heap.size + 1]? = some (.cells b tb (0, 0)) ∧
    (((w.alloc (.cells a ta)).alloc (.cells b tb)).alloc (.cells c tc)).heap[w.heap.size + 1 + 1]? = some (.cells c tc (0, 0)) :=
  ⟨(blk_new2 w).1.alloc (by simp; omega) _, blk_old (blk_new2 w).2.1 _, blk_old (blk_new2 w).2.2 _, blk_new_at ((w.alloc _).alloc _) _ _ (by simp)⟩
theorem blk_new4 (w : World) {a b c d : Array Value} {ta tb tc td : TypeId} : Below w.heap.size w ((((w.alloc (.cells a ta)).alloc (.cells b tb)).alloc (.cells c tc)).alloc (.cells d td)) ∧
    ((((w.alloc (.cells a ta)).alloc (.cells b tb)).alloc (.cells c tc)).alloc (.cells d td)).heap[w.heap.size]? = some (.cells a ta (0, 0)) ∧ ((((w.alloc (.cells a ta)).alloc (.cells b tb)).alloc (.cells c tc)).alloc (.cells d td)).heap[w.heap.size + 1]? = some (.cells b tb (0, 0)) ∧
    ((((w.alloc (.cells a ta)).alloc (.cells b tb)).alloc (.cells c tc)).alloc (.cells d td)).heap[w.heap.size + 1 + 1]? = some (.cells c tc (0, 0)) ∧ ((((w.alloc (.cells a ta)).alloc (.cells b tb)).alloc (.cells c tc)).alloc (.cells d td)).heap[w.heap.size + 1 + 1 + 1]? = some (.cells d td (0, 0)) :=
  ⟨(blk_new3 w).1.alloc (by simp; omega) _, blk_old (blk_new3 w).2.1 _, blk_old (blk_new3 w).2.2.1 _, blk_old (blk_new3 w).2.2.2 _, blk_new_at (((w.alloc _).alloc _).alloc _) _ _ (by simp)⟩
/-- An owned row in a world whose old blocks are as they were. -/
theorem own_at {w w' : World} {base n size : Nat} {e : TypeId} {v : Value} {xs : List Value} (h : w.ownsRow base e size v n xs) (hk : ∀ g, g < w.heap.size → w'.heap[g]? = w.heap[g]?) : w'.ownsRow base e size v n xs := by
  refine ⟨h.1, ?_⟩
  rcases h.2 with h | ⟨g', cap, cur, rfl, hbg, hg, r⟩
  · exact .inl h
  · exact .inr ⟨g', cap, cur, rfl, hbg, (hk g' (blk_lt hg)).trans hg, r⟩
theorem rec_news {w : World} {g : Nat} {x : MRec} {t : TypeId} (h : w.heap[g]? = some (.cells #[.int .i64 x.start, .int .i64 x.commit, .string x.value] t (0, 0))) : ∀ j u, x.cells[j]? = some u → w.cell? ((⟨g, 0, none⟩ : Addr).add j) = some u := by
  intro j u hu
  rw [addr_add, (blk_read h).1]
  simpa [MRec.cells] using hu
theorem rec_one (x : MRec) : ∀ u ∈ x.cells, u.oneCell' = true := fun u hu => recCells_one (rs := [x]) u (by simpa [recCells] using hu)
theorem own_old_ne {w : World} {base n size b : Nat} {e : TypeId} {v : Value} {xs : List Value} (h : w.ownsRow base e size v n xs) (hb : b < base) : some b ≠ v.ownBlock := by
  rcases h.2 with ⟨rfl, _⟩ | ⟨g', cap, cur, rfl, hbg, _⟩
  · simp [Value.ownBlock]
  · simp [Value.ownBlock]; omega
theorem cell_grown {w w1 W : World} {base n size b : Nat} {e : TypeId} {v : Value} {xs : List Value} {o : Obj} (ho : w.ownsRow base e size v n xs) (hg : World.grownBy (W.alloc o) w1 v.ownBlock) (hW : W.heap = w.heap) (hb : b < base) (hlt : b < w.heap.size) (i : Nat) : w1.cell? ⟨b, i, none⟩ = w.cell? ⟨b, i, none⟩ := by
  refine World.cell?_of_block (a := ⟨b, i, none⟩) ?_
  refine (hg.block b (by simp; rw [hW]; omega) (own_old_ne ho hb)).trans ?_
  rw [Below.heap_alloc W o b (by rw [hW]; exact hlt), hW]
theorem own_base {w : World} {base n size : Nat} {e : TypeId} {v : Value} {xs : List Value} (h : w.ownsRow base e size v n xs) : ∀ k, v.ownBlock = some k → base ≤ k := by
  intro k hk
  rcases h.2 with ⟨rfl, _⟩ | ⟨g', cap, cur, rfl, hbg, _⟩
  · simp [Value.ownBlock] at hk
  · simp [Value.ownBlock] at hk; omega
end Go.Proofs.YtniomgngiiiklabDoor
