/- Small laws on blocks that are known whole. No program in sight. -/
import Derived.Test.YtniomgngiiiklaaRep
namespace Go.Proofs.Ytniomgngiiiklaa
open Go.RowKit
section
variable {w w' : World} {g : Nat} {t : TypeId} {cs : Array Value}
theorem blk_set (h : w.heap[g]? = some (.cells cs t (0, 0))) (i : Nat) (u : Value) : (w.setCell ⟨g, i, none⟩ u).heap[g]? = some (.cells (cs.setIfInBounds i u) t (0, 0)) := by
  simp [World.setCell, Array.getElem?_modify, h]
theorem blk_far (h : w.heap[g]? = some (.cells cs t (0, 0))) {p : Addr} (hp : g ≠ p.block) (u : Value) : (w.setCell p u).heap[g]? = some (.cells cs t (0, 0)) := (Below.heap_setCell w p u g hp).trans h
theorem blk_drewN (h : w.heap[g]? = some (.cells cs t (0, 0))) (n : Nat) : (w.drewN n).heap[g]? = some (.cells cs t (0, 0)) := h
theorem blk_grown {row : Option Nat} (h : w.heap[g]? = some (.cells cs t (0, 0))) (hb : w.grownBy w' row) (hg : some g ≠ row) : w'.heap[g]? = some (.cells cs t (0, 0)) := (hb.block g (blk_lt h) hg).trans h
theorem blk_ne {g' : Nat} {t' : TypeId} {cs' : Array Value} (h : w.heap[g]? = some (.cells cs t (0, 0))) (h' : w.heap[g']? = some (.cells cs' t' (0, 0))) (hne : t ≠ t') : g ≠ g' := by
  rintro rfl
  rw [h] at h'
  injection h' with h'
  injection h' with _ ht
  exact hne ht
/-- A row of another element type lies in another block. -/
theorem own_ne {base : Nat} {e : TypeId} {size n : Nat} {v : Value} {xs : List Value} (h : w.ownsRow base e size v n xs) (hg : w.heap[g]? = some (.cells cs t (0, 0))) (hne : e ≠ t) : some g ≠ v.ownBlock := by
  rcases h.2 with ⟨rfl, _⟩ | ⟨g', cap, cur, rfl, _, hh, _⟩
  · simp [Value.ownBlock]
  · intro he
    have e' : g = g' := by simpa [Value.ownBlock] using he
    subst e'
    exact blk_ne hh hg hne rfl
end
end Go.Proofs.Ytniomgngiiiklaa
