/- A slice's reading, element by element. -/
import Derived.Test.YtniomgngiiiklabDoorOpen
namespace Go.Proofs.YtniomgngiiiklabDoor
open Go.RowKit Go.ChangeShapes Go.WideShapes Go.Deep
section
variable {H : Type} {enc : TypeId × Value → H} {w : World} {base : Nat}
/-- What a slice's reading gives, element by element, whatever the elements. -/
theorem slice_elems {α : Type} {size : Nat} {P : α → List Value → Prop} {a : Addr} {m : Nat} (h : ∀ i, i < m → ∃ (r : α) (cs : List Value), w.cells? base (a.add (i * size)) size = some cs ∧ P r cs) (hs : 0 < size) (hd : Nonempty α) (len : Nat) (hl : len ≤ m) :
    ∃ rs : List α, rs.length = len ∧ ∀ (k : Nat) (r : α), rs[k]? = some r → ∃ b off cs, a = ⟨b, off, none⟩ ∧ b < w.heap.size ∧ P r cs ∧ cs.length = size ∧ ∀ i u, cs[i]? = some u → w.cell? ⟨b, off + k * size + i, none⟩ = some u := by
  obtain ⟨d⟩ := hd
  refine ⟨(List.range len).map fun k => if h' : k < m then (h k h').choose else d, by simp, fun k r hr => ?_⟩
  rw [List.getElem?_map] at hr
  by_cases hk : k < len
  · rw [List.getElem?_range hk] at hr
    simp only [Option.map_some, Option.some.injEq] at hr
    rw [dif_pos (show k < m by omega)] at hr
    obtain ⟨cs, hc, hP⟩ := (h k (by omega)).choose_spec
    rw [hr] at hP
    obtain ⟨_, hlen, hat⟩ := World.cells?_some hc
    have hspot : a.spot = none := by
      obtain ⟨r0, cs0, hc0, _⟩ := h 0 (by omega)
      have h00 := (World.cells?_some hc0).2.1
      have hsz : 0 < cs0.length := by omega
      have := (World.cells?_some hc0).2.2 0 (by omega)
      rw [Go.Deep.add_add, List.getElem?_eq_getElem hsz, Nat.zero_mul] at this
      exact World.cell?_spot (a := a) this
    obtain ⟨b, off, spot⟩ := a
    subst hspot
    have hcell : ∀ i u, cs[i]? = some u → w.cell? ⟨b, off + k * size + i, none⟩ = some u := fun i u hu => by
      have hi : i < cs.length := (List.getElem?_eq_some_iff.1 hu).1
      have := hat i (by omega)
      rw [Go.Deep.add_add, addr_add, hu] at this
      rw [← this]; congr 2; omega
    have h0 : 0 < cs.length := by omega
    exact ⟨b, off, cs, rfl, World.block_lt_of_cell? w _ (hcell 0 _ (List.getElem?_eq_getElem h0)), hP, by omega, hcell⟩
  · rw [List.getElem?_eq_none (by simp; omega)] at hr
    cases hr

end
end Go.Proofs.YtniomgngiiiklabDoor
