/- The record of a transaction in a list of records. No program in sight. -/
import Derived.Test.YtniomgngiiiklabDoorRep
namespace Go.Proofs.YtniomgngiiiklabDoor

/-- The record of a transaction; none: there is none. -/
def recFind (rs : List MRec) (st : Int) : Option MRec := rs.find? fun x => x.start == st

theorem recFind_hit {rs : List MRec} {st : Int} {k : Nat} {x : MRec} (hx : rs[k]? = some x) (hp : x.start = st) (hb : ∀ (j : Nat) (y : MRec), j < k → rs[j]? = some y → (y.start == st) = false) : recFind rs st = some x := by
  unfold recFind
  rw [List.find?_eq_some_iff_getElem]
  obtain ⟨hlt, rfl⟩ := List.getElem?_eq_some_iff.1 hx
  exact ⟨by simpa using hp, k, hlt, rfl, fun j hj => by simp [hb j _ hj (List.getElem?_eq_getElem (by omega))]⟩
theorem recFind_miss {rs : List MRec} {st : Int} (hb : ∀ (j : Nat) (y : MRec), rs[j]? = some y → (y.start == st) = false) : recFind rs st = none := by
  unfold recFind
  rw [List.find?_eq_none]
  intro x hx
  obtain ⟨j, hj, rfl⟩ := List.mem_iff_getElem.1 hx
  simp [hb j _ (List.getElem?_eq_getElem hj)]
end Go.Proofs.YtniomgngiiiklabDoor
