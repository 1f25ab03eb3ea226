/- An owned row of records, read as an argument. No program's walk. -/
import Derived.Test.YtniomgngiiiklabDoorCopy
namespace Go.Proofs.YtniomgngiiiklabDoor
open Go.RowKit
theorem RecsOk.of_own {w : World} {base n c : Nat} {A : Option Addr} {rs : List MRec} (h : w.ownsRow base 44 3 (.slice A n c) n (recCells rs)) (hs : n * 32 ≤ 140737488351232) : RecsOk w w.heap.size A n c rs := by
  refine ⟨RecsAt.of_own h, ?_, hs, ?_⟩
  · rcases h.2 with ⟨hv, rfl⟩ | ⟨g, cap, cur, hv, _, _, hn, _⟩
    · omega
    · injection hv with _ _ e; omega
  · intro e
    subst e
    rcases h.2 with ⟨hv, rfl⟩ | ⟨g, cap, cur, hv, _⟩
    · injection hv
    · injection hv with e; cases e
end Go.Proofs.YtniomgngiiiklabDoor
