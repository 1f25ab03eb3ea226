/- ended's records are the code's. No program's walk. -/
import Derived.Test.YtniomgngiiiklabEnded
import Derived.Test.YtniomgngiiiklabRefPlain
namespace Go.Proofs.Ytniomgngiiiklab
open Go.RowKit

theorem ended_insRecs {r : MRow} {x : MRec} (hr : RowGood r) (hne : ∀ y ∈ r.recs, y.start ≠ x.start) : loRecs r.recs x.start ++ x :: hiRecs r.recs x.start = insRecs r.recs x := insRecs_filter hr.recs.pair hne
theorem status_locked_ne {r : MRow} {st s2 : Int} (h : statusF r st = (1, s2, 0)) : ∀ y ∈ r.recs, y.start ≠ st := by
  have h0 : (statusF r st).2.2 = 0 := by rw [h]
  have h1 : (statusF r st).1 = 1 := by rw [h]
  have hl := status_one h0 h1
  have hg := rowB_iff.1 (statusF_good h0).1
  have hb := timeB_bounds (statusF_good h0).2
  intro y hy
  have := ((hg.lock (by omega)).2.2.2.1 y hy).1
  rw [hl] at this; exact this
theorem own_insRecs {w : World} {base m n : Nat} {e : TypeId} {v : Value} {l : List MRec} {x : MRec} (h : w.ownsRow base e 3 v m (recCells (insRecs l x))) (hn : l.length = n) : m = n + 1 := by
  have := h.1
  rw [recCells_length, length_insRecs] at this
  omega

end Go.Proofs.Ytniomgngiiiklab
