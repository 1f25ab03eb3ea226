/- What an operation on a row hands back: a row in new memory, and an error number. -/
import Derived.Test.YtniomgngiiiklabDoorStatus
import Derived.Test.YtniomgngiiiklabDoorMem
namespace Go.Proofs.YtniomgngiiiklabDoor
open Go.RowKit

def zeroRow : MRow := ⟨⟨#[]⟩, 0, ⟨#[]⟩, ⟨#[]⟩, []⟩
/-- The row r and the error number, r's records in memory that lies beyond w. -/
def RowRet (w : World) (r : MRow) (code : Int) (e : Ending) (w' : World) : Prop :=
  ∃ A c, e = .returned (.tuple #[.agg #[.string r.key, .int .i64 r.ls, .string r.lp, .string r.value, .slice A r.recs.length c], .int .i64 code]) ∧
    w'.ownsRow w.heap.size 44 3 (.slice A r.recs.length c) r.recs.length (recCells r.recs) ∧ Below w.heap.size w w'
theorem rowRet_zero {w w' : World} {code : Int} (h : Below w.heap.size w w') : RowRet w zeroRow code (.returned (.tuple #[.agg #[.string ⟨#[]⟩, .int .i64 0, .string ⟨#[]⟩, .string ⟨#[]⟩, .slice none 0 0], .int .i64 code])) w' :=
  ⟨none, 0, rfl, World.ownsRow_nil _ _ _ _, h⟩

/-- The error number of LockFor. -/
def lockCode (r : MRow) (st : Int) (p v : ByteArray) : Int :=
  if (statusF r st).2.2 ≠ 0 then (statusF r st).2.2 else if keyB p = false then 4 else if 20 < v.size then 1 else if (statusF r st).1 = 3 then 9
  else if (statusF r st).1 = 2 ∨ (r.recs.any fun x => decide (st < x.commit)) = true then 8 else if r.ls ≠ 0 then 7 else if r.recs.length = 100 then 1 else 0
def lockRow (r : MRow) (st : Int) (p v : ByteArray) : MRow := if lockCode r st p v = 0 then { r with ls := st, lp := p, value := v } else zeroRow

theorem statusF_bounds (r : MRow) (st : Int) : ((statusF r st).1 = 0 ∨ (statusF r st).1 = 1 ∨ (statusF r st).1 = 2 ∨ (statusF r st).1 = 3) ∧ ((statusF r st).2.2 = 0 ∨ ((statusF r st).2.2 = 6 ∧ rowB r = false) ∨ ((statusF r st).2.2 = 2 ∧ timeB st = false)) := by
  unfold statusF
  cases hr : rowB r
  · exact ⟨.inl rfl, .inr (.inl ⟨rfl, rfl⟩)⟩
  · cases ht : timeB st
    · exact ⟨.inl rfl, .inr (.inr ⟨rfl, rfl⟩)⟩
    · simp only [if_true]
      by_cases hl : r.ls = st
      · rw [if_pos hl]; exact ⟨.inr (.inl rfl), .inl rfl⟩
      · rw [if_neg hl]
        cases recFind r.recs st with
        | none => exact ⟨.inl rfl, .inl rfl⟩
        | some x =>
          by_cases h0 : x.commit = 0
          · simp [h0]
          · simp [h0]
end Go.Proofs.YtniomgngiiiklabDoor
