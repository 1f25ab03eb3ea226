/- What keep's Row holds, in plain words: at most 40 records, early times. -/
import Derived.Test.YtniomgngiiiklabDoorKeepRow
import Derived.Test.YtniomgngiiiklabDoorDoor
import Derived.Test.YtniomgngiiiklabDoorKeepPlain
import Derived.Test.YtniomgngiiiklabDoorRead
namespace Go.Proofs.YtniomgngiiiklabDoor
open Go.RowKit

theorem rowK_good (l : List MRaw) : RowGood (rowK l) := good_fold _ _ good_empty
theorem inI64_of {i : Int} (h : (Lit.int .i64 i).wf = true) : InI64 i := of_wf_i64 h
/-- keep's Row, its records read as ever. -/
theorem keepRow_ok (l : List MRaw) (A : Option Addr) (n c : Nat) (w : World) (h : RawsOk w w.heap.size A n c l) :
    Calls Tryd.prog 12 #[.slice A n c] w
      fun e w' => ∃ A' m' c', e = .returned (.agg #[.string (rowK l).key, .int .i64 (rowK l).ls, .string (rowK l).lp, .string (rowK l).value, .slice A' m' c']) ∧ RowOk w' w'.heap.size (rowK l) A' m' c' ∧ Below w.heap.size w w' :=
  (keepRow_any l A n c w h).mono fun _ _ ⟨A', m', c', hm, he, ho, hb⟩ => ⟨A', m', c', he, rowOk_own' ho (sized_good (rowK_good l)) hm, hb⟩
theorem okCode_rowK (l : List MRaw) : okCode (rowB (rowK l)) = 0 := by rw [rowB_iff.2 (rowK_good l)]; rfl

theorem early_next {R : MRow} {x : MRaw} {n : Nat} (h : Early R n) (h0 : codeK R x = 0) : Early (nextK R x) (n + 1) := by
  obtain ⟨a0, a1⟩ := pickF_lt x.a (m := 30) (by omega)
  obtain ⟨b0, b1⟩ := pickF_lt x.b (m := 10) (by omega)
  have hs : startK R x ≤ 30 := by
    unfold startK; split
    · exact h.2.2
    · omega
  unfold codeK at h0; unfold nextK
  split at h0
  · rename_i h1; rw [if_pos h1]; exact early_lock h (by omega) h0
  · rename_i h1; rw [if_neg h1]
    split at h0
    · rename_i h2; rw [if_pos h2]; exact early_commit h hs (by omega) h0
    · rename_i h2; rw [if_neg h2]; exact early_undo h (by omega) h0
theorem early_step {R : MRow} {x : MRaw} {n : Nat} (h : Early R n) : Early (stepK R x) (n + 1) := by
  unfold stepK; split
  · rename_i h0; exact early_next h h0
  · exact h.mono (Nat.le_succ _)
theorem early_fold : ∀ (l : List MRaw) (R : MRow) (n : Nat), Early R n → Early (l.foldl stepK R) (n + l.length)
  | [], _, _, h => h
  | x :: l, R, n, h => by
    have := early_fold l (stepK R x) (n + 1) (early_step h)
    simpa [Nat.add_assoc, Nat.add_comm 1] using this
theorem rowK_early (l : List MRaw) : Early (rowK l) 40 := by
  have h := early_fold (l.take 40) (emptyRow rowName) 0 ⟨Nat.zero_le _, by simp [emptyRow], by show (0 : Int) ≤ 30; omega⟩
  exact h.mono (by simp; omega)

/-! ### the row's contracts, the records read as ever -/
theorem lockFor_ok (r : MRow) (st : Int) (p v : ByteArray) (A : Option Addr) (n c : Nat) (w : World) (h : RowOk w w.heap.size r A n c) :
    Calls Tryd.prog 18 #[.agg #[.string r.key, .int .i64 r.ls, .string r.lp, .string r.value, .slice A n c], .int .i64 st, .string p, .string v] w
      fun e w' => ∃ A' m c', e = .returned (.tuple #[.agg #[.string (lockRow r st p v).key, .int .i64 (lockRow r st p v).ls, .string (lockRow r st p v).lp, .string (lockRow r st p v).value, .slice A' m c'], .int .i64 (lockCode r st p v)]) ∧ RowOk w' w'.heap.size (lockRow r st p v) A' m c' ∧ Below w.heap.size w w' :=
  (lockFor_any r st p v A n c w h).mono fun _ _ ⟨A', c', he, ho, hb⟩ => ⟨A', _, c', he, rowOk_own ho sized_lock, hb⟩
theorem commit_ok (r : MRow) (st cm : Int) (A : Option Addr) (n c : Nat) (w : World) (h : RowOk w w.heap.size r A n c) :
    Calls Tryd.prog 22 #[.agg #[.string r.key, .int .i64 r.ls, .string r.lp, .string r.value, .slice A n c], .int .i64 st, .int .i64 cm] w
      fun e w' => ∃ A' m c', e = .returned (.tuple #[.agg #[.string (commitRow r st cm).key, .int .i64 (commitRow r st cm).ls, .string (commitRow r st cm).lp, .string (commitRow r st cm).value, .slice A' m c'], .int .i64 (commitCode r st cm)]) ∧ RowOk w' w'.heap.size (commitRow r st cm) A' m c' ∧ Below w.heap.size w w' :=
  (commit_any r st cm A n c w h).mono fun _ _ ⟨A', c', he, ho, hb⟩ => ⟨A', _, c', he, rowOk_own ho sized_commit, hb⟩
theorem undo_ok (r : MRow) (st : Int) (A : Option Addr) (n c : Nat) (w : World) (h : RowOk w w.heap.size r A n c) :
    Calls Tryd.prog 23 #[.agg #[.string r.key, .int .i64 r.ls, .string r.lp, .string r.value, .slice A n c], .int .i64 st] w
      fun e w' => ∃ A' m c', e = .returned (.tuple #[.agg #[.string (undoRow r st).key, .int .i64 (undoRow r st).ls, .string (undoRow r st).lp, .string (undoRow r st).value, .slice A' m c'], .int .i64 (undoCode r st)]) ∧ RowOk w' w'.heap.size (undoRow r st) A' m c' ∧ Below w.heap.size w w' :=
  (undo_any r st A n c w h).mono fun _ _ ⟨A', c', he, ho, hb⟩ => ⟨A', _, c', he, rowOk_own ho sized_undo, hb⟩
theorem read_ok (r : MRow) (t : Int) (A : Option Addr) (n c : Nat) (w : World) (h : RowOk w w.heap.size r A n c) :
    Calls Tryd.prog 24 #[.agg #[.string r.key, .int .i64 r.ls, .string r.lp, .string r.value, .slice A n c], .int .i64 t] w
      fun e w' => e = .returned (.tuple #[.string (readF r t).1, .bool (readF r t).2.1, .int .i64 (readF r t).2.2]) ∧ Below w.heap.size w w' :=
  read_any r t A n c w h.recs.at_ h.recs.small
theorem status_ok (r : MRow) (st : Int) (A : Option Addr) (n c : Nat) (w : World) (h : RowOk w w.heap.size r A n c) :
    Calls Tryd.prog 19 #[.agg #[.string r.key, .int .i64 r.ls, .string r.lp, .string r.value, .slice A n c], .int .i64 st] w
      fun e w' => e = .returned (.tuple #[.int .i64 (statusF r st).1, .int .i64 (statusF r st).2.1, .int .i64 (statusF r st).2.2]) ∧ Below w.heap.size w w' :=
  status_any r st A n c w h.recs.at_ (by have := h.recs.small; unfold maxLen; omega)
theorem Old.rowOk {W w1 : World} {r : MRow} {A : Option Addr} {n c : Nat} (h : Old W w1) (hr : Hid (RowOk W W.heap.size r A n c)) : Hid (RowOk w1 w1.heap.size r A n c) :=
  ⟨⟨(hr.out.recs.at_.keep (fun p hp => World.cell?_of_block (h.block p.block hp))).more h.size, hr.out.recs.le, hr.out.recs.small, hr.out.recs.nil⟩, hr.out.key, hr.out.lp⟩
theorem belowNew {w W v : World} {o : Obj} (h : Hid (Below w.heap.size w W)) (hv : v = W.alloc o) : Hid (Below w.heap.size w v) := by
  show Below _ _ _; rw [hv]; exact h.out.alloc h.out.size _
end Go.Proofs.YtniomgngiiiklabDoor
