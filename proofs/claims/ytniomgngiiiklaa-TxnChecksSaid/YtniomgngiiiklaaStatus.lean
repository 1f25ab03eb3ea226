/- The walk of row.Status. -/
import Derived.Test.YtniomgngiiiklaaCheck
import Derived.Test.YtniomgngiiiklaaRep
namespace Go.Proofs.Ytniomgngiiiklaa
open Go.RowKit

/-- What row.Status answers: the status, the commit, the error. -/
def statusF (r : MRow) (st : Int) : Int × Int × Int :=
  if rowB r then (if timeB st then (if r.ls = st then (1, 0, 0) else match recFind r.recs st with
    | none => (0, 0, 0)
    | some x => if x.commit = 0 then (3, 0, 0) else (2, x.commit, 0)) else (0, 0, 2)) else (0, 0, 6)

theorem findB_cases (r : MRow) (st : Int) : (findB r st = -1 ∧ recFind r.recs st = none) ∨ ∃ (i : Nat) (x : MRec), findB r st = (i : Int) ∧ r.recs[i]? = some x ∧ recFind r.recs st = some x := by
  unfold findB recFind fstIdx
  cases h : r.recs.findIdx? (fun x => x.start == st) with
  | none =>
    rw [List.findIdx?_eq_none_iff] at h
    exact .inl ⟨rfl, by rw [List.find?_eq_none]; intro x hx; simp [h x hx]⟩
  | some i =>
    rw [List.findIdx?_eq_some_iff_getElem] at h
    obtain ⟨hi, hp, hb⟩ := h
    refine .inr ⟨i, r.recs[i], rfl, List.getElem?_eq_getElem hi, ?_⟩
    rw [List.find?_eq_some_iff_getElem]
    exact ⟨hp, i, hi, rfl, fun j hj => by simpa using hb j hj⟩

def stVal (t : Int × Int × Int) : Value := .tuple #[.int .i64 t.1, .int .i64 t.2.1, .int .i64 t.2.2]

set_option maxHeartbeats 1000000 in
theorem status_any (r : MRow) (st : Int) (A : Option Addr) (n c : Nat) (w : World) (h : RecsAt w w.heap.size A n r.recs) (hm : n ≤ maxLen) :
    Calls Try.prog 21 #[.agg #[.string r.key, .int .i64 r.ls, .string r.lp, .string r.value, .slice A n c], .int .i64 st] w
      fun e w' => e = .returned (stVal (statusF r st)) ∧ Below w.heap.size w w' := by
  have H := Lib.hid h
  have Hm := Lib.hid hm
  unfold maxLen at hm
  clear h
  go_enter Try.func21, Try.ntmps21
  go_wp2_with fail
  refine (check_any r A n c _ ((H.out.below ((Below.refl w.heap.size w).alloc (Nat.le_refl _) _) (Nat.le_refl _)).more (by simp)) Hm.out).mono ?_
  rintro e w1 ⟨rfl, hb⟩
  have HL := Lib.hid (((Below.refl w.heap.size w).alloc (Nat.le_refl _) _).trans (hb.mono (by simp)))
  have HB := Lib.hid (blk_keep hb (blk_new w _ _) (by simp))
  obtain ⟨hc0, hf0⟩ := blk_read HB.out
  have hz := blk_lt HB.out
  clear hb
  cases hr : rowB r <;> simp only [okCode, if_true, if_false, Bool.false_eq_true]
  · go_wp2_with fail
    go_ret3
    exact ⟨by simp [stVal, statusF, hr], HL.out⟩
  cases ht : timeB st
  · go_wp2_with fail
    refine (time_any _ _).mono ?_
    rintro e w2 ⟨rfl, rfl⟩
    go_wp2_with fail
    go_ret3
    exact ⟨by simp [stVal, statusF, hr, ht], HL.out⟩
  go_wp2_with fail
  refine (time_any _ _).mono ?_
  rintro e w2 ⟨rfl, rfl⟩
  go_wp2_with fail
  refine (find_any r st A n c w1 ((H.out.below HL.out (Nat.le_refl _)).more HL.out.size) Hm.out).mono ?_
  rintro e w2 ⟨rfl, hb⟩
  have HL2 := Lib.hid (HL.out.trans (hb.mono HL.out.size))
  have HB2 := Lib.hid (blk_keep hb HB.out hz)
  clear hb hc0 hf0 hz HL HB
  obtain ⟨hc0, hf0⟩ := blk_read HB2.out
  have hz := blk_lt HB2.out
  by_cases hl : r.ls = st
  · have el : (r.ls == st) = true := by simpa using hl
    have HS : Hid (statusF r st = (1, 0, 0)) := by show _ = _; simp [statusF, hr, ht, hl]
    clear hl
    go_wp2_with fail
    go_ret3
    exact ⟨by rw [HS.out]; rfl, HL2.out⟩
  have el : (r.ls == st) = false := by simpa using hl
  rcases findB_cases r st with ⟨e1, e2⟩ | ⟨i, x, e1, hx, e2⟩
  · have HS : Hid (statusF r st = (0, 0, 0)) := by show _ = _; simp [statusF, hr, ht, hl, e2]
    clear hl e2
    rw [e1]
    clear e1
    go_wp2_with fail
    go_ret3
    exact ⟨by rw [HS.out]; rfl, HL2.out⟩
  · have hin : i < n := by have := (List.getElem?_eq_some_iff.1 hx).1; have := H.out.1; omega
    obtain ⟨x', b, off, hx', rfl, hbb, g0, g1, g2⟩ := (H.out.below HL2.out (Nat.le_refl _)).at_ hin
    obtain rfl : x' = x := by rw [hx] at hx'; injection hx' with e; exact e.symm
    have hiz : (i : Int) < (n : Int) := by omega
    have hi0 : (0 : Int) ≤ (i : Int) := by omega
    rw [e1]
    by_cases h0 : x'.commit = 0
    · have HS : Hid (statusF r st = (3, 0, 0)) := by show _ = _; simp [statusF, hr, ht, hl, e2, h0]
      have e0 : (x'.commit == 0) = true := by simpa using h0
      clear hl e2 e1 hx hx' h0
      go_wp2_with fail
      go_ret3
      exact ⟨by rw [HS.out]; rfl, HL2.out⟩
    · have HS : Hid (statusF r st = (2, x'.commit, 0)) := by show _ = _; simp [statusF, hr, ht, hl, e2, h0]
      have e0 : (x'.commit == 0) = false := by simpa using h0
      clear hl e2 e1 hx hx' h0
      go_wp2_with fail
      go_quiet (fail)
      go_wp2_with fail
      go_ret3
      exact ⟨by rw [HS.out]; rfl, below_drewN HL2.out _⟩
end Go.Proofs.Ytniomgngiiiklaa

/- What an operation on a row hands back: a row in new memory, and an error number. -/
namespace Go.Proofs.Ytniomgngiiiklaa
open Go.RowKit

def zeroRow : MRow := ⟨⟨#[]⟩, 0, ⟨#[]⟩, ⟨#[]⟩, []⟩
/-- The row r and the error number, r's records in memory that lies beyond w. -/
def RowRet (w : World) (r : MRow) (code : Int) (e : Ending) (w' : World) : Prop :=
  ∃ A c, e = .returned (.tuple #[.agg #[.string r.key, .int .i64 r.ls, .string r.lp, .string r.value, .slice A r.recs.length c], .int .i64 code]) ∧
    w'.ownsRow w.heap.size 56 3 (.slice A r.recs.length c) r.recs.length (recCells r.recs) ∧ Below w.heap.size w w'
theorem rowRet_zero {w w' : World} {code : Int} (h : Below w.heap.size w w') : RowRet w zeroRow code (.returned (.tuple #[.agg #[.string ⟨#[]⟩, .int .i64 0, .string ⟨#[]⟩, .string ⟨#[]⟩, .slice none 0 0], .int .i64 code])) w' :=
  ⟨none, 0, rfl, World.ownsRow_nil _ _ _ _, h⟩

/-- The error number of LockFor. -/
def lockCode (r : MRow) (st : Int) (p v : ByteArray) : Int :=
  if (statusF r st).2.2 ≠ 0 then (statusF r st).2.2 else if keyB p = false then 4 else if 20 < v.size then 1 else if (statusF r st).1 = 3 then 9
  else if (statusF r st).1 = 2 ∨ (r.recs.any fun x => decide (st < x.commit)) = true then 8 else if r.ls ≠ 0 then 7 else if r.recs.length = 100 then 1 else 0
def lockRow (r : MRow) (st : Int) (p v : ByteArray) : MRow := if lockCode r st p v = 0 then { r with ls := st, lp := p, value := v } else zeroRow

theorem statusF_bounds (r : MRow) (st : Int) : ((statusF r st).1 = 0 ∨ (statusF r st).1 = 1 ∨ (statusF r st).1 = 2 ∨ (statusF r st).1 = 3) ∧ ((statusF r st).2.2 = 0 ∨ ((statusF r st).2.2 = 6 ∧ rowB r = false) ∨ ((statusF r st).2.2 = 2 ∧ timeB st = false)) := by
  unfold statusF
  cases hr : rowB r
  · exact ⟨.inl rfl, .inr (.inl ⟨rfl, rfl⟩)⟩
  · cases ht : timeB st
    · exact ⟨.inl rfl, .inr (.inr ⟨rfl, rfl⟩)⟩
    · simp only [if_true]
      by_cases hl : r.ls = st
      · rw [if_pos hl]; exact ⟨.inr (.inl rfl), .inl rfl⟩
      · rw [if_neg hl]
        cases recFind r.recs st with
        | none => exact ⟨.inl rfl, .inl rfl⟩
        | some x =>
          by_cases h0 : x.commit = 0
          · simp [h0]
          · simp [h0]
end Go.Proofs.Ytniomgngiiiklaa
