/- What row.Check says of a row, as a plain function; no program in sight. -/
import Derived.Test.YtniomgngiiiklabDoorKey
import Derived.Test.YtniomgngiiiklabDoorFind
namespace Go.Proofs.YtniomgngiiiklabDoor
open Go.RowKit

/-- One record more, behind one that began at prev, where the last commit was at last: the new last; none: that may not be. -/
def recStep (prev last : Int) (x : MRec) : Option Int :=
  if timeB x.start && (decide (prev < x.start) && decide (x.value.size ≤ 20)) then
    if x.commit = 0 then (if 1 ≤ x.value.size then none else some last)
    else if x.commit ≤ x.start then none else if 1099511627776 < x.commit then none else if x.start < last then none else some x.commit
  else none

def recsFold : Int → Int → List MRec → Option Int
  | _, last, [] => some last
  | prev, last, x :: l => match recStep prev last x with
    | none => none
    | some last' => recsFold x.start last' l

/-- The state behind the first k records: the start of the one before, and the last commit. -/
def recsTo (rs : List MRec) (k : Nat) : Option Int := recsFold 0 0 (rs.take k)
def prevOf (rs : List MRec) (k : Nat) : Int := match k with | 0 => 0 | j + 1 => (rs[j]?.getD MRec.zero).start

theorem recsFold_append (a b : List MRec) : ∀ prev last, recsFold prev last (a ++ b) = (recsFold prev last a).bind fun l => recsFold (match a.getLast? with | none => prev | some x => x.start) l b := by
  induction a with
  | nil => intro prev last; rfl
  | cons x a ih =>
    intro prev last
    simp only [List.cons_append, recsFold]
    cases recStep prev last x with
    | none => rfl
    | some l =>
      simp only [ih]
      cases a with
      | nil => rfl
      | cons y a =>
        have e : (x :: y :: a).getLast? = (y :: a).getLast? := by simp
        rw [e]
        cases h : (y :: a).getLast? with
        | none => simp at h
        | some z => rfl

theorem recsTo_succ {rs : List MRec} {k : Nat} {x : MRec} (hx : rs[k]? = some x) : recsTo rs (k + 1) = (recsTo rs k).bind fun l => recStep (prevOf rs k) l x := by
  unfold recsTo
  obtain ⟨hk, rfl⟩ := List.getElem?_eq_some_iff.1 hx
  rw [List.take_succ_eq_append_getElem hk, recsFold_append]
  congr 1
  funext l
  have : (match (rs.take k).getLast? with | none => (0 : Int) | some x => x.start) = prevOf rs k := by
    match k with
    | 0 => rfl
    | j + 1 =>
      have hj : j < rs.length := by omega
      have hl : (rs.take (j + 1)).getLast? = some rs[j] := by
        rw [List.getLast?_eq_getElem?, List.length_take, Nat.min_eq_left (by omega), Nat.add_sub_cancel, List.getElem?_take_of_lt (by omega), List.getElem?_eq_getElem hj]
      rw [hl]
      simp [prevOf, List.getElem?_eq_getElem hj]
  rw [this]
  simp only [recsFold]
  cases recStep (prevOf rs k) l rs[k] <;> rfl
theorem recsTo_zero (rs : List MRec) : recsTo rs 0 = some 0 := rfl
theorem recsTo_all {rs : List MRec} {k : Nat} (h : rs.length ≤ k) : recsTo rs k = recsFold 0 0 rs := by
  unfold recsTo
  rw [List.take_of_length_le h]
theorem recsTo_bad {rs : List MRec} {k : Nat} (h : recsTo rs k = none) : recsFold 0 0 rs = none := by
  have : recsFold 0 0 (rs.take k ++ rs.drop k) = none := by
    rw [recsFold_append]
    unfold recsTo at h
    rw [h]
    rfl
  rwa [List.take_append_drop] at this

def lockB (r : MRow) : Bool := if r.ls = 0 then decide (r.lp.size = 0) && decide (r.value.size = 0) else timeB r.ls && (keyB r.lp && decide (findB r r.ls < 0))
def headB (r : MRow) : Bool := keyB r.key && (decide (r.value.size ≤ 20) && (decide (r.recs.length ≤ 100) && lockB r))
def tailB (r : MRow) (last : Int) : Bool := decide (r.ls = 0) || (decide (last ≤ r.ls) && !decide (r.recs.length = 100))
/-- Is the row valid? -/
def rowB (r : MRow) : Bool := headB r && (match recsFold 0 0 r.recs with | none => false | some last => tailB r last)
def okCode (b : Bool) : Int := if b then 0 else 6

theorem row_bad {r : MRow} {k : Nat} {last : Int} {x : MRec} (hto : recsTo r.recs k = some last) (hx : r.recs[k]? = some x) (hs : recStep (prevOf r.recs k) last x = none) : 6 = okCode (rowB r) := by
  have h1 : recsTo r.recs (k + 1) = none := by rw [recsTo_succ hx, hto]; exact hs
  simp [rowB, recsTo_bad h1, okCode]
theorem row_next {rs : List MRec} {k : Nat} {last last' : Int} {x : MRec} (hto : recsTo rs k = some last) (hx : rs[k]? = some x) (hs : recStep (prevOf rs k) last x = some last') : recsTo rs (k + 1) = some last' := by
  rw [recsTo_succ hx, hto]; exact hs
theorem row_end {r : MRow} {k : Nat} {last : Int} (hh : headB r = true) (hto : recsTo r.recs k = some last) (hk : r.recs.length ≤ k) : rowB r = tailB r last := by
  rw [recsTo_all hk] at hto
  simp [rowB, hh, hto]
theorem row_head {r : MRow} (hh : headB r = false) : 6 = okCode (rowB r) := by simp [rowB, hh, okCode]

section
variable {prev last : Int} {x : MRec}
theorem step_time (h : timeB x.start = false) : recStep prev last x = none := by simp [recStep, h]
theorem step_prev (h : x.start ≤ prev) : recStep prev last x = none := by
  have : decide (prev < x.start) = false := by simp; omega
  simp [recStep, this]
theorem step_size (h : ¬ x.value.size ≤ 20) : recStep prev last x = none := by simp [recStep, h]
theorem step_zero_bad (h0 : x.commit = 0) (h : 1 ≤ x.value.size) : recStep prev last x = none := by simp [recStep, h0, h]
theorem step_zero (ht : timeB x.start = true) (hp : prev < x.start) (hs : x.value.size ≤ 20) (h0 : x.commit = 0) (h : ¬ 1 ≤ x.value.size) : recStep prev last x = some last := by simp [recStep, ht, hp, hs, h0, h]
theorem step_le (h0 : x.commit ≠ 0) (h : x.commit ≤ x.start) : recStep prev last x = none := by simp [recStep, h0, h]
theorem step_max (h0 : x.commit ≠ 0) (h : 1099511627776 < x.commit) : recStep prev last x = none := by simp [recStep, h0, h]
theorem step_last (h0 : x.commit ≠ 0) (h : x.start < last) : recStep prev last x = none := by simp [recStep, h0, h]
theorem step_ok (ht : timeB x.start = true) (hp : prev < x.start) (hs : x.value.size ≤ 20) (h0 : x.commit ≠ 0) (h1 : x.start < x.commit) (h2 : x.commit ≤ 1099511627776) (h3 : last ≤ x.start) : recStep prev last x = some x.commit := by
  have e1 : ¬ x.commit ≤ x.start := by omega
  have e2 : ¬ 1099511627776 < x.commit := by omega
  have e3 : ¬ x.start < last := by omega
  simp [recStep, ht, hp, hs, h0, e1, e2, e3]
end
theorem prevOf_succ {rs : List MRec} {j : Nat} {y : MRec} (h : rs[j]? = some y) : prevOf rs (j + 1) = y.start := by simp [prevOf, h]
theorem timeB_bounds {n : Int} (h : timeB n = true) : 1 ≤ n ∧ n ≤ 1099511627776 := by
  simp only [timeB, inB, Bool.and_eq_true, decide_eq_true_eq] at h
  exact h
end Go.Proofs.YtniomgngiiiklabDoor
