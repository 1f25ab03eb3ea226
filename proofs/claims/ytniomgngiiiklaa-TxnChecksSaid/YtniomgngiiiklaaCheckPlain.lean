/- What row.Check says of a row, as a plain function; no program in sight. -/
import Derived.Test.YtniomgngiiiklaaKey
import Derived.Test.YtniomgngiiiklaaFind
import Derived.Test.YtniomgngiiiklaaRep
namespace Go.Proofs.Ytniomgngiiiklaa
open Go.RowKit

/-- One record more, behind one that began at prev, where the last commit was at last: the new last; none: that may not be. -/
def recStep (prev last : Int) (x : MRec) : Option Int :=
  if timeB x.start && (decide (prev < x.start) && decide (x.value.size ≤ 20)) then
    if x.commit = 0 then (if 1 ≤ x.value.size then none else some last)
    else if x.commit ≤ x.start then none else if 1099511627776 < x.commit then none else if x.start < last then none else some x.commit
  else none

def recsFold : Int → Int → List MRec → Option Int
  | _, last, [] => some last
  | prev, last, x :: l => match recStep prev last x with
    | none => none
    | some last' => recsFold x.start last' l

/-- The state behind the first k records: the start of the one before, and the last commit. -/
def recsTo (rs : List MRec) (k : Nat) : Option Int := recsFold 0 0 (rs.take k)
def prevOf (rs : List MRec) (k : Nat) : Int := match k with | 0 => 0 | j + 1 => (rs[j]?.getD MRec.zero).start

theorem recsFold_append (a b : List MRec) : ∀ prev last, recsFold prev last (a ++ b) = (recsFold prev last a).bind fun l => recsFold (match a.getLast? with | none => prev | some x => x.start) l b := by
  induction a with
  | nil => intro prev last; rfl
  | cons x a ih =>
    intro prev last
    simp only [List.cons_append, recsFold]
    cases recStep prev last x with
    | none => rfl
    | some l =>
      simp only [ih]
      cases a with
      | nil => rfl
      | cons y a =>
        have e : (x :: y :: a).getLast? = (y :: a).getLast? := by simp
        rw [e]
        cases h : (y :: a).getLast? with
        | none => simp at h
        | some z => rfl

theorem recsTo_succ {rs : List MRec} {k : Nat} {x : MRec} (hx : rs[k]? = some x) : recsTo rs (k + 1) = (recsTo rs k).bind fun l => recStep (prevOf rs k) l x := by
  unfold recsTo
  obtain ⟨hk, rfl⟩ := List.getElem?_eq_some_iff.1 hx
  rw [List.take_succ_eq_append_getElem hk, recsFold_append]
  congr 1
  funext l
  have : (match (rs.take k).getLast? with | none => (0 : Int) | some x => x.start) = prevOf rs k := by
    match k with
    | 0 => rfl
    | j + 1 =>
      have hj : j < rs.length := by omega
      have hl : (rs.take (j + 1)).getLast? = some rs[j] := by
        rw [List.getLast?_eq_getElem?, List.length_take, Nat.min_eq_left (by omega), Nat.add_sub_cancel, List.getElem?_take_of_lt (by omega), List.getElem?_eq_getElem hj]
      rw [hl]
      simp [prevOf, List.getElem?_eq_getElem hj]
  rw [this]
  simp only [recsFold]
  cases recStep (prevOf rs k) l rs[k] <;> rfl
theorem recsTo_zero (rs : List MRec) : recsTo rs 0 = some 0 := rfl
theorem recsTo_all {rs : List MRec} {k : Nat} (h : rs.length ≤ k) : recsTo rs k = recsFold 0 0 rs := by
  unfold recsTo
  rw [List.take_of_length_le h]
theorem recsTo_bad {rs : List MRec} {k : Nat} (h : recsTo rs k = none) : recsFold 0 0 rs = none := by
  have : recsFold 0 0 (rs.take k ++ rs.drop k) = none := by
    rw [recsFold_append]
    unfold recsTo at h
    rw [h]
    rfl
  rwa [List.take_append_drop] at this

def lockB (r : MRow) : Bool := if r.ls = 0 then decide (r.lp.size = 0) && decide (r.value.size = 0) else timeB r.ls && (keyB r.lp && decide (findB r r.ls < 0))
def headB (r : MRow) : Bool := keyB r.key && (decide (r.value.size ≤ 20) && (decide (r.recs.length ≤ 100) && lockB r))
def tailB (r : MRow) (last : Int) : Bool := decide (r.ls = 0) || (decide (last ≤ r.ls) && !decide (r.recs.length = 100))
/-- Is the row valid? -/
def rowB (r : MRow) : Bool := headB r && (match recsFold 0 0 r.recs with | none => false | some last => tailB r last)
def okCode (b : Bool) : Int := if b then 0 else 6

theorem row_bad {r : MRow} {k : Nat} {last : Int} {x : MRec} (hto : recsTo r.recs k = some last) (hx : r.recs[k]? = some x) (hs : recStep (prevOf r.recs k) last x = none) : 6 = okCode (rowB r) := by
  have h1 : recsTo r.recs (k + 1) = none := by rw [recsTo_succ hx, hto]; exact hs
  simp [rowB, recsTo_bad h1, okCode]
theorem row_next {rs : List MRec} {k : Nat} {last last' : Int} {x : MRec} (hto : recsTo rs k = some last) (hx : rs[k]? = some x) (hs : recStep (prevOf rs k) last x = some last') : recsTo rs (k + 1) = some last' := by
  rw [recsTo_succ hx, hto]; exact hs
theorem row_end {r : MRow} {k : Nat} {last : Int} (hh : headB r = true) (hto : recsTo r.recs k = some last) (hk : r.recs.length ≤ k) : rowB r = tailB r last := by
  rw [recsTo_all hk] at hto
  simp [rowB, hh, hto]
theorem row_head {r : MRow} (hh : headB r = false) : 6 = okCode (rowB r) := by simp [rowB, hh, okCode]

section
variable {prev last : Int} {x : MRec}
theorem step_time (h : timeB x.start = false) : recStep prev last x = none := by simp [recStep, h]
theorem step_prev (h : x.start ≤ prev) : recStep prev last x = none := by
  have : decide (prev < x.start) = false := by simp; omega
  simp [recStep, this]
theorem step_size (h : ¬ x.value.size ≤ 20) : recStep prev last x = none := by simp [recStep, h]
theorem step_zero_bad (h0 : x.commit = 0) (h : 1 ≤ x.value.size) : recStep prev last x = none := by simp [recStep, h0, h]
theorem step_zero (ht : timeB x.start = true) (hp : prev < x.start) (hs : x.value.size ≤ 20) (h0 : x.commit = 0) (h : ¬ 1 ≤ x.value.size) : recStep prev last x = some last := by simp [recStep, ht, hp, hs, h0, h]
theorem step_le (h0 : x.commit ≠ 0) (h : x.commit ≤ x.start) : recStep prev last x = none := by simp [recStep, h0, h]
theorem step_max (h0 : x.commit ≠ 0) (h : 1099511627776 < x.commit) : recStep prev last x = none := by simp [recStep, h0, h]
theorem step_last (h0 : x.commit ≠ 0) (h : x.start < last) : recStep prev last x = none := by simp [recStep, h0, h]
theorem step_ok (ht : timeB x.start = true) (hp : prev < x.start) (hs : x.value.size ≤ 20) (h0 : x.commit ≠ 0) (h1 : x.start < x.commit) (h2 : x.commit ≤ 1099511627776) (h3 : last ≤ x.start) : recStep prev last x = some x.commit := by
  have e1 : ¬ x.commit ≤ x.start := by omega
  have e2 : ¬ 1099511627776 < x.commit := by omega
  have e3 : ¬ x.start < last := by omega
  simp [recStep, ht, hp, hs, h0, e1, e2, e3]
end
theorem prevOf_succ {rs : List MRec} {j : Nat} {y : MRec} (h : rs[j]? = some y) : prevOf rs (j + 1) = y.start := by simp [prevOf, h]
theorem timeB_bounds {n : Int} (h : timeB n = true) : 1 ≤ n ∧ n ≤ 1099511627776 := by
  simp only [timeB, inB, Bool.and_eq_true, decide_eq_true_eq] at h
  exact h
end Go.Proofs.Ytniomgngiiiklaa

/- The reference's test of a row is row.Check's: the plain law; no program in sight. -/
namespace Go.Proofs.Ytniomgngiiiklaa
open Go.RowKit

theorem recStep_some {prev last last' : Int} {x : MRec} (h : recStep prev last x = some last') :
    timeB x.start = true ∧ prev < x.start ∧ x.value.size ≤ 20 ∧ ((x.commit = 0 ∧ last' = last ∧ ¬ 1 ≤ x.value.size) ∨ (x.commit ≠ 0 ∧ x.start < x.commit ∧ x.commit ≤ 1099511627776 ∧ last ≤ x.start ∧ last' = x.commit)) := by
  unfold recStep at h
  split at h
  · rename_i hc
    simp only [Bool.and_eq_true, decide_eq_true_eq] at hc
    refine ⟨hc.1, hc.2.1, hc.2.2, ?_⟩
    split at h
    · rename_i h0
      split at h
      · cases h
      · rename_i hv
        injection h with h
        exact .inl ⟨h0, h.symm, hv⟩
    · rename_i h0
      split at h
      · cases h
      · split at h
        · cases h
        · split at h
          · cases h
          · injection h with h
            exact .inr ⟨h0, by omega, by omega, by omega, h.symm⟩
  · cases h

/-- The last commit behind k records is the greatest. -/
theorem recsTo_max {rs : List MRec} : ∀ {k : Nat} {last : Int}, k ≤ rs.length → recsTo rs k = some last →
    0 ≤ last ∧ (∀ (j : Nat) (x : MRec), j < k → rs[j]? = some x → x.commit ≤ last) ∧ (last = 0 ∨ ∃ (j : Nat) (x : MRec), j < k ∧ rs[j]? = some x ∧ x.commit = last)
  | 0, last, _, h => by
    rw [recsTo_zero] at h
    injection h with h
    exact ⟨by omega, by intro j x hj; omega, .inl h.symm⟩
  | k + 1, last, hk, h => by
    have hx : rs[k]? = some rs[k] := List.getElem?_eq_getElem (by omega)
    rw [recsTo_succ hx] at h
    cases hto : recsTo rs k with
    | none => rw [hto] at h; cases h
    | some l =>
      rw [hto] at h
      obtain ⟨h0, h1, h2⟩ := recsTo_max (by omega) hto
      obtain ⟨t, hp, hs, hc⟩ := recStep_some h
      have hb := timeB_bounds t
      rcases hc with ⟨c0, rfl, _⟩ | ⟨c0, c1, c2, c3, rfl⟩
      · refine ⟨h0, fun j x hj hxj => ?_, ?_⟩
        · by_cases e : j = k
          · subst e; rw [hx] at hxj; injection hxj with hxj; subst hxj; omega
          · exact h1 j x (by omega) hxj
        · rcases h2 with h2 | ⟨j, x, hj, hxj, hcx⟩
          · exact .inl h2
          · exact .inr ⟨j, x, by omega, hxj, hcx⟩
      · refine ⟨by omega, fun j x hj hxj => ?_, .inr ⟨k, _, by omega, hx, rfl⟩⟩
        by_cases e : j = k
        · subst e; rw [hx] at hxj; injection hxj with hxj; subst hxj; omega
        · have := h1 j x (by omega) hxj; omega

theorem recsFold_mono : ∀ (l : List MRec) (prev last last' : Int), 0 ≤ last → recsFold prev last l = some last' → last ≤ last'
  | [], _, last, last', _, h => by simp only [recsFold] at h; injection h with h; omega
  | x :: l, prev, last, last', h0, h => by
    simp only [recsFold] at h
    cases hs : recStep prev last x with
    | none => rw [hs] at h; cases h
    | some l1 =>
      rw [hs] at h
      obtain ⟨t, hp, _, hc⟩ := recStep_some hs
      have hb := timeB_bounds t
      rcases hc with ⟨c0, rfl, _⟩ | ⟨c0, c1, c2, c3, rfl⟩
      · exact recsFold_mono l _ _ _ h0 h
      · have := recsFold_mono l _ _ _ (by omega) h; omega

theorem recsTo_le {rs : List MRec} {k : Nat} {last last' : Int} (h0 : 0 ≤ last) (h : recsTo rs k = some last) (h' : recsFold 0 0 rs = some last') : last ≤ last' := by
  have e : recsFold 0 0 (rs.take k ++ rs.drop k) = some last' := by rw [List.take_append_drop]; exact h'
  rw [recsFold_append] at e
  unfold recsTo at h
  rw [h] at e
  exact recsFold_mono _ _ _ _ h0 e

/-- A record whose commit lies behind the lock: the row may not be. -/
theorem row_lock {r : MRow} {k : Nat} {last : Int} (h0 : 0 ≤ last) (hls : r.ls ≠ 0) (h : recsTo r.recs k = some last) (hlt : r.ls < last) : rowB r = false := by
  unfold rowB
  cases h' : recsFold 0 0 r.recs with
  | none => simp
  | some last' =>
    have := recsTo_le h0 h h'
    have e : ¬ last' ≤ r.ls := by omega
    simp [tailB, hls, e]
theorem row_bad' {r : MRow} {k : Nat} {last : Int} {x : MRec} (hto : recsTo r.recs k = some last) (hx : r.recs[k]? = some x) (hs : recStep (prevOf r.recs k) last x = none) : false = rowB r := by
  have h1 : recsTo r.recs (k + 1) = none := by rw [recsTo_succ hx, hto]; exact hs
  simp [rowB, recsTo_bad h1]
theorem row_full {r : MRow} (h : 99 < r.recs.length) (hls : r.ls ≠ 0) : rowB r = false := by
  unfold rowB headB
  by_cases h1 : r.recs.length ≤ 100
  · have e : r.recs.length = 100 := by omega
    cases recsFold 0 0 r.recs with
    | none => simp
    | some l => simp [tailB, hls, e]
  · simp [h1]
theorem head_false {r : MRow} (h : headB r = false) : rowB r = false := by simp [rowB, h]

theorem recFind_find (r : MRow) (st : Int) : decide (findB r st < 0) = !(recFind r.recs st).isSome := by
  unfold findB recFind fstIdx
  cases h : r.recs.findIdx? (fun x => x.start == st) with
  | none =>
    rw [List.findIdx?_eq_none_iff] at h
    have : r.recs.find? (fun x => x.start == st) = none := by rw [List.find?_eq_none]; intro x hx; simp [h x hx]
    rw [this]; rfl
  | some i =>
    rw [List.findIdx?_eq_some_iff_getElem] at h
    obtain ⟨hi, hp, hb⟩ := h
    have : r.recs.find? (fun x => x.start == st) = some r.recs[i] := by
      rw [List.find?_eq_some_iff_getElem]
      exact ⟨hp, i, hi, rfl, fun j hj => by simpa using hb j hj⟩
    rw [this]; simp
end Go.Proofs.Ytniomgngiiiklaa
