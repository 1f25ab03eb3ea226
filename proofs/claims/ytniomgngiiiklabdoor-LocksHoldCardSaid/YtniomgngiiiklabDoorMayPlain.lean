/- The reference's test of a row is row.Check's: the plain law; no program in sight. -/
import Derived.Test.YtniomgngiiiklabDoorCheckPlain
import Derived.Test.YtniomgngiiiklabDoorRecFind
namespace Go.Proofs.YtniomgngiiiklabDoor
open Go.RowKit

theorem recStep_some {prev last last' : Int} {x : MRec} (h : recStep prev last x = some last') :
    timeB x.start = true ∧ prev < x.start ∧ x.value.size ≤ 20 ∧ ((x.commit = 0 ∧ last' = last ∧ ¬ 1 ≤ x.value.size) ∨ (x.commit ≠ 0 ∧ x.start < x.commit ∧ x.commit ≤ 1099511627776 ∧ last ≤ x.start ∧ last' = x.commit)) := by
  unfold recStep at h
  split at h
  · rename_i hc
    simp only [Bool.and_eq_true, decide_eq_true_eq] at hc
    refine ⟨hc.1, hc.2.1, hc.2.2, ?_⟩
    split at h
    · rename_i h0
      split at h
      · cases h
      · rename_i hv
        injection h with h
        exact .inl ⟨h0, h.symm, hv⟩
    · rename_i h0
      split at h
      · cases h
      · split at h
        · cases h
        · split at h
          · cases h
          · injection h with h
            exact .inr ⟨h0, by omega, by omega, by omega, h.symm⟩
  · cases h

/-- The last commit behind k records is the greatest. -/
theorem recsTo_max {rs : List MRec} : ∀ {k : Nat} {last : Int}, k ≤ rs.length → recsTo rs k = some last →
    0 ≤ last ∧ (∀ (j : Nat) (x : MRec), j < k → rs[j]? = some x → x.commit ≤ last) ∧ (last = 0 ∨ ∃ (j : Nat) (x : MRec), j < k ∧ rs[j]? = some x ∧ x.commit = last)
  | 0, last, _, h => by
    rw [recsTo_zero] at h
    injection h with h
    exact ⟨by omega, by intro j x hj; omega, .inl h.symm⟩
  | k + 1, last, hk, h => by
    have hx : rs[k]? = some rs[k] := List.getElem?_eq_getElem (by omega)
    rw [recsTo_succ hx] at h
    cases hto : recsTo rs k with
    | none => rw [hto] at h; cases h
    | some l =>
      rw [hto] at h
      obtain ⟨h0, h1, h2⟩ := recsTo_max (by omega) hto
      obtain ⟨t, hp, hs, hc⟩ := recStep_some h
      have hb := timeB_bounds t
      rcases hc with ⟨c0, rfl, _⟩ | ⟨c0, c1, c2, c3, rfl⟩
      · refine ⟨h0, fun j x hj hxj => ?_, ?_⟩
        · by_cases e : j = k
          · subst e; rw [hx] at hxj; injection hxj with hxj; subst hxj; omega
          · exact h1 j x (by omega) hxj
        · rcases h2 with h2 | ⟨j, x, hj, hxj, hcx⟩
          · exact .inl h2
          · exact .inr ⟨j, x, by omega, hxj, hcx⟩
      · refine ⟨by omega, fun j x hj hxj => ?_, .inr ⟨k, _, by omega, hx, rfl⟩⟩
        by_cases e : j = k
        · subst e; rw [hx] at hxj; injection hxj with hxj; subst hxj; omega
        · have := h1 j x (by omega) hxj; omega

theorem recsFold_mono : ∀ (l : List MRec) (prev last last' : Int), 0 ≤ last → recsFold prev last l = some last' → last ≤ last'
  | [], _, last, last', _, h => by simp only [recsFold] at h; injection h with h; omega
  | x :: l, prev, last, last', h0, h => by
    simp only [recsFold] at h
    cases hs : recStep prev last x with
    | none => rw [hs] at h; cases h
    | some l1 =>
      rw [hs] at h
      obtain ⟨t, hp, _, hc⟩ := recStep_some hs
      have hb := timeB_bounds t
      rcases hc with ⟨c0, rfl, _⟩ | ⟨c0, c1, c2, c3, rfl⟩
      · exact recsFold_mono l _ _ _ h0 h
      · have := recsFold_mono l _ _ _ (by omega) h; omega

theorem recsTo_le {rs : List MRec} {k : Nat} {last last' : Int} (h0 : 0 ≤ last) (h : recsTo rs k = some last) (h' : recsFold 0 0 rs = some last') : last ≤ last' := by
  have e : recsFold 0 0 (rs.take k ++ rs.drop k) = some last' := by rw [List.take_append_drop]; exact h'
  rw [recsFold_append] at e
  unfold recsTo at h
  rw [h] at e
  exact recsFold_mono _ _ _ _ h0 e

/-- A record whose commit lies behind the lock: the row may not be. -/
theorem row_lock {r : MRow} {k : Nat} {last : Int} (h0 : 0 ≤ last) (hls : r.ls ≠ 0) (h : recsTo r.recs k = some last) (hlt : r.ls < last) : rowB r = false := by
  unfold rowB
  cases h' : recsFold 0 0 r.recs with
  | none => simp
  | some last' =>
    have := recsTo_le h0 h h'
    have e : ¬ last' ≤ r.ls := by omega
    simp [tailB, hls, e]
theorem row_bad' {r : MRow} {k : Nat} {last : Int} {x : MRec} (hto : recsTo r.recs k = some last) (hx : r.recs[k]? = some x) (hs : recStep (prevOf r.recs k) last x = none) : false = rowB r := by
  have h1 : recsTo r.recs (k + 1) = none := by rw [recsTo_succ hx, hto]; exact hs
  simp [rowB, recsTo_bad h1]
theorem row_full {r : MRow} (h : 99 < r.recs.length) (hls : r.ls ≠ 0) : rowB r = false := by
  unfold rowB headB
  by_cases h1 : r.recs.length ≤ 100
  · have e : r.recs.length = 100 := by omega
    cases recsFold 0 0 r.recs with
    | none => simp
    | some l => simp [tailB, hls, e]
  · simp [h1]
theorem head_false {r : MRow} (h : headB r = false) : rowB r = false := by simp [rowB, h]

theorem recFind_find (r : MRow) (st : Int) : decide (findB r st < 0) = !(recFind r.recs st).isSome := by
  unfold findB recFind fstIdx
  cases h : r.recs.findIdx? (fun x => x.start == st) with
  | none =>
    rw [List.findIdx?_eq_none_iff] at h
    have : r.recs.find? (fun x => x.start == st) = none := by rw [List.find?_eq_none]; intro x hx; simp [h x hx]
    rw [this]; rfl
  | some i =>
    rw [List.findIdx?_eq_some_iff_getElem] at h
    obtain ⟨hi, hp, hb⟩ := h
    have : r.recs.find? (fun x => x.start == st) = some r.recs[i] := by
      rw [List.find?_eq_some_iff_getElem]
      exact ⟨hp, i, hi, rfl, fun j hj => by simpa using hb j hj⟩
    rw [this]; simp
end Go.Proofs.YtniomgngiiiklabDoor
