/- The reference's ways of putting a record, a row, a write in its place come to the same; no program in sight. -/
import Derived.Test.YtniomgngiiiklabWorld
namespace Go.Proofs.Ytniomgngiiiklab
open Go.RowKit

theorem insRecs_filter {l : List MRec} {x : MRec} (hp : l.Pairwise RecRel) (hne : ∀ y ∈ l, y.start ≠ x.start) :
    (l.filter fun y => decide (y.start < x.start)) ++ x :: (l.filter fun y => decide (x.start < y.start)) = insRecs l x := by
  have hb := insAt_before (l := l) (x := x)
  have ha := insAt_behind (x := x) hp
  unfold insRecs
  generalize insAt l x = i at hb ha
  have e1 : (l.filter fun y => decide (y.start < x.start)) = l.take i := by
    conv => lhs; rw [← List.take_append_drop i l, List.filter_append]
    rw [List.filter_eq_self.2, List.filter_eq_nil_iff.2, List.append_nil]
    · intro y hy; have := ha y hy; simp; omega
    · intro y hy; have := hb y hy; have := hne y (List.mem_of_mem_take hy); simp; omega
  have e2 : (l.filter fun y => decide (x.start < y.start)) = l.drop i := by
    conv => lhs; rw [← List.take_append_drop i l, List.filter_append]
    rw [List.filter_eq_nil_iff.2, List.filter_eq_self.2, List.nil_append]
    · intro y hy; have := ha y hy; simp; omega
    · intro y hy; have := hb y hy; simp; omega
  rw [e1, e2]

/-- One element of the reference's withRow: what is out so far, and whether the row is in it. -/
def rowStep (r : MRow) (p : List MRow × Bool) (y : MRow) : List MRow × Bool :=
  let q := if !p.2 && !ltK y.key r.key then (p.1 ++ [r], true) else p
  if y.key = r.key then q else (q.1 ++ [y], q.2)
def refPutRow (l : List MRow) (r : MRow) : List MRow :=
  let p := l.foldl (rowStep r) ([], false)
  if p.2 then p.1 else p.1 ++ [r]
theorem rowStep_done {r : MRow} : ∀ {l : List MRow} {out : List MRow}, (∀ y ∈ l, y.key ≠ r.key) → l.foldl (rowStep r) (out, true) = (out ++ l, true)
  | [], out, _ => by simp
  | y :: l, out, h => by
    have e : rowStep r (out, true) y = (out ++ [y], true) := by
      unfold rowStep
      simp [h y List.mem_cons_self]
    rw [List.foldl_cons, e, rowStep_done fun z hz => h z (List.mem_cons_of_mem _ hz)]
    simp
theorem refPutRow_from {r : MRow} : ∀ {l out : List MRow}, (l.Pairwise fun a b => ltK a.key b.key = true) →
    (let p := l.foldl (rowStep r) (out, false); if p.2 then p.1 else p.1 ++ [r]) = out ++ putRow l r
  | [], out, _ => by simp [putRow]
  | y :: l, out, h => by
    obtain ⟨h1, h2⟩ := List.pairwise_cons.1 h
    rw [List.foldl_cons]
    unfold putRow
    cases hlt : ltK y.key r.key with
    | true =>
      have e : rowStep r (out, false) y = (out ++ [y], false) := by
        unfold rowStep
        simp [hlt, ltK_ne hlt]
      rw [e, refPutRow_from h2]
      simp
    | false =>
      by_cases hk : y.key = r.key
      · have e : rowStep r (out, false) y = (out ++ [r], true) := by
          unfold rowStep
          simp [hk, ltK_irrefl]
        have hne : ∀ z ∈ l, z.key ≠ r.key := fun z hz => by rw [← hk]; exact (ltK_ne (h1 z hz)).symm
        rw [e, rowStep_done hne]
        simp [hk]
      · have e : rowStep r (out, false) y = (out ++ [r] ++ [y], true) := by
          unfold rowStep
          simp [hlt, hk]
        have hgt : ltK r.key y.key = true := by
          cases hg : ltK r.key y.key with
          | true => rfl
          | false => exact absurd (ltK_total hlt hg) hk
        have hne : ∀ z ∈ l, z.key ≠ r.key := fun z hz => (ltK_ne (ltK_trans hgt (h1 z hz))).symm
        rw [e, rowStep_done hne]
        simp [hk]
theorem refPutRow_eq {l : List MRow} {r : MRow} (h : l.Pairwise fun a b => ltK a.key b.key = true) : refPutRow l r = putRow l r := by
  have := refPutRow_from (r := r) (out := []) h
  simpa [refPutRow] using this

def writeStep (r : MWrite) (p : List MWrite × Bool) (y : MWrite) : List MWrite × Bool :=
  let q := if !p.2 && !ltK y.key r.key then (p.1 ++ [r], true) else p
  if y.key = r.key then q else (q.1 ++ [y], q.2)
def refPutWrite (l : List MWrite) (r : MWrite) : List MWrite :=
  let p := l.foldl (writeStep r) ([], false)
  if p.2 then p.1 else p.1 ++ [r]
theorem writeStep_done {r : MWrite} : ∀ {l : List MWrite} {out : List MWrite}, (∀ y ∈ l, y.key ≠ r.key) → l.foldl (writeStep r) (out, true) = (out ++ l, true)
  | [], out, _ => by simp
  | y :: l, out, h => by
    have e : writeStep r (out, true) y = (out ++ [y], true) := by
      unfold writeStep
      simp [h y List.mem_cons_self]
    rw [List.foldl_cons, e, writeStep_done fun z hz => h z (List.mem_cons_of_mem _ hz)]
    simp
theorem refPutWrite_from {r : MWrite} : ∀ {l out : List MWrite}, (l.Pairwise fun a b => ltK a.key b.key = true) →
    (let p := l.foldl (writeStep r) (out, false); if p.2 then p.1 else p.1 ++ [r]) = out ++ putWrite l r
  | [], out, _ => by simp [putWrite]
  | y :: l, out, h => by
    obtain ⟨h1, h2⟩ := List.pairwise_cons.1 h
    rw [List.foldl_cons]
    unfold putWrite
    cases hlt : ltK y.key r.key with
    | true =>
      have e : writeStep r (out, false) y = (out ++ [y], false) := by
        unfold writeStep
        simp [hlt, ltK_ne hlt]
      rw [e, refPutWrite_from h2]
      simp
    | false =>
      by_cases hk : y.key = r.key
      · have e : writeStep r (out, false) y = (out ++ [r], true) := by
          unfold writeStep
          simp [hk, ltK_irrefl]
        have hne : ∀ z ∈ l, z.key ≠ r.key := fun z hz => by rw [← hk]; exact (ltK_ne (h1 z hz)).symm
        rw [e, writeStep_done hne]
        simp [hk]
      · have e : writeStep r (out, false) y = (out ++ [r] ++ [y], true) := by
          unfold writeStep
          simp [hlt, hk]
        have hgt : ltK r.key y.key = true := by
          cases hg : ltK r.key y.key with
          | true => rfl
          | false => exact absurd (ltK_total hlt hg) hk
        have hne : ∀ z ∈ l, z.key ≠ r.key := fun z hz => (ltK_ne (ltK_trans hgt (h1 z hz))).symm
        rw [e, writeStep_done hne]
        simp [hk]
theorem refPutWrite_eq {l : List MWrite} {r : MWrite} (h : l.Pairwise fun a b => ltK a.key b.key = true) : refPutWrite l r = putWrite l r := by
  have := refPutWrite_from (r := r) (out := []) h
  simpa [refPutWrite] using this

/-! ### where the binary search comes to -/
def rowIdx (l : List MRow) (k : ByteArray) : Nat := l.findIdx fun r => !ltK r.key k
def writeIdx (l : List MWrite) (k : ByteArray) : Nat := l.findIdx fun r => !ltK r.key k
theorem putRow_idx : ∀ (l : List MRow) (r : MRow), putRow l r = if (l[rowIdx l r.key]?.map (·.key)) = some r.key then l.set (rowIdx l r.key) r else l.take (rowIdx l r.key) ++ r :: l.drop (rowIdx l r.key)
  | [], r => by simp [putRow, rowIdx]
  | x :: l, r => by
    unfold putRow
    cases hlt : ltK x.key r.key with
    | true =>
      have e : rowIdx (x :: l) r.key = rowIdx l r.key + 1 := by simp [rowIdx, List.findIdx_cons, hlt]
      rw [e, putRow_idx l r]
      simp only [if_true, List.getElem?_cons_succ, List.set_cons_succ, List.take_succ_cons, List.drop_succ_cons, List.cons_append]
      split <;> rfl
    | false =>
      have e : rowIdx (x :: l) r.key = 0 := by simp [rowIdx, List.findIdx_cons, hlt]
      rw [e]
      by_cases hk : x.key = r.key <;> simp [hk]
theorem putWrite_idx : ∀ (l : List MWrite) (r : MWrite), putWrite l r = if (l[writeIdx l r.key]?.map (·.key)) = some r.key then l.set (writeIdx l r.key) r else l.take (writeIdx l r.key) ++ r :: l.drop (writeIdx l r.key)
  | [], r => by simp [putWrite, writeIdx]
  | x :: l, r => by
    unfold putWrite
    cases hlt : ltK x.key r.key with
    | true =>
      have e : writeIdx (x :: l) r.key = writeIdx l r.key + 1 := by simp [writeIdx, List.findIdx_cons, hlt]
      rw [e, putWrite_idx l r]
      simp only [if_true, List.getElem?_cons_succ, List.set_cons_succ, List.take_succ_cons, List.drop_succ_cons, List.cons_append]
      split <;> rfl
    | false =>
      have e : writeIdx (x :: l) r.key = 0 := by simp [writeIdx, List.findIdx_cons, hlt]
      rw [e]
      by_cases hk : x.key = r.key <;> simp [hk]
theorem rowAt_idx : ∀ {l : List MRow} {k : ByteArray}, (l.Pairwise fun a b => ltK a.key b.key = true) → rowAt l k = (l[rowIdx l k]?).filter fun r => decide (r.key = k)
  | [], k, _ => by simp [rowAt, rowIdx]
  | x :: l, k, h => by
    obtain ⟨h1, h2⟩ := List.pairwise_cons.1 h
    cases hlt : ltK x.key k with
    | true =>
      have e : rowIdx (x :: l) k = rowIdx l k + 1 := by simp [rowIdx, List.findIdx_cons, hlt]
      rw [e, List.getElem?_cons_succ, ← rowAt_idx h2]
      simp [rowAt, ltK_ne hlt]
    | false =>
      have e : rowIdx (x :: l) k = 0 := by simp [rowIdx, List.findIdx_cons, hlt]
      rw [e]
      by_cases hk : x.key = k
      · simp [rowAt, hk, Option.filter]
      · have hgt : ltK k x.key = true := by
          cases hg : ltK k x.key with
          | true => rfl
          | false => exact absurd (ltK_total hlt hg) hk
        have : rowAt (x :: l) k = none := by
          unfold rowAt
          rw [List.find?_eq_none]
          intro y hy
          rcases List.mem_cons.1 hy with rfl | hy
          · simpa using hk
          · simpa using (ltK_ne (ltK_trans hgt (h1 y hy))).symm
        rw [this]
        simp [hk, Option.filter]
theorem writeOf_idx : ∀ {l : List MWrite} {k : ByteArray}, (l.Pairwise fun a b => ltK a.key b.key = true) → writeOf l k = (l[writeIdx l k]?).filter fun r => decide (r.key = k)
  | [], k, _ => by simp [writeOf, writeIdx]
  | x :: l, k, h => by
    obtain ⟨h1, h2⟩ := List.pairwise_cons.1 h
    cases hlt : ltK x.key k with
    | true =>
      have e : writeIdx (x :: l) k = writeIdx l k + 1 := by simp [writeIdx, List.findIdx_cons, hlt]
      rw [e, List.getElem?_cons_succ, ← writeOf_idx h2]
      simp [writeOf, ltK_ne hlt]
    | false =>
      have e : writeIdx (x :: l) k = 0 := by simp [writeIdx, List.findIdx_cons, hlt]
      rw [e]
      by_cases hk : x.key = k
      · simp [writeOf, hk, Option.filter]
      · have hgt : ltK k x.key = true := by
          cases hg : ltK k x.key with
          | true => rfl
          | false => exact absurd (ltK_total hlt hg) hk
        have : writeOf (x :: l) k = none := by
          unfold writeOf
          rw [List.find?_eq_none]
          intro y hy
          rcases List.mem_cons.1 hy with rfl | hy
          · simpa using hk
          · simpa using (ltK_ne (ltK_trans hgt (h1 y hy))).symm
        rw [this]
        simp [hk, Option.filter]
end Go.Proofs.Ytniomgngiiiklab
