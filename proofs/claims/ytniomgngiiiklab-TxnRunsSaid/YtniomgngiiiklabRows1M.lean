/- The walks of the closures over records, of slices.IndexFunc and ContainsFunc at records, and of row.find. -/
import Derived.Test.YtniomgngiiiklabGroundM
import Derived.Test.YtniomgngiiiklabKeysM
import Derived.RangeFuncNested
import Derived.RangeFuncBound
import Derived.RangeFuncCalls
import Derived.RangeFuncLeaves
import Derived.RangeFuncBox
import Derived.Shelf.Abstract
import Derived.Shelf.RegionOpen
import Derived.OwnWalkIn
import Derived.TacticsInMore
import Derived.LoopNIn
import Derived.LoopIn
namespace Go.Proofs.Ytniomgngiiiklab
open Go.RowKit

theorem find1_any (r : MRec) (g : Nat) (st : Int) (w : World) (hg : g < w.heap.size) (hc : w.cell? ⟨g, 0, none⟩ = some (.int .i64 st)) :
    Calls Try.prog 71 #[.agg #[.int .i64 r.start, .int .i64 r.commit, .string r.value], .pointer (some ⟨g, 0, none⟩)] w fun e w' => e = .returned (.bool (r.start == st)) ∧ Below w.heap.size w w' := by
  go_enter Try.func71, Try.ntmps71
  go_wp2
  go_ret
  exact ⟨rfl, (Below.refl _ _).alloc (Nat.le_refl _) _⟩

theorem late1_any (r : MRec) (g : Nat) (st : Int) (w : World) (hg : g < w.heap.size) (hc : w.cell? ⟨g, 0, none⟩ = some (.int .i64 st)) :
    Calls Try.prog 95 #[.agg #[.int .i64 r.start, .int .i64 r.commit, .string r.value], .pointer (some ⟨g, 0, none⟩)] w fun e w' => e = .returned (.bool (decide (st < r.commit))) ∧ Below w.heap.size w w' := by
  go_enter Try.func95, Try.ntmps95
  go_wp2
  go_ret
  exact ⟨rfl, (Below.refl _ _).alloc (Nat.le_refl _) _⟩

theorem with1_any (r : MRec) (g : Nat) (st : Int) (w : World) (hg : g < w.heap.size) (hc : w.cell? ⟨g, 0, none⟩ = some (.int .i64 st)) :
    Calls Try.prog 43 #[.agg #[.int .i64 r.start, .int .i64 r.commit, .string r.value], .pointer (some ⟨g, 0, none⟩)] w fun e w' => e = .returned (.bool (decide (st < r.start))) ∧ Below w.heap.size w w' := by
  go_enter Try.func43, Try.ntmps43
  go_wp2
  go_ret
  exact ⟨rfl, (Below.refl _ _).alloc (Nat.le_refl _) _⟩

set_option maxHeartbeats 1000000 in
theorem idxR_any (f : FuncId) (hf : f = 71 ∨ f = 95 ∨ f = 43) (p : MRec → Bool) (a : Addr) (A : Option Addr) (n c : Nat) (rs : List MRec) (w : World) (h : RecsAt w w.heap.size A n rs) (hm : n ≤ maxLen)
    (hp : ∀ (r : MRec) (W : World), Below w.heap.size w W → Calls Try.prog f #[.agg #[.int .i64 r.start, .int .i64 r.commit, .string r.value], .pointer (some a)] W fun e W' => e = .returned (.bool (p r)) ∧ Below W.heap.size W W') :
    Calls Try.prog 42 #[.slice A n c, .func (.func f) #[] #[.pointer (some a)]] w
      fun e w' => e = .returned (.int .i64 (fstIdx p rs)) ∧ Below w.heap.size w w' := by
  unfold maxLen at hm
  have H := Lib.hid h
  have HP := Lib.hid hp
  clear h hp
  rcases hf with rfl | rfl | rfl
  all_goals
    go_enter Try.func42, Try.ntmps42
    go_wp2_with fail
    go_loopw [8] (fun i wr => (∃ k : Nat, k ≤ n ∧ i = .int .i64 k ∧ ∀ (j : Nat) (y : MRec), j < k → rs[j]? = some y → p y = false) ∧ Below w.heap.size w wr) (fun i _ => n - (intOf i).toNat)
    case atStart => exact ⟨⟨0, Nat.zero_le _, rfl, by intro j y h; omega⟩, Below.refl _ _⟩
    case round =>
      obtain ⟨⟨k, hk, rfl, hb⟩, hbel⟩ := hrel
      have HB := Lib.hid hb
      have HL := Lib.hid hbel
      clear hb hbel
      by_cases hlt : k < n
      · obtain ⟨x, b, off, hx, rfl, hbb, g0, g1, g2⟩ := (H.out.below HL.out (Nat.le_refl _)).at_ hlt
        have HX := Lib.hid hx
        clear hx
        cases hpx : p x
        · go_wp2_with fail
          refine (HP.out x wr HL.out).mono ?_
          rintro e w1 ⟨rfl, hb1⟩
          have HL1 := Lib.hid (HL.out.trans (hb1.mono HL.out.size))
          clear hb1
          go_wp2
          go_roundw
          case rel => exact ⟨⟨k + 1, by omega, by go_num, none_snoc HX.out hpx HB.out⟩, HL1.out⟩
          case measure => simp [intOf]; omega
        · go_wp2_with fail
          refine (HP.out x wr HL.out).mono ?_
          rintro e w1 ⟨rfl, hb1⟩
          have HL1 := Lib.hid (HL.out.trans (hb1.mono HL.out.size))
          clear hb1
          go_wp2
          go_ret
          exact ⟨ret_int (fstIdx_hit p rs k x HX.out hpx HB.out).symm, HL1.out⟩
      · go_wp2
        go_ret
        exact ⟨ret_int (fstIdx_miss _ _ (none_all (k := k) (by have := H.out.1; omega) HB.out)).symm, HL.out⟩

theorem hasR_any (g : Nat) (st : Int) (A : Option Addr) (n c : Nat) (rs : List MRec) (w : World) (h : RecsAt w w.heap.size A n rs) (hm : n ≤ maxLen) (hg : g < w.heap.size) (hc : w.cell? ⟨g, 0, none⟩ = some (.int .i64 st)) :
    Calls Try.prog 94 #[.slice A n c, .func (.func 95) #[] #[.pointer (some ⟨g, 0, none⟩)]] w
      fun e w' => e = .returned (.bool (rs.any fun r => decide (st < r.commit))) ∧ Below w.heap.size w w' := by
  have H := Lib.hid (idxR_any 95 (.inr (.inl rfl)) (fun r => decide (st < r.commit)) ⟨g, 0, none⟩ A n c rs w h hm (fun r W hb => late1_any r g st W (by have := hb.size; omega) ((hb.cell (p := ⟨g, 0, none⟩) hg).trans hc)))
  clear h hc
  rw [← fstIdx_nonneg]
  go_enter Try.func94, Try.ntmps94
  go_wp2_with fail
  refine H.out.mono ?_
  rintro e w1 ⟨rfl, hb1⟩
  go_wp2
  go_ret
  exact ⟨rfl, hb1⟩

def findB (r : MRow) (st : Int) : Int := fstIdx (fun x : MRec => x.start == st) r.recs

theorem find_any (r : MRow) (st : Int) (A : Option Addr) (n c : Nat) (w : World) (h : RecsAt w w.heap.size A n r.recs) (hm : n ≤ maxLen) :
    Calls Try.prog 40 #[.agg #[.string r.key, .int .i64 r.ls, .string r.lp, .string r.value, .slice A n c], .int .i64 st] w fun e w' => e = .returned (.int .i64 (findB r st)) ∧ Below w.heap.size w w' := by
  have H := Lib.hid h
  clear h
  unfold findB
  go_enter Try.func40, Try.ntmps40
  go_wp2_with fail
  refine (idxR_any 71 (.inl rfl) (fun x : MRec => x.start == st) _ A n c r.recs _ ((H.out.below (((Below.refl w.heap.size w).alloc (Nat.le_refl _) _).alloc (by simp) _) (Nat.le_refl _)).more (by simp; omega)) hm (fun x W hb => find1_any x (w.heap.size + 1) st W (by have := hb.size; simp at this; omega) ((hb.cell (p := ⟨w.heap.size + 1, 0, none⟩) (by simp)).trans (by simp)))).mono ?_
  rintro e w1 ⟨rfl, hb1⟩
  have HL := Lib.hid ((((Below.refl w.heap.size w).alloc (Nat.le_refl _) _).alloc (by simp) _).trans (hb1.mono (by simp; omega)))
  clear hb1
  go_wp2
  go_ret
  exact ⟨rfl, HL.out⟩
end Go.Proofs.Ytniomgngiiiklab

/- What row.Check says of a row, as a plain function; no program in sight. -/
namespace Go.Proofs.Ytniomgngiiiklab
open Go.RowKit

/-- One record more, behind one that began at prev, where the last commit was at last: the new last; none: that may not be. -/
def recStep (prev last : Int) (x : MRec) : Option Int :=
  if timeB x.start && (decide (prev < x.start) && decide (x.value.size ≤ 20)) then
    if x.commit = 0 then (if 1 ≤ x.value.size then none else some last)
    else if x.commit ≤ x.start then none else if 1099511627776 < x.commit then none else if x.start < last then none else some x.commit
  else none

def recsFold : Int → Int → List MRec → Option Int
  | _, last, [] => some last
  | prev, last, x :: l => match recStep prev last x with
    | none => none
    | some last' => recsFold x.start last' l

/-- The state behind the first k records: the start of the one before, and the last commit. -/
def recsTo (rs : List MRec) (k : Nat) : Option Int := recsFold 0 0 (rs.take k)
def prevOf (rs : List MRec) (k : Nat) : Int := match k with | 0 => 0 | j + 1 => (rs[j]?.getD MRec.zero).start

theorem recsFold_append (a b : List MRec) : ∀ prev last, recsFold prev last (a ++ b) = (recsFold prev last a).bind fun l => recsFold (match a.getLast? with | none => prev | some x => x.start) l b := by
  induction a with
  | nil => intro prev last; rfl
  | cons x a ih =>
    intro prev last
    simp only [List.cons_append, recsFold]
    cases recStep prev last x with
    | none => rfl
    | some l =>
      simp only [ih]
      cases a with
      | nil => rfl
      | cons y a =>
        have e : (x :: y :: a).getLast? = (y :: a).getLast? := by simp
        rw [e]
        cases h : (y :: a).getLast? with
        | none => simp at h
        | some z => rfl

theorem recsTo_succ {rs : List MRec} {k : Nat} {x : MRec} (hx : rs[k]? = some x) : recsTo rs (k + 1) = (recsTo rs k).bind fun l => recStep (prevOf rs k) l x := by
  unfold recsTo
  obtain ⟨hk, rfl⟩ := List.getElem?_eq_some_iff.1 hx
  rw [List.take_succ_eq_append_getElem hk, recsFold_append]
  congr 1
  funext l
  have : (match (rs.take k).getLast? with | none => (0 : Int) | some x => x.start) = prevOf rs k := by
    match k with
    | 0 => rfl
    | j + 1 =>
      have hj : j < rs.length := by omega
      have hl : (rs.take (j + 1)).getLast? = some rs[j] := by
        rw [List.getLast?_eq_getElem?, List.length_take, Nat.min_eq_left (by omega), Nat.add_sub_cancel, List.getElem?_take_of_lt (by omega), List.getElem?_eq_getElem hj]
      rw [hl]
      simp [prevOf, List.getElem?_eq_getElem hj]
  rw [this]
  simp only [recsFold]
  cases recStep (prevOf rs k) l rs[k] <;> rfl
theorem recsTo_zero (rs : List MRec) : recsTo rs 0 = some 0 := rfl
theorem recsTo_all {rs : List MRec} {k : Nat} (h : rs.length ≤ k) : recsTo rs k = recsFold 0 0 rs := by
  unfold recsTo
  rw [List.take_of_length_le h]
theorem recsTo_bad {rs : List MRec} {k : Nat} (h : recsTo rs k = none) : recsFold 0 0 rs = none := by
  have : recsFold 0 0 (rs.take k ++ rs.drop k) = none := by
    rw [recsFold_append]
    unfold recsTo at h
    rw [h]
    rfl
  rwa [List.take_append_drop] at this

def lockB (r : MRow) : Bool := if r.ls = 0 then decide (r.lp.size = 0) && decide (r.value.size = 0) else timeB r.ls && (keyB r.lp && decide (findB r r.ls < 0))
def headB (r : MRow) : Bool := keyB r.key && (decide (r.value.size ≤ 20) && (decide (r.recs.length ≤ 100) && lockB r))
def tailB (r : MRow) (last : Int) : Bool := decide (r.ls = 0) || (decide (last ≤ r.ls) && !decide (r.recs.length = 100))
/-- Is the row valid? -/
def rowB (r : MRow) : Bool := headB r && (match recsFold 0 0 r.recs with | none => false | some last => tailB r last)
def okCode (b : Bool) : Int := if b then 0 else 6

theorem row_bad {r : MRow} {k : Nat} {last : Int} {x : MRec} (hto : recsTo r.recs k = some last) (hx : r.recs[k]? = some x) (hs : recStep (prevOf r.recs k) last x = none) : 6 = okCode (rowB r) := by
  have h1 : recsTo r.recs (k + 1) = none := by rw [recsTo_succ hx, hto]; exact hs
  simp [rowB, recsTo_bad h1, okCode]
theorem row_next {rs : List MRec} {k : Nat} {last last' : Int} {x : MRec} (hto : recsTo rs k = some last) (hx : rs[k]? = some x) (hs : recStep (prevOf rs k) last x = some last') : recsTo rs (k + 1) = some last' := by
  rw [recsTo_succ hx, hto]; exact hs
theorem row_end {r : MRow} {k : Nat} {last : Int} (hh : headB r = true) (hto : recsTo r.recs k = some last) (hk : r.recs.length ≤ k) : rowB r = tailB r last := by
  rw [recsTo_all hk] at hto
  simp [rowB, hh, hto]
theorem row_head {r : MRow} (hh : headB r = false) : 6 = okCode (rowB r) := by simp [rowB, hh, okCode]

section
variable {prev last : Int} {x : MRec}
theorem step_time (h : timeB x.start = false) : recStep prev last x = none := by simp [recStep, h]
theorem step_prev (h : x.start ≤ prev) : recStep prev last x = none := by
  have : decide (prev < x.start) = false := by simp; omega
  simp [recStep, this]
theorem step_size (h : ¬ x.value.size ≤ 20) : recStep prev last x = none := by simp [recStep, h]
theorem step_zero_bad (h0 : x.commit = 0) (h : 1 ≤ x.value.size) : recStep prev last x = none := by simp [recStep, h0, h]
theorem step_zero (ht : timeB x.start = true) (hp : prev < x.start) (hs : x.value.size ≤ 20) (h0 : x.commit = 0) (h : ¬ 1 ≤ x.value.size) : recStep prev last x = some last := by simp [recStep, ht, hp, hs, h0, h]
theorem step_le (h0 : x.commit ≠ 0) (h : x.commit ≤ x.start) : recStep prev last x = none := by simp [recStep, h0, h]
theorem step_max (h0 : x.commit ≠ 0) (h : 1099511627776 < x.commit) : recStep prev last x = none := by simp [recStep, h0, h]
theorem step_last (h0 : x.commit ≠ 0) (h : x.start < last) : recStep prev last x = none := by simp [recStep, h0, h]
theorem step_ok (ht : timeB x.start = true) (hp : prev < x.start) (hs : x.value.size ≤ 20) (h0 : x.commit ≠ 0) (h1 : x.start < x.commit) (h2 : x.commit ≤ 1099511627776) (h3 : last ≤ x.start) : recStep prev last x = some x.commit := by
  have e1 : ¬ x.commit ≤ x.start := by omega
  have e2 : ¬ 1099511627776 < x.commit := by omega
  have e3 : ¬ x.start < last := by omega
  simp [recStep, ht, hp, hs, h0, e1, e2, e3]
end
theorem prevOf_succ {rs : List MRec} {j : Nat} {y : MRec} (h : rs[j]? = some y) : prevOf rs (j + 1) = y.start := by simp [prevOf, h]
theorem timeB_bounds {n : Int} (h : timeB n = true) : 1 ≤ n ∧ n ≤ 1099511627776 := by
  simp only [timeB, inB, Bool.and_eq_true, decide_eq_true_eq] at h
  exact h
end Go.Proofs.Ytniomgngiiiklab

/- The reference's test of a row is row.Check's: the plain law; no program in sight. -/
namespace Go.Proofs.Ytniomgngiiiklab
open Go.RowKit

theorem recStep_some {prev last last' : Int} {x : MRec} (h : recStep prev last x = some last') :
    timeB x.start = true ∧ prev < x.start ∧ x.value.size ≤ 20 ∧ ((x.commit = 0 ∧ last' = last ∧ ¬ 1 ≤ x.value.size) ∨ (x.commit ≠ 0 ∧ x.start < x.commit ∧ x.commit ≤ 1099511627776 ∧ last ≤ x.start ∧ last' = x.commit)) := by
  unfold recStep at h
  split at h
  · rename_i hc
    simp only [Bool.and_eq_true, decide_eq_true_eq] at hc
    refine ⟨hc.1, hc.2.1, hc.2.2, ?_⟩
    split at h
    · rename_i h0
      split at h
      · cases h
      · rename_i hv
        injection h with h
        exact .inl ⟨h0, h.symm, hv⟩
    · rename_i h0
      split at h
      · cases h
      · split at h
        · cases h
        · split at h
          · cases h
          · injection h with h
            exact .inr ⟨h0, by omega, by omega, by omega, h.symm⟩
  · cases h

/-- The last commit behind k records is the greatest. -/
theorem recsTo_max {rs : List MRec} : ∀ {k : Nat} {last : Int}, k ≤ rs.length → recsTo rs k = some last →
    0 ≤ last ∧ (∀ (j : Nat) (x : MRec), j < k → rs[j]? = some x → x.commit ≤ last) ∧ (last = 0 ∨ ∃ (j : Nat) (x : MRec), j < k ∧ rs[j]? = some x ∧ x.commit = last)
  | 0, last, _, h => by
    rw [recsTo_zero] at h
    injection h with h
    exact ⟨by omega, by intro j x hj; omega, .inl h.symm⟩
  | k + 1, last, hk, h => by
    have hx : rs[k]? = some rs[k] := List.getElem?_eq_getElem (by omega)
    rw [recsTo_succ hx] at h
    cases hto : recsTo rs k with
    | none => rw [hto] at h; cases h
    | some l =>
      rw [hto] at h
      obtain ⟨h0, h1, h2⟩ := recsTo_max (by omega) hto
      obtain ⟨t, hp, hs, hc⟩ := recStep_some h
      have hb := timeB_bounds t
      rcases hc with ⟨c0, rfl, _⟩ | ⟨c0, c1, c2, c3, rfl⟩
      · refine ⟨h0, fun j x hj hxj => ?_, ?_⟩
        · by_cases e : j = k
          · subst e; rw [hx] at hxj; injection hxj with hxj; subst hxj; omega
          · exact h1 j x (by omega) hxj
        · rcases h2 with h2 | ⟨j, x, hj, hxj, hcx⟩
          · exact .inl h2
          · exact .inr ⟨j, x, by omega, hxj, hcx⟩
      · refine ⟨by omega, fun j x hj hxj => ?_, .inr ⟨k, _, by omega, hx, rfl⟩⟩
        by_cases e : j = k
        · subst e; rw [hx] at hxj; injection hxj with hxj; subst hxj; omega
        · have := h1 j x (by omega) hxj; omega

theorem recsFold_mono : ∀ (l : List MRec) (prev last last' : Int), 0 ≤ last → recsFold prev last l = some last' → last ≤ last'
  | [], _, last, last', _, h => by simp only [recsFold] at h; injection h with h; omega
  | x :: l, prev, last, last', h0, h => by
    simp only [recsFold] at h
    cases hs : recStep prev last x with
    | none => rw [hs] at h; cases h
    | some l1 =>
      rw [hs] at h
      obtain ⟨t, hp, _, hc⟩ := recStep_some hs
      have hb := timeB_bounds t
      rcases hc with ⟨c0, rfl, _⟩ | ⟨c0, c1, c2, c3, rfl⟩
      · exact recsFold_mono l _ _ _ h0 h
      · have := recsFold_mono l _ _ _ (by omega) h; omega

theorem recsTo_le {rs : List MRec} {k : Nat} {last last' : Int} (h0 : 0 ≤ last) (h : recsTo rs k = some last) (h' : recsFold 0 0 rs = some last') : last ≤ last' := by
  have e : recsFold 0 0 (rs.take k ++ rs.drop k) = some last' := by rw [List.take_append_drop]; exact h'
  rw [recsFold_append] at e
  unfold recsTo at h
  rw [h] at e
  exact recsFold_mono _ _ _ _ h0 e

/-- A record whose commit lies behind the lock: the row may not be. -/
theorem row_lock {r : MRow} {k : Nat} {last : Int} (h0 : 0 ≤ last) (hls : r.ls ≠ 0) (h : recsTo r.recs k = some last) (hlt : r.ls < last) : rowB r = false := by
  unfold rowB
  cases h' : recsFold 0 0 r.recs with
  | none => simp
  | some last' =>
    have := recsTo_le h0 h h'
    have e : ¬ last' ≤ r.ls := by omega
    simp [tailB, hls, e]
theorem row_bad' {r : MRow} {k : Nat} {last : Int} {x : MRec} (hto : recsTo r.recs k = some last) (hx : r.recs[k]? = some x) (hs : recStep (prevOf r.recs k) last x = none) : false = rowB r := by
  have h1 : recsTo r.recs (k + 1) = none := by rw [recsTo_succ hx, hto]; exact hs
  simp [rowB, recsTo_bad h1]
theorem row_full {r : MRow} (h : 99 < r.recs.length) (hls : r.ls ≠ 0) : rowB r = false := by
  unfold rowB headB
  by_cases h1 : r.recs.length ≤ 100
  · have e : r.recs.length = 100 := by omega
    cases recsFold 0 0 r.recs with
    | none => simp
    | some l => simp [tailB, hls, e]
  · simp [h1]
theorem head_false {r : MRow} (h : headB r = false) : rowB r = false := by simp [rowB, h]

theorem recFind_find (r : MRow) (st : Int) : decide (findB r st < 0) = !(recFind r.recs st).isSome := by
  unfold findB recFind fstIdx
  cases h : r.recs.findIdx? (fun x => x.start == st) with
  | none =>
    rw [List.findIdx?_eq_none_iff] at h
    have : r.recs.find? (fun x => x.start == st) = none := by rw [List.find?_eq_none]; intro x hx; simp [h x hx]
    rw [this]; rfl
  | some i =>
    rw [List.findIdx?_eq_some_iff_getElem] at h
    obtain ⟨hi, hp, hb⟩ := h
    have : r.recs.find? (fun x => x.start == st) = some r.recs[i] := by
      rw [List.find?_eq_some_iff_getElem]
      exact ⟨hp, i, hi, rfl, fun j hj => by simpa using hb j hj⟩
    rw [this]; simp
end Go.Proofs.Ytniomgngiiiklab

/- slices.Backward at records: the iterator's contract: the records come from the last to the first. -/
namespace Go.Proofs.Ytniomgngiiiklab
open Go.RowKit Go.Shelf
attribute [local go_sem] Oper.semAt_some

/-- What has come when k rounds are over: the last k records, the last one first. -/
def came (rs : List MRec) (k : Nat) : List (Int × MRec) := (List.range k).map fun j => (((rs.length - 1 - j : Nat) : Int), (rs[rs.length - 1 - j]?).getD MRec.zero)
theorem came_succ (rs : List MRec) (k : Nat) : came rs (k + 1) = came rs k ++ [(((rs.length - 1 - k : Nat) : Int), (rs[rs.length - 1 - k]?).getD MRec.zero)] := by simp [came, List.range_succ]
theorem came_length (rs : List MRec) (k : Nat) : (came rs k).length = k := by simp [came]

/-- What a round that goes on keeps: all below n₀, and block g. -/
def KpAt (n₀ g : Nat) (A B : World) : Prop := Below n₀ A B ∧ B.heap[g]? = A.heap[g]?
theorem kpAt_t {n₀ g : Nat} {A B C : World} (h : KpAt n₀ g A B) (k : KpAt n₀ g B C) : KpAt n₀ g A C := ⟨h.1.trans k.1, k.2.trans h.2⟩
theorem kpAt_b {n₀ g : Nat} {w : World} (hn : n₀ ≤ w.heap.size) (hg : g < w.heap.size) (W : World) (l : Nat) (o o' : Obj) (hl : w.heap.size ≤ l) (h : W.heap[l]? = some o) (h1 : o.isCells = false) (h2 : o.isWalk = false) : KpAt n₀ g W (W.putObj l o') :=
  ⟨belowK_b hn W l o o' hl h h1 h2, World.putObj_heap_other (by omega)⟩
theorem kpAt_refl (n₀ g : Nat) (W : World) : KpAt n₀ g W W := ⟨Below.refl _ _, rfl⟩

def recArgs (x : Int × MRec) : Array Value := #[.int .i64 x.1, .agg #[.int .i64 x.2.start, .int .i64 x.2.commit, .string x.2.value]]

set_option maxRecDepth 100000 in
set_option maxHeartbeats 2000000 in
theorem back1_in (F : Fence) (n : Nat) (hf : F.fn 92) (hro : F.round = none) (hn : 1 ≤ n) (l g n₀ : Nat) (A : Option Addr) (len cap : Nat) (rs : List MRec) (hreach : len ≤ 140737488351232) (hlen : rs.length = len)
    (J Jx : List (Int × MRec) → World → Prop)
    (hY : ∀ pre x W, J pre W → pre.length < len → YieldAt F (n - 1) Try.prog l (recArgs x) W fun e W' =>
      (e = .returned (.bool true) ∧ J (pre ++ [x]) W' ∧ KpAt n₀ g W W') ∨ (e = .returned (.bool false) ∧ Jx (pre ++ [x]) W'))
    (W : World) (hg : W.heap[g]? = some (.cells #[.slice A len cap] 24 (0, 0))) (hR : RecsAt W n₀ A len rs) (h0 : J [] W) :
    CallsIn F n Try.prog 92 #[.func (.yield l) #[] #[], .pointer (some ⟨g, 0, none⟩)] W fun e W' => (∃ v, e = .returned v) ∧
      ((∃ ys, ys = came rs len ∧ J ys W') ∨ (∃ pre, (∃ k, k ≤ len ∧ pre = came rs k) ∧ Jx pre W')) := by
  have Hl := Lib.hid hlen
  have HR := Lib.hid hR
  have HG := Lib.hid hg
  obtain ⟨hc0, _⟩ := blk_read hg
  clear hlen hR hg
  refine callsIn_of_wp Try.func92 rfl hf ?_ hro
  simp only [Try.ntmps92, List.size_toArray, List.length_cons, List.length_nil, Nat.reduceAdd, Nat.reduceSub, Array.replicate_succ, Array.replicate_zero, List.push_toArray, List.append_toArray, List.nil_append, List.cons_append]
  gi_wp2
  gi_loopw [3] (fun i wr => ∃ m k : Nat, m + k = len ∧ i = .int .i64 ((m : Int) - 1) ∧ J (came rs k) wr ∧ KpAt n₀ g W wr) (fun i _ => (intOf i + 1).toNat)
  case atStart => exact ⟨len, 0, rfl, rfl, h0, kpAt_refl _ _ _⟩
  case round =>
    obtain ⟨m, k, hmk, rfl, hJs, hnx⟩ := hrel
    have HN := Lib.hid hnx
    obtain ⟨hcx, _⟩ := blk_read (hnx.2.trans HG.out)
    clear hnx hc0
    cases m with
    | zero =>
      obtain rfl : k = len := by omega
      gi_wp2
      go_end0
      exact ⟨⟨_, rfl⟩, .inl ⟨_, rfl, hJs⟩⟩
    | succ m =>
      have hm1 : (((m + 1 : Nat) : Int) - 1) = (m : Int) := by omega
      rw [hm1]
      clear hm1
      obtain ⟨x, b, off, hx, rfl, hbb, g0, g1, g2⟩ := (HR.out.below HN.out.1 (Nat.le_refl _)).at_ (show m < len by omega)
      have hce : came rs (k + 1) = came rs k ++ [((m : Int), x)] := by
        have e : rs.length - 1 - k = m := by have := Hl.out; omega
        rw [came_succ, e, hx]; rfl
      have HC := Lib.hid hce
      clear hx hce
      obtain ⟨fn, tmps, assign, body, hy, hR⟩ := hY _ ((m : Int), x) wr hJs (by rw [came_length]; omega)
      simp only [recArgs] at hy
      have hml : (m : Int) < (len : Int) := by omega
      have hm0 : (0 : Int) ≤ (m : Int) := by omega
      gi_wp2
      refine hR.mono ?_
      rintro e W3 (⟨rfl, hJ3, hk3⟩ | ⟨rfl, hJx3⟩)
      · gi_wp2
        go_roundw
        case rel => exact ⟨m, k + 1, by omega, rfl, by rw [HC.out]; exact hJ3, kpAt_t HN.out hk3⟩
        case measure => simp [intOf]
      · gi_wp2
        refine bodyPost_ret (results_none rfl _ _ _) rfl ?_
        exact ⟨⟨_, rfl⟩, .inr ⟨_, ⟨k + 1, by omega, HC.out.symm⟩, hJx3⟩⟩

theorem back_in (F : Fence) (n : Nat) (hf : F.fn 79) (hro : F.round = none) (A : Option Addr) (len cap : Nat) (w : World) :
    CallsIn F n Try.prog 79 #[.slice A len cap] w
      fun e w' => e = .returned (.func (.func 92) #[] #[.pointer (some ⟨w.heap.size, 0, none⟩)]) ∧ w' = w.alloc (.cells #[.slice A len cap] 24) := by
  refine callsIn_of_wp Try.func79 rfl hf ?_ hro
  simp only [Try.ntmps79, List.size_toArray, List.length_cons, List.length_nil, Nat.reduceAdd, Nat.reduceSub, Array.replicate_succ, Array.replicate_zero, List.push_toArray, List.append_toArray, List.nil_append, List.cons_append]
  gi_wp2
  go_ret
  exact ⟨rfl, rfl⟩

theorem back_stops (F : Fence) (n : Nat) (hf : F.fn 92) (hro : F.round = none) (hn : 1 ≤ n) (g n₀ : Nat) (A : Option Addr) (len cap : Nat) (rs : List MRec) (hreach : len ≤ 140737488351232) (hlen : rs.length = len) (w : World) (hn₀ : n₀ ≤ w.heap.size)
    (hg : w.heap[g]? = some (.cells #[.slice A len cap] 24 (0, 0))) (hR : RecsAt w n₀ A len rs) :
    SeqStopsK F n Try.prog 92 #[.pointer (some ⟨g, 0, none⟩)] recArgs (KpAt n₀ g) (fun ys => ys = came rs len) (fun pre => ∃ k, k ≤ len ∧ pre = came rs k) len w := fun l J Jx W hW _ _ hY h0 =>
  back1_in F n hf hro hn l g n₀ A len cap rs hreach hlen J Jx hY W ((hW.block g (blk_lt hg)).trans hg) (hR.below hW hn₀) h0
end Go.Proofs.Ytniomgngiiiklab
