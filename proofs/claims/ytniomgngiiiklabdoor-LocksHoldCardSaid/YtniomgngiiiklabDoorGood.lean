/- What a valid row is, said element by element; and that the operations on rows keep it; no program in sight. -/
import Derived.Test.YtniomgngiiiklabDoorModel
namespace Go.Proofs.YtniomgngiiiklabDoor
open Go.RowKit

def RecGood (x : MRec) : Prop := 1 ≤ x.start ∧ x.start ≤ 1099511627776 ∧ x.value.size ≤ 20 ∧ (x.commit = 0 → x.value = ⟨#[]⟩) ∧ (x.commit ≠ 0 → x.start < x.commit ∧ x.commit ≤ 1099511627776)
def RecRel (a b : MRec) : Prop := a.start < b.start ∧ (b.commit ≠ 0 → a.commit ≤ b.start)
structure RecsGood (l : List MRec) : Prop where
  each : ∀ x ∈ l, RecGood x
  pair : l.Pairwise RecRel

theorem size_empty_iff {s : ByteArray} : s = ⟨#[]⟩ ↔ ¬ 1 ≤ s.size := ⟨by rintro rfl; decide, str_eq_empty⟩

theorem recStep_iff {prev last last' : Int} {x : MRec} : recStep prev last x = some last' ↔
    RecGood x ∧ prev < x.start ∧ ((x.commit = 0 ∧ last' = last) ∨ (x.commit ≠ 0 ∧ last ≤ x.start ∧ last' = x.commit)) := by
  constructor
  · intro h
    obtain ⟨t, hp, hs, hc⟩ := recStep_some h
    have hb := timeB_bounds t
    rcases hc with ⟨c0, rfl, hv⟩ | ⟨c0, c1, c2, c3, rfl⟩
    · exact ⟨⟨hb.1, hb.2, hs, fun _ => str_eq_empty hv, fun h => absurd c0 h⟩, hp, .inl ⟨c0, rfl⟩⟩
    · exact ⟨⟨hb.1, hb.2, hs, fun h => absurd h c0, fun _ => ⟨c1, c2⟩⟩, hp, .inr ⟨c0, c3, rfl⟩⟩
  · rintro ⟨⟨h1, h2, h3, h4, h5⟩, hp, hc⟩
    have t : timeB x.start = true := by simp [timeB, inB, h1, h2]
    rcases hc with ⟨c0, rfl⟩ | ⟨c0, c3, rfl⟩
    · exact step_zero t hp h3 c0 (size_empty_iff.1 (h4 c0))
    · exact step_ok t hp h3 c0 (h5 c0).1 (h5 c0).2 c3

theorem recsFold_iff : ∀ (l : List MRec) (prev last : Int), 0 ≤ prev → 0 ≤ last → last ≤ prev + 1099511627776 * 2 →
    ((∃ last', recsFold prev last l = some last') ↔ (∀ x ∈ l, RecGood x ∧ prev < x.start ∧ (x.commit ≠ 0 → last ≤ x.start)) ∧ l.Pairwise RecRel)
  | [], prev, last, _, _, _ => by simp [recsFold]
  | x :: l, prev, last, hp, hl, hb => by
    simp only [recsFold]
    constructor
    · rintro ⟨last', h⟩
      cases hs : recStep prev last x with
      | none => rw [hs] at h; cases h
      | some l1 =>
        rw [hs] at h
        obtain ⟨hg, hpx, hc⟩ := recStep_iff.1 hs
        obtain ⟨g1, g2, g3, g4, g5⟩ := hg
        have hl1 : 0 ≤ l1 ∧ last ≤ l1 ∧ l1 ≤ x.start + 1099511627776 * 2 ∧ (x.commit ≠ 0 → last ≤ x.start) ∧ x.commit ≤ l1 := by
          rcases hc with ⟨c0, rfl⟩ | ⟨c0, c3, rfl⟩
          · exact ⟨hl, by omega, by omega, fun h => absurd c0 h, by omega⟩
          · have := g5 c0; exact ⟨by omega, by omega, by omega, fun _ => c3, by omega⟩
        obtain ⟨h1, h2⟩ := (recsFold_iff l x.start l1 (by omega) hl1.1 hl1.2.2.1).1 ⟨last', h⟩
        refine ⟨?_, List.pairwise_cons.2 ⟨fun y hy => ?_, h2⟩⟩
        · intro y hy
          rcases List.mem_cons.1 hy with rfl | hy
          · exact ⟨⟨g1, g2, g3, g4, g5⟩, hpx, hl1.2.2.2.1⟩
          · obtain ⟨a, b, c⟩ := h1 y hy
            exact ⟨a, by omega, fun h => by have := c h; omega⟩
        · obtain ⟨a, b, c⟩ := h1 y hy
          exact ⟨b, fun h => by have := c h; omega⟩
    · rintro ⟨h1, h2⟩
      obtain ⟨g, hpx, hlx⟩ := h1 x List.mem_cons_self
      obtain ⟨h2a, h2b⟩ := List.pairwise_cons.1 h2
      have hex : ∃ l1, recStep prev last x = some l1 ∧ 0 ≤ l1 ∧ l1 ≤ x.start + 1099511627776 * 2 ∧ (l1 = last ∨ l1 = x.commit) := by
        by_cases c0 : x.commit = 0
        · exact ⟨last, recStep_iff.2 ⟨g, hpx, .inl ⟨c0, rfl⟩⟩, hl, by omega, .inl rfl⟩
        · obtain ⟨g1, g2, g3, g4, g5⟩ := g
          have := g5 c0
          exact ⟨x.commit, recStep_iff.2 ⟨⟨g1, g2, g3, g4, g5⟩, hpx, .inr ⟨c0, hlx c0, rfl⟩⟩, by omega, by omega, .inr rfl⟩
      obtain ⟨l1, hs, h0, hb1, hor⟩ := hex
      rw [hs]
      have g1 := g.1
      refine (recsFold_iff l x.start l1 (by omega) h0 hb1).2 ⟨fun y hy => ?_, h2b⟩
      obtain ⟨a, b, c⟩ := h1 y (List.mem_cons_of_mem _ hy)
      have hr := h2a y hy
      refine ⟨a, hr.1, fun h => ?_⟩
      rcases hor with rfl | rfl
      · exact c h
      · exact hr.2 h

theorem recsFold_good {l : List MRec} : (∃ last, recsFold 0 0 l = some last) ↔ RecsGood l := by
  rw [recsFold_iff l 0 0 (by omega) (by omega) (by omega)]
  constructor
  · rintro ⟨h1, h2⟩; exact ⟨fun x hx => (h1 x hx).1, h2⟩
  · rintro ⟨h1, h2⟩
    refine ⟨fun x hx => ?_, h2⟩
    have g := h1 x hx
    have := g.1
    exact ⟨g, by omega, fun _ => by omega⟩

structure RowGood (r : MRow) : Prop where
  key : keyB r.key = true
  recs : RecsGood r.recs
  size : r.value.size ≤ 20
  len : r.recs.length ≤ 100
  free : r.ls = 0 → r.lp = ⟨#[]⟩ ∧ r.value = ⟨#[]⟩
  lock : r.ls ≠ 0 → 1 ≤ r.ls ∧ r.ls ≤ 1099511627776 ∧ keyB r.lp = true ∧ (∀ x ∈ r.recs, x.start ≠ r.ls ∧ x.commit ≤ r.ls) ∧ r.recs.length ≤ 99

theorem findB_neg {r : MRow} {st : Int} : findB r st < 0 ↔ ∀ x ∈ r.recs, x.start ≠ st := by
  have h := recFind_find r st
  rw [Bool.eq_iff_iff] at h
  simp only [decide_eq_true_eq, Bool.not_eq_true'] at h
  rw [h]
  unfold recFind
  cases hf : r.recs.find? (fun x => x.start == st) with
  | none =>
    rw [List.find?_eq_none] at hf
    simp only [Option.isSome_none, true_iff]
    intro x hx e
    exact hf x hx (by simpa using e)
  | some y =>
    simp only [Option.isSome_some, Bool.true_eq_false, false_iff]
    intro hall
    exact hall y (List.mem_of_find?_eq_some hf) (by simpa using List.find?_some hf)

theorem rowB_iff {r : MRow} : rowB r = true ↔ RowGood r := by
  constructor
  · intro h
    unfold rowB at h
    simp only [Bool.and_eq_true] at h
    obtain ⟨hh, ht⟩ := h
    cases hf : recsFold 0 0 r.recs with
    | none => rw [hf] at ht; cases ht
    | some last =>
      rw [hf] at ht
      have hg := recsFold_good.1 ⟨last, hf⟩
      obtain ⟨hm0, hm1, hm2⟩ := recsTo_max (rs := r.recs) (k := r.recs.length) (Nat.le_refl _) (by rw [recsTo_all (Nat.le_refl _)]; exact hf)
      have hmx : ∀ x ∈ r.recs, x.commit ≤ last := fun x hx => by
        obtain ⟨j, hj, rfl⟩ := List.mem_iff_getElem.1 hx
        exact hm1 j _ hj (List.getElem?_eq_getElem hj)
      unfold headB at hh
      simp only [Bool.and_eq_true, decide_eq_true_eq] at hh
      obtain ⟨h1, h2, h3, h4⟩ := hh
      simp only [tailB, Bool.or_eq_true, Bool.and_eq_true, decide_eq_true_eq, Bool.not_eq_true', decide_eq_false_iff_not] at ht
      unfold lockB at h4
      refine ⟨h1, hg, h2, h3, fun h0 => ?_, fun h0 => ?_⟩
      · rw [if_pos h0] at h4
        simp only [Bool.and_eq_true, decide_eq_true_eq] at h4
        exact ⟨str_eq_empty (by omega), str_eq_empty (by omega)⟩
      · rw [if_neg h0] at h4
        simp only [Bool.and_eq_true, decide_eq_true_eq] at h4
        have hb := timeB_bounds h4.1
        rcases ht with ht | ht
        · exact absurd ht h0
        · refine ⟨hb.1, hb.2, h4.2.1, fun x hx => ⟨findB_neg.1 h4.2.2 x hx, ?_⟩, ?_⟩
          · have := hmx x hx; omega
          · omega
  · intro ⟨h1, h2, h3, h4, h5, h6⟩
    obtain ⟨last, hf⟩ := recsFold_good.2 h2
    obtain ⟨hm0, hm1, hm2⟩ := recsTo_max (rs := r.recs) (k := r.recs.length) (Nat.le_refl _) (by rw [recsTo_all (Nat.le_refl _)]; exact hf)
    unfold rowB
    rw [hf]
    have hlast : r.ls ≠ 0 → last ≤ r.ls := fun h0 => by
      obtain ⟨a, b, c, d, e⟩ := h6 h0
      rcases hm2 with h | ⟨j, x, hj, hx, hc⟩
      · omega
      · have := (d x (List.mem_of_getElem? hx)).2; omega
    have hlk : lockB r = true := by
      unfold lockB
      by_cases h0 : r.ls = 0
      · rw [if_pos h0]
        obtain ⟨a, b⟩ := h5 h0
        rw [a, b]
        decide
      · rw [if_neg h0]
        obtain ⟨a, b, c, d, e⟩ := h6 h0
        have t : timeB r.ls = true := by simp [timeB, inB, a, b]
        have f : findB r r.ls < 0 := findB_neg.2 fun x hx => (d x hx).1
        simp [t, c, f]
    have htl : tailB r last = true := by
      unfold tailB
      by_cases h0 : r.ls = 0
      · simp [h0]
      · have := hlast h0
        obtain ⟨a, b, c, d, e⟩ := h6 h0
        simp [h0, this]; omega
    simp [headB, h1, h3, h4, hlk, htl]

/-! ### one record more -/
theorem insAt_le (l : List MRec) (x : MRec) : insAt l x ≤ l.length := List.findIdx_le_length
theorem insAt_before {l : List MRec} {x : MRec} : ∀ y ∈ l.take (insAt l x), y.start ≤ x.start := by
  intro y hy
  obtain ⟨j, hj, rfl⟩ := List.mem_iff_getElem.1 hy
  rw [List.getElem_take]
  have hj' : j < insAt l x := by rw [List.length_take] at hj; omega
  have := List.not_of_lt_findIdx hj'
  simp at this
  exact this
theorem insAt_behind {l : List MRec} {x : MRec} (hp : l.Pairwise RecRel) : ∀ y ∈ l.drop (insAt l x), x.start < y.start := by
  intro y hy
  obtain ⟨j, hj, rfl⟩ := List.mem_iff_getElem.1 hy
  rw [List.length_drop] at hj
  rw [List.getElem_drop]
  have hlt : insAt l x < l.length := by omega
  have h0 : x.start < l[insAt l x].start := by
    have := List.findIdx_getElem (xs := l) (p := fun y : MRec => decide (x.start < y.start)) (w := hlt)
    exact of_decide_eq_true this
  by_cases hj0 : j = 0
  · subst hj0; exact h0
  · have := (List.pairwise_iff_getElem.1 hp (insAt l x) (insAt l x + j) hlt (by omega) (by omega)).1
    omega
theorem mem_insRecs {l : List MRec} {x y : MRec} : y ∈ insRecs l x ↔ y = x ∨ y ∈ l := by
  unfold insRecs
  rw [List.mem_append, List.mem_cons]
  conv => rhs; rw [← List.take_append_drop (insAt l x) l, List.mem_append]
  constructor
  · rintro (h | h | h)
    · exact .inr (.inl h)
    · exact .inl h
    · exact .inr (.inr h)
  · rintro (h | h | h)
    · exact .inr (.inl h)
    · exact .inl h
    · exact .inr (.inr h)
theorem length_insRecs (l : List MRec) (x : MRec) : (insRecs l x).length = l.length + 1 := by
  have := insAt_le l x
  simp only [insRecs, List.length_append, List.length_take, List.length_cons, List.length_drop]; omega
theorem insRecs_good {l : List MRec} {x : MRec} (h : RecsGood l) (hx : RecGood x) (hne : ∀ y ∈ l, y.start ≠ x.start) (hc : x.commit ≠ 0 → ∀ y ∈ l, y.commit ≤ x.start) : RecsGood (insRecs l x) := by
  refine ⟨fun y hy => ?_, ?_⟩
  · rcases mem_insRecs.1 hy with rfl | hy
    · exact hx
    · exact h.each y hy
  · unfold insRecs
    have hp := h.pair
    have hb := insAt_before (l := l) (x := x)
    have ha := insAt_behind (x := x) hp
    rw [← List.take_append_drop (insAt l x) l, List.pairwise_append] at hp
    rw [List.pairwise_append, List.pairwise_cons]
    refine ⟨hp.1, ⟨fun y hy => ⟨ha y hy, fun h0 => ?_⟩, hp.2.1⟩, fun y hy z hz => ?_⟩
    · have hyl := List.mem_of_mem_drop hy
      by_cases hx0 : x.commit = 0
      · have := (h.each y hyl).1; omega
      · have h1 := hc hx0 y hyl
        have h2 := ha y hy
        have h3 := ((h.each y hyl).2.2.2.2 h0).1
        omega
    · have hyl := List.mem_of_mem_take hy
      rcases List.mem_cons.1 hz with rfl | hz
      · have h1 := hb y hy
        have h2 := hne y hyl
        exact ⟨by omega, fun h0 => hc h0 y hyl⟩
      · exact hp.2.2 y hy z hz

/-! ### the operations on rows -/
theorem statusF_good {r : MRow} {st : Int} (h : (statusF r st).2.2 = 0) : rowB r = true ∧ timeB st = true := by
  unfold statusF at h
  cases hr : rowB r
  · simp [hr] at h
  · cases ht : timeB st
    · simp [hr, ht] at h
    · exact ⟨rfl, rfl⟩
theorem statusF_of {r : MRow} {st : Int} (hr : rowB r = true) (ht : timeB st = true) :
    statusF r st = (if r.ls = st then ((1, 0, 0) : Int × Int × Int) else match recFind r.recs st with
    | none => (0, 0, 0)
    | some x => if x.commit = 0 then (3, 0, 0) else (2, x.commit, 0)) := by
  unfold statusF
  rw [hr, ht]
  rfl
theorem recFind_mem {l : List MRec} {st : Int} {x : MRec} (h : recFind l st = some x) : x ∈ l ∧ x.start = st := by
  unfold recFind at h
  exact ⟨List.mem_of_find?_eq_some h, by simpa using List.find?_some h⟩
theorem recFind_none {l : List MRec} {st : Int} (h : recFind l st = none) : ∀ y ∈ l, y.start ≠ st := by
  unfold recFind at h
  rw [List.find?_eq_none] at h
  intro y hy e
  exact h y hy (by simpa using e)
theorem recFind_of_mem {l : List MRec} (hp : l.Pairwise RecRel) {x : MRec} (hx : x ∈ l) : recFind l x.start = some x := by
  cases h : recFind l x.start with
  | none => exact absurd rfl (recFind_none h x hx)
  | some y =>
    obtain ⟨hy, he⟩ := recFind_mem h
    obtain ⟨i, hi, rfl⟩ := List.mem_iff_getElem.1 hx
    obtain ⟨j, hj, rfl⟩ := List.mem_iff_getElem.1 hy
    rcases Nat.lt_trichotomy i j with hlt | rfl | hlt
    · have := (List.pairwise_iff_getElem.1 hp i j hi hj hlt).1; omega
    · rfl
    · have := (List.pairwise_iff_getElem.1 hp j i hj hi hlt).1; omega
theorem status_one {r : MRow} {st : Int} (h0 : (statusF r st).2.2 = 0) (h : (statusF r st).1 = 1) : r.ls = st := by
  obtain ⟨hr, ht⟩ := statusF_good h0
  rw [statusF_of hr ht] at h
  by_cases hl : r.ls = st
  · exact hl
  · rw [if_neg hl] at h
    cases hf : recFind r.recs st with
    | none => rw [hf] at h; simp at h
    | some x => rw [hf] at h; by_cases h0 : x.commit = 0 <;> simp [h0] at h
theorem status_zero {r : MRow} {st : Int} (h0 : (statusF r st).2.2 = 0) (h : (statusF r st).1 = 0) : r.ls ≠ st ∧ recFind r.recs st = none := by
  obtain ⟨hr, ht⟩ := statusF_good h0
  rw [statusF_of hr ht] at h
  by_cases hl : r.ls = st
  · rw [if_pos hl] at h; simp at h
  · rw [if_neg hl] at h
    cases hf : recFind r.recs st with
    | none => exact ⟨hl, rfl⟩
    | some x => rw [hf] at h; by_cases h0 : x.commit = 0 <;> simp [h0] at h
theorem status_two {r : MRow} {st : Int} (h : (statusF r st).1 = 2) : r.ls ≠ st ∧ ∃ x, recFind r.recs st = some x ∧ x.commit ≠ 0 ∧ (statusF r st).2.1 = x.commit := by
  unfold statusF at h ⊢
  cases hr : rowB r
  · simp [hr] at h
  cases ht : timeB st
  · simp [hr, ht] at h
  simp only [hr, ht, if_true] at h ⊢
  by_cases hl : r.ls = st
  · rw [if_pos hl] at h; simp at h
  · rw [if_neg hl] at h ⊢
    cases hf : recFind r.recs st with
    | none => rw [hf] at h; simp at h
    | some x =>
      rw [hf] at h
      by_cases h0 : x.commit = 0
      · simp [h0] at h
      · exact ⟨hl, x, rfl, h0, by simp [h0]⟩
theorem status_three {r : MRow} {st : Int} (h : (statusF r st).1 = 3) : r.ls ≠ st ∧ ∃ x, recFind r.recs st = some x ∧ x.commit = 0 := by
  unfold statusF at h
  cases hr : rowB r
  · simp [hr] at h
  cases ht : timeB st
  · simp [hr, ht] at h
  simp only [hr, ht, if_true] at h
  by_cases hl : r.ls = st
  · rw [if_pos hl] at h; simp at h
  · rw [if_neg hl] at h
    cases hf : recFind r.recs st with
    | none => rw [hf] at h; simp at h
    | some x =>
      rw [hf] at h
      by_cases h0 : x.commit = 0
      · exact ⟨hl, x, rfl, h0⟩
      · simp [h0] at h

theorem lockCode_ok {r : MRow} {st : Int} {p v : ByteArray} (h : lockCode r st p v = 0) :
    rowB r = true ∧ timeB st = true ∧ keyB p = true ∧ v.size ≤ 20 ∧ (∀ x ∈ r.recs, x.commit ≤ st) ∧ r.ls = 0 ∧ r.recs.length ≤ 99 ∧ recFind r.recs st = none := by
  unfold lockCode at h
  by_cases h1 : (statusF r st).2.2 ≠ 0
  · rw [if_pos h1] at h; exact absurd h h1
  rw [if_neg h1] at h
  have h1 := Decidable.not_not.1 h1
  obtain ⟨hr, ht⟩ := statusF_good h1
  by_cases h2 : keyB p = false
  · rw [if_pos h2] at h; omega
  rw [if_neg h2] at h
  by_cases h3 : 20 < v.size
  · rw [if_pos h3] at h; omega
  rw [if_neg h3] at h
  by_cases h4 : (statusF r st).1 = 3
  · rw [if_pos h4] at h; omega
  rw [if_neg h4] at h
  by_cases h5 : (statusF r st).1 = 2 ∨ (r.recs.any fun x => decide (st < x.commit)) = true
  · rw [if_pos h5] at h; omega
  rw [if_neg h5] at h
  by_cases h6 : r.ls ≠ 0
  · rw [if_pos h6] at h; omega
  rw [if_neg h6] at h
  have h6 := Decidable.not_not.1 h6
  by_cases h7 : r.recs.length = 100
  · rw [if_pos h7] at h; omega
  have hg := rowB_iff.1 hr
  have hlen := hg.len
  refine ⟨hr, ht, by simpa using h2, by omega, fun x hx => ?_, h6, by omega, ?_⟩
  · apply Int.not_lt.1
    intro hlt
    exact h5 (.inr (List.any_eq_true.2 ⟨x, hx, by simpa using hlt⟩))
  · have hb := statusF_bounds r st
    have hls : ¬ r.ls = st := by have := timeB_bounds ht; omega
    rw [statusF_of hr ht, if_neg hls] at h4 h5
    cases hf : recFind r.recs st with
    | none => rfl
    | some x =>
      rw [hf] at h4 h5
      by_cases h0 : x.commit = 0
      · simp [h0] at h4
      · simp [h0] at h5

theorem lockRow_good {r : MRow} {st : Int} {p v : ByteArray} (h : lockCode r st p v = 0) : RowGood (lockRow r st p v) ∧ (lockRow r st p v) = { r with ls := st, lp := p, value := v } := by
  have he : lockRow r st p v = { r with ls := st, lp := p, value := v } := by unfold lockRow; rw [if_pos h]
  refine ⟨?_, he⟩
  obtain ⟨hr, ht, hp, hv, hc, hl, hn, hf⟩ := lockCode_ok h
  have hg := rowB_iff.1 hr
  have hb := timeB_bounds ht
  rw [he]
  exact ⟨hg.key, hg.recs, hv, hg.len, fun h0 => absurd (show st = 0 from h0) (by omega), fun _ => ⟨hb.1, hb.2, hp, fun x hx => ⟨recFind_none hf x hx, hc x hx⟩, hn⟩⟩

theorem withF_key (r : MRow) (x : MRec) : (withF r x).key = r.key := by unfold withF; split <;> rfl
theorem withF_recs (r : MRow) (x : MRec) : (withF r x).recs = insRecs r.recs x := by unfold withF; split <;> rfl

theorem withF_good {r : MRow} {x : MRec} (hr : RowGood r) (hx : RecGood x) (hne : ∀ y ∈ r.recs, y.start ≠ x.start) (hc : x.commit ≠ 0 → r.ls = x.start) (hlen : r.ls = x.start ∨ (r.ls = 0 ∧ r.recs.length ≤ 99) ∨ r.recs.length ≤ 98) : RowGood (withF r x) := by
  have hx1 := hx.1
  have hg : RecsGood (insRecs r.recs x) := insRecs_good hr.recs hx hne fun h0 y hy => by
    have hl := hc h0
    have := (hr.lock (by omega)).2.2.2.1 y hy
    omega
  have hli := length_insRecs r.recs x
  unfold withF
  by_cases hl : r.ls = x.start
  · rw [if_pos hl]
    have := (hr.lock (by omega)).2.2.2.2
    exact ⟨hr.key, hg, by show (0 : Nat) ≤ 20; omega, by show (insRecs r.recs x).length ≤ 100; omega, fun _ => ⟨rfl, rfl⟩, fun h => absurd rfl h⟩
  · rw [if_neg hl]
    have hx0 : x.commit = 0 := by
      apply Decidable.byContradiction
      intro h0; exact hl (hc h0)
    refine ⟨hr.key, hg, hr.size, by show (insRecs r.recs x).length ≤ 100; omega, hr.free, fun h0 => ?_⟩
    obtain ⟨a, b, c, d, e⟩ := hr.lock h0
    refine ⟨a, b, c, fun y hy => ?_, ?_⟩
    · rcases mem_insRecs.1 hy with rfl | hy
      · exact ⟨fun e => hl e.symm, by show y.commit ≤ r.ls; omega⟩
      · exact d y hy
    · have h0' : r.ls ≠ 0 := h0
      show (insRecs r.recs x).length ≤ 99; omega

theorem commitCode_ok {r : MRow} {st cm : Int} (h : commitCode r st cm = 0) : rowB r = true ∧ timeB st = true ∧ st < cm ∧ cm ≤ 1099511627776 ∧ r.ls = st := by
  unfold commitCode at h
  by_cases h1 : (statusF r st).2.2 ≠ 0
  · rw [if_pos h1] at h; exact absurd h h1
  rw [if_neg h1] at h
  have h1 := Decidable.not_not.1 h1
  obtain ⟨hr, ht⟩ := statusF_good h1
  by_cases h2 : cm ≤ st ∨ 1099511627776 < cm
  · rw [if_pos h2] at h; omega
  rw [if_neg h2] at h
  by_cases h3 : (statusF r st).1 = 3
  · rw [if_pos h3] at h; omega
  rw [if_neg h3] at h
  by_cases h4 : (statusF r st).1 ≠ 1
  · rw [if_pos h4] at h; omega
  exact ⟨hr, ht, by omega, by omega, status_one h1 (Decidable.not_not.1 h4)⟩
theorem commitCode_mk {r : MRow} {st cm : Int} (hr : rowB r = true) (ht : timeB st = true) (h1 : st < cm) (h2 : cm ≤ 1099511627776) (hl : r.ls = st) : commitCode r st cm = 0 := by
  unfold commitCode
  rw [statusF_of hr ht, if_pos hl]
  have e : ¬ (cm ≤ st ∨ 1099511627776 < cm) := by omega
  simp [e]
theorem commitRow_good {r : MRow} {st cm : Int} (h : commitCode r st cm = 0) : RowGood (commitRow r st cm) ∧ commitRow r st cm = withF r ⟨st, cm, r.value⟩ := by
  have he : commitRow r st cm = withF r ⟨st, cm, r.value⟩ := by unfold commitRow; rw [if_pos h]
  refine ⟨?_, he⟩
  obtain ⟨hr, ht, h1, h2, hl⟩ := commitCode_ok h
  have hb := timeB_bounds ht
  have hg := rowB_iff.1 hr
  have hlk := hg.lock (by omega)
  rw [he]
  refine withF_good hg ⟨hb.1, hb.2, hg.size, fun h0 => ?_, fun _ => ⟨h1, h2⟩⟩ (fun y hy => ?_) (fun _ => hl) (.inl hl)
  · exact absurd (show cm = 0 from h0) (by omega)
  · have := (hlk.2.2.2.1 y hy).1
    rw [hl] at this; exact this

theorem undoCode_ok {r : MRow} {st : Int} (h : undoCode r st = 0) : rowB r = true ∧ timeB st = true ∧
    (((statusF r st).1 = 3 ∧ undoRow r st = r) ∨ (undoRow r st = withF r ⟨st, 0, ⟨#[]⟩⟩ ∧ recFind r.recs st = none ∧ (r.ls = st ∨ (r.ls = 0 ∧ r.recs.length ≤ 99) ∨ r.recs.length ≤ 98))) := by
  have he : undoRow r st = if (statusF r st).1 = 3 then r else withF r ⟨st, 0, ⟨#[]⟩⟩ := by unfold undoRow; rw [if_pos h]
  unfold undoCode at h
  by_cases h1 : (statusF r st).2.2 ≠ 0
  · rw [if_pos h1] at h; exact absurd h h1
  rw [if_neg h1] at h
  have h1 := Decidable.not_not.1 h1
  obtain ⟨hr, ht⟩ := statusF_good h1
  refine ⟨hr, ht, ?_⟩
  by_cases h2 : (statusF r st).1 = 2
  · rw [if_pos h2] at h; omega
  rw [if_neg h2] at h
  by_cases h3 : (statusF r st).1 = 3
  · rw [if_pos h3] at he; exact .inl ⟨h3, he⟩
  rw [if_neg h3] at h he
  by_cases h4 : (statusF r st).1 = 0 ∧ (r.recs.length = 100 ∨ (r.ls ≠ 0 ∧ r.recs.length = 99))
  · rw [if_pos h4] at h; omega
  have hg := rowB_iff.1 hr
  have hlen := hg.len
  refine .inr ⟨he, ?_, ?_⟩
  · rcases (statusF_bounds r st).1 with h0 | h0 | h0 | h0
    · exact (status_zero h1 h0).2
    · have hl := status_one h1 h0
      cases hf : recFind r.recs st with
      | none => rfl
      | some x =>
        obtain ⟨hx, e⟩ := recFind_mem hf
        have hb := timeB_bounds ht
        exact absurd (e.trans hl.symm) ((hg.lock (by omega)).2.2.2.1 x hx).1
    · exact absurd h0 h2
    · exact absurd h0 h3
  · rcases (statusF_bounds r st).1 with h0 | h0 | h0 | h0
    · rw [h0] at h4
      have hlk := hg.lock
      by_cases hls : r.ls = 0
      · exact .inr (.inl ⟨hls, by omega⟩)
      · have := (hlk hls).2.2.2.2
        exact .inr (.inr (by omega))
    · exact .inl (status_one h1 h0)
    · exact absurd h0 h2
    · exact absurd h0 h3
theorem undoRow_good {r : MRow} {st : Int} (h : undoCode r st = 0) : RowGood (undoRow r st) := by
  obtain ⟨hr, ht, hc⟩ := undoCode_ok h
  have hg := rowB_iff.1 hr
  have hb := timeB_bounds ht
  rcases hc with ⟨_, e⟩ | ⟨e, hf, hlen⟩
  · rw [e]; exact hg
  · rw [e]
    exact withF_good hg ⟨hb.1, hb.2, by show (0 : Nat) ≤ 20; omega, fun _ => rfl, fun h0 => absurd rfl h0⟩ (recFind_none hf) (fun h0 => absurd rfl h0) hlen
end Go.Proofs.YtniomgngiiiklabDoor
