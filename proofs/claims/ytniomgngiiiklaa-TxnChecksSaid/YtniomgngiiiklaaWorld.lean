/- What a valid row is, said element by element; and that the operations on rows keep it; no program in sight. -/
import Derived.Test.YtniomgngiiiklaaModel
namespace Go.Proofs.Ytniomgngiiiklaa
open Go.RowKit

def RecGood (x : MRec) : Prop := 1 ≤ x.start ∧ x.start ≤ 1099511627776 ∧ x.value.size ≤ 20 ∧ (x.commit = 0 → x.value = ⟨#[]⟩) ∧ (x.commit ≠ 0 → x.start < x.commit ∧ x.commit ≤ 1099511627776)
def RecRel (a b : MRec) : Prop := a.start < b.start ∧ (b.commit ≠ 0 → a.commit ≤ b.start)
structure RecsGood (l : List MRec) : Prop where
  each : ∀ x ∈ l, RecGood x
  pair : l.Pairwise RecRel

theorem size_empty_iff {s : ByteArray} : s = ⟨#[]⟩ ↔ ¬ 1 ≤ s.size := ⟨by rintro rfl; decide, str_eq_empty⟩

theorem recStep_iff {prev last last' : Int} {x : MRec} : recStep prev last x = some last' ↔
    RecGood x ∧ prev < x.start ∧ ((x.commit = 0 ∧ last' = last) ∨ (x.commit ≠ 0 ∧ last ≤ x.start ∧ last' = x.commit)) := by
  constructor
  · intro h
    obtain ⟨t, hp, hs, hc⟩ := recStep_some h
    have hb := timeB_bounds t
    rcases hc with ⟨c0, rfl, hv⟩ | ⟨c0, c1, c2, c3, rfl⟩
    · exact ⟨⟨hb.1, hb.2, hs, fun _ => str_eq_empty hv, fun h => absurd c0 h⟩, hp, .inl ⟨c0, rfl⟩⟩
    · exact ⟨⟨hb.1, hb.2, hs, fun h => absurd h c0, fun _ => ⟨c1, c2⟩⟩, hp, .inr ⟨c0, c3, rfl⟩⟩
  · rintro ⟨⟨h1, h2, h3, h4, h5⟩, hp, hc⟩
    have t : timeB x.start = true := by simp [timeB, inB, h1, h2]
    rcases hc with ⟨c0, rfl⟩ | ⟨c0, c3, rfl⟩
    · exact step_zero t hp h3 c0 (size_empty_iff.1 (h4 c0))
    · exact step_ok t hp h3 c0 (h5 c0).1 (h5 c0).2 c3

theorem recsFold_iff : ∀ (l : List MRec) (prev last : Int), 0 ≤ prev → 0 ≤ last → last ≤ prev + 1099511627776 * 2 →
    ((∃ last', recsFold prev last l = some last') ↔ (∀ x ∈ l, RecGood x ∧ prev < x.start ∧ (x.commit ≠ 0 → last ≤ x.start)) ∧ l.Pairwise RecRel)
  | [], prev, last, _, _, _ => by simp [recsFold]
  | x :: l, prev, last, hp, hl, hb => by
    simp only [recsFold]
    constructor
    · rintro ⟨last', h⟩
      cases hs : recStep prev last x with
      | none => rw [hs] at h; cases h
      | some l1 =>
        rw [hs] at h
        obtain ⟨hg, hpx, hc⟩ := recStep_iff.1 hs
        obtain ⟨g1, g2, g3, g4, g5⟩ := hg
        have hl1 : 0 ≤ l1 ∧ last ≤ l1 ∧ l1 ≤ x.start + 1099511627776 * 2 ∧ (x.commit ≠ 0 → last ≤ x.start) ∧ x.commit ≤ l1 := by
          rcases hc with ⟨c0, rfl⟩ | ⟨c0, c3, rfl⟩
          · exact ⟨hl, by omega, by omega, fun h => absurd c0 h, by omega⟩
          · have := g5 c0; exact ⟨by omega, by omega, by omega, fun _ => c3, by omega⟩
        obtain ⟨h1, h2⟩ := (recsFold_iff l x.start l1 (by omega) hl1.1 hl1.2.2.1).1 ⟨last', h⟩
        refine ⟨?_, List.pairwise_cons.2 ⟨fun y hy => ?_, h2⟩⟩
        · intro y hy
          rcases List.mem_cons.1 hy with rfl | hy
          · exact ⟨⟨g1, g2, g3, g4, g5⟩, hpx, hl1.2.2.2.1⟩
          · obtain ⟨a, b, c⟩ := h1 y hy
            exact ⟨a, by omega, fun h => by have := c h; omega⟩
        · obtain ⟨a, b, c⟩ := h1 y hy
          exact ⟨b, fun h => by have := c h; omega⟩
    · rintro ⟨h1, h2⟩
      obtain ⟨g, hpx, hlx⟩ := h1 x List.mem_cons_self
      obtain ⟨h2a, h2b⟩ := List.pairwise_cons.1 h2
      have hex : ∃ l1, recStep prev last x = some l1 ∧ 0 ≤ l1 ∧ l1 ≤ x.start + 1099511627776 * 2 ∧ (l1 = last ∨ l1 = x.commit) := by
        by_cases c0 : x.commit = 0
        · exact ⟨last, recStep_iff.2 ⟨g, hpx, .inl ⟨c0, rfl⟩⟩, hl, by omega, .inl rfl⟩
        · obtain ⟨g1, g2, g3, g4, g5⟩ := g
          have := g5 c0
          exact ⟨x.commit, recStep_iff.2 ⟨⟨g1, g2, g3, g4, g5⟩, hpx, .inr ⟨c0, hlx c0, rfl⟩⟩, by omega, by omega, .inr rfl⟩
      obtain ⟨l1, hs, h0, hb1, hor⟩ := hex
      rw [hs]
      have g1 := g.1
      refine (recsFold_iff l x.start l1 (by omega) h0 hb1).2 ⟨fun y hy => ?_, h2b⟩
      obtain ⟨a, b, c⟩ := h1 y (List.mem_cons_of_mem _ hy)
      have hr := h2a y hy
      refine ⟨a, hr.1, fun h => ?_⟩
      rcases hor with rfl | rfl
      · exact c h
      · exact hr.2 h

theorem recsFold_good {l : List MRec} : (∃ last, recsFold 0 0 l = some last) ↔ RecsGood l := by
  rw [recsFold_iff l 0 0 (by omega) (by omega) (by omega)]
  constructor
  · rintro ⟨h1, h2⟩; exact ⟨fun x hx => (h1 x hx).1, h2⟩
  · rintro ⟨h1, h2⟩
    refine ⟨fun x hx => ?_, h2⟩
    have g := h1 x hx
    have := g.1
    exact ⟨g, by omega, fun _ => by omega⟩

structure RowGood (r : MRow) : Prop where
  key : keyB r.key = true
  recs : RecsGood r.recs
  size : r.value.size ≤ 20
  len : r.recs.length ≤ 100
  free : r.ls = 0 → r.lp = ⟨#[]⟩ ∧ r.value = ⟨#[]⟩
  lock : r.ls ≠ 0 → 1 ≤ r.ls ∧ r.ls ≤ 1099511627776 ∧ keyB r.lp = true ∧ (∀ x ∈ r.recs, x.start ≠ r.ls ∧ x.commit ≤ r.ls) ∧ r.recs.length ≤ 99

theorem findB_neg {r : MRow} {st : Int} : findB r st < 0 ↔ ∀ x ∈ r.recs, x.start ≠ st := by
  have h := recFind_find r st
  rw [Bool.eq_iff_iff] at h
  simp only [decide_eq_true_eq, Bool.not_eq_true'] at h
  rw [h]
  unfold recFind
  cases hf : r.recs.find? (fun x => x.start == st) with
  | none =>
    rw [List.find?_eq_none] at hf
    simp only [Option.isSome_none, true_iff]
    intro x hx e
    exact hf x hx (by simpa using e)
  | some y =>
    simp only [Option.isSome_some, Bool.true_eq_false, false_iff]
    intro hall
    exact hall y (List.mem_of_find?_eq_some hf) (by simpa using List.find?_some hf)

theorem rowB_iff {r : MRow} : rowB r = true ↔ RowGood r := by
  constructor
  · intro h
    unfold rowB at h
    simp only [Bool.and_eq_true] at h
    obtain ⟨hh, ht⟩ := h
    cases hf : recsFold 0 0 r.recs with
    | none => rw [hf] at ht; cases ht
    | some last =>
      rw [hf] at ht
      have hg := recsFold_good.1 ⟨last, hf⟩
      obtain ⟨hm0, hm1, hm2⟩ := recsTo_max (rs := r.recs) (k := r.recs.length) (Nat.le_refl _) (by rw [recsTo_all (Nat.le_refl _)]; exact hf)
      have hmx : ∀ x ∈ r.recs, x.commit ≤ last := fun x hx => by
        obtain ⟨j, hj, rfl⟩ := List.mem_iff_getElem.1 hx
        exact hm1 j _ hj (List.getElem?_eq_getElem hj)
      unfold headB at hh
      simp only [Bool.and_eq_true, decide_eq_true_eq] at hh
      obtain ⟨h1, h2, h3, h4⟩ := hh
      simp only [tailB, Bool.or_eq_true, Bool.and_eq_true, decide_eq_true_eq, Bool.not_eq_true', decide_eq_false_iff_not] at ht
      unfold lockB at h4
      refine ⟨h1, hg, h2, h3, fun h0 => ?_, fun h0 => ?_⟩
      · rw [if_pos h0] at h4
        simp only [Bool.and_eq_true, decide_eq_true_eq] at h4
        exact ⟨str_eq_empty (by omega), str_eq_empty (by omega)⟩
      · rw [if_neg h0] at h4
        simp only [Bool.and_eq_true, decide_eq_true_eq] at h4
        have hb := timeB_bounds h4.1
        rcases ht with ht | ht
        · exact absurd ht h0
        · refine ⟨hb.1, hb.2, h4.2.1, fun x hx => ⟨findB_neg.1 h4.2.2 x hx, ?_⟩, ?_⟩
          · have := hmx x hx; omega
          · omega
  · intro ⟨h1, h2, h3, h4, h5, h6⟩
    obtain ⟨last, hf⟩ := recsFold_good.2 h2
    obtain ⟨hm0, hm1, hm2⟩ := recsTo_max (rs := r.recs) (k := r.recs.length) (Nat.le_refl _) (by rw [recsTo_all (Nat.le_refl _)]; exact hf)
    unfold rowB
    rw [hf]
    have hlast : r.ls ≠ 0 → last ≤ r.ls := fun h0 => by
      obtain ⟨a, b, c, d, e⟩ := h6 h0
      rcases hm2 with h | ⟨j, x, hj, hx, hc⟩
      · omega
      · have := (d x (List.mem_of_getElem? hx)).2; omega
    have hlk : lockB r = true := by
      unfold lockB
      by_cases h0 : r.ls = 0
      · rw [if_pos h0]
        obtain ⟨a, b⟩ := h5 h0
        rw [a, b]
        decide
      · rw [if_neg h0]
        obtain ⟨a, b, c, d, e⟩ := h6 h0
        have t : timeB r.ls = true := by simp [timeB, inB, a, b]
        have f : findB r r.ls < 0 := findB_neg.2 fun x hx => (d x hx).1
        simp [t, c, f]
    have htl : tailB r last = true := by
      unfold tailB
      by_cases h0 : r.ls = 0
      · simp [h0]
      · have := hlast h0
        obtain ⟨a, b, c, d, e⟩ := h6 h0
        simp [h0, this]; omega
    simp [headB, h1, h3, h4, hlk, htl]

/-! ### one record more -/
theorem insAt_le (l : List MRec) (x : MRec) : insAt l x ≤ l.length := List.findIdx_le_length
theorem insAt_before {l : List MRec} {x : MRec} : ∀ y ∈ l.take (insAt l x), y.start ≤ x.start := by
  intro y hy
  obtain ⟨j, hj, rfl⟩ := List.mem_iff_getElem.1 hy
  rw [List.getElem_take]
  have hj' : j < insAt l x := by rw [List.length_take] at hj; omega
  have := List.not_of_lt_findIdx hj'
  simp at this
  exact this
theorem insAt_behind {l : List MRec} {x : MRec} (hp : l.Pairwise RecRel) : ∀ y ∈ l.drop (insAt l x), x.start < y.start := by
  intro y hy
  obtain ⟨j, hj, rfl⟩ := List.mem_iff_getElem.1 hy
  rw [List.length_drop] at hj
  rw [List.getElem_drop]
  have hlt : insAt l x < l.length := by omega
  have h0 : x.start < l[insAt l x].start := by
    have := List.findIdx_getElem (xs := l) (p := fun y : MRec => decide (x.start < y.start)) (w := hlt)
    exact of_decide_eq_true this
  by_cases hj0 : j = 0
  · subst hj0; exact h0
  · have := (List.pairwise_iff_getElem.1 hp (insAt l x) (insAt l x + j) hlt (by omega) (by omega)).1
    omega
theorem mem_insRecs {l : List MRec} {x y : MRec} : y ∈ insRecs l x ↔ y = x ∨ y ∈ l := by
  unfold insRecs
  rw [List.mem_append, List.mem_cons]
  conv => rhs; rw [← List.take_append_drop (insAt l x) l, List.mem_append]
  constructor
  · rintro (h | h | h)
    · exact .inr (.inl h)
    · exact .inl h
    · exact .inr (.inr h)
  · rintro (h | h | h)
    · exact .inr (.inl h)
    · exact .inl h
    · exact .inr (.inr h)
theorem length_insRecs (l : List MRec) (x : MRec) : (insRecs l x).length = l.length + 1 := by
  have := insAt_le l x
  simp only [insRecs, List.length_append, List.length_take, List.length_cons, List.length_drop]; omega
theorem insRecs_good {l : List MRec} {x : MRec} (h : RecsGood l) (hx : RecGood x) (hne : ∀ y ∈ l, y.start ≠ x.start) (hc : x.commit ≠ 0 → ∀ y ∈ l, y.commit ≤ x.start) : RecsGood (insRecs l x) := by
  refine ⟨fun y hy => ?_, ?_⟩
  · rcases mem_insRecs.1 hy with rfl | hy
    · exact hx
    · exact h.each y hy
  · unfold insRecs
    have hp := h.pair
    have hb := insAt_before (l := l) (x := x)
    have ha := insAt_behind (x := x) hp
    rw [← List.take_append_drop (insAt l x) l, List.pairwise_append] at hp
    rw [List.pairwise_append, List.pairwise_cons]
    refine ⟨hp.1, ⟨fun y hy => ⟨ha y hy, fun h0 => ?_⟩, hp.2.1⟩, fun y hy z hz => ?_⟩
    · have hyl := List.mem_of_mem_drop hy
      by_cases hx0 : x.commit = 0
      · have := (h.each y hyl).1; omega
      · have h1 := hc hx0 y hyl
        have h2 := ha y hy
        have h3 := ((h.each y hyl).2.2.2.2 h0).1
        omega
    · have hyl := List.mem_of_mem_take hy
      rcases List.mem_cons.1 hz with rfl | hz
      · have h1 := hb y hy
        have h2 := hne y hyl
        exact ⟨by omega, fun h0 => hc h0 y hyl⟩
      · exact hp.2.2 y hy z hz

/-! ### the operations on rows -/
theorem statusF_good {r : MRow} {st : Int} (h : (statusF r st).2.2 = 0) : rowB r = true ∧ timeB st = true := by
  unfold statusF at h
  cases hr : rowB r
  · simp [hr] at h
  · cases ht : timeB st
    · simp [hr, ht] at h
    · exact ⟨rfl, rfl⟩
theorem statusF_of {r : MRow} {st : Int} (hr : rowB r = true) (ht : timeB st = true) :
    statusF r st = (if r.ls = st then ((1, 0, 0) : Int × Int × Int) else match recFind r.recs st with
    | none => (0, 0, 0)
    | some x => if x.commit = 0 then (3, 0, 0) else (2, x.commit, 0)) := by
  unfold statusF
  rw [hr, ht]
  rfl
theorem recFind_mem {l : List MRec} {st : Int} {x : MRec} (h : recFind l st = some x) : x ∈ l ∧ x.start = st := by
  unfold recFind at h
  exact ⟨List.mem_of_find?_eq_some h, by simpa using List.find?_some h⟩
theorem recFind_none {l : List MRec} {st : Int} (h : recFind l st = none) : ∀ y ∈ l, y.start ≠ st := by
  unfold recFind at h
  rw [List.find?_eq_none] at h
  intro y hy e
  exact h y hy (by simpa using e)
theorem recFind_of_mem {l : List MRec} (hp : l.Pairwise RecRel) {x : MRec} (hx : x ∈ l) : recFind l x.start = some x := by
  cases h : recFind l x.start with
  | none => exact absurd rfl (recFind_none h x hx)
  | some y =>
    obtain ⟨hy, he⟩ := recFind_mem h
    obtain ⟨i, hi, rfl⟩ := List.mem_iff_getElem.1 hx
    obtain ⟨j, hj, rfl⟩ := List.mem_iff_getElem.1 hy
    rcases Nat.lt_trichotomy i j with hlt | rfl | hlt
    · have := (List.pairwise_iff_getElem.1 hp i j hi hj hlt).1; omega
    · rfl
    · have := (List.pairwise_iff_getElem.1 hp j i hj hi hlt).1; omega
theorem status_one {r : MRow} {st : Int} (h0 : (statusF r st).2.2 = 0) (h : (statusF r st).1 = 1) : r.ls = st := by
  obtain ⟨hr, ht⟩ := statusF_good h0
  rw [statusF_of hr ht] at h
  by_cases hl : r.ls = st
  · exact hl
  · rw [if_neg hl] at h
    cases hf : recFind r.recs st with
    | none => rw [hf] at h; simp at h
    | some x => rw [hf] at h; by_cases h0 : x.commit = 0 <;> simp [h0] at h
theorem status_zero {r : MRow} {st : Int} (h0 : (statusF r st).2.2 = 0) (h : (statusF r st).1 = 0) : r.ls ≠ st ∧ recFind r.recs st = none := by
  obtain ⟨hr, ht⟩ := statusF_good h0
  rw [statusF_of hr ht] at h
  by_cases hl : r.ls = st
  · rw [if_pos hl] at h; simp at h
  · rw [if_neg hl] at h
    cases hf : recFind r.recs st with
    | none => exact ⟨hl, rfl⟩
    | some x => rw [hf] at h; by_cases h0 : x.commit = 0 <;> simp [h0] at h
theorem status_two {r : MRow} {st : Int} (h : (statusF r st).1 = 2) : r.ls ≠ st ∧ ∃ x, recFind r.recs st = some x ∧ x.commit ≠ 0 ∧ (statusF r st).2.1 = x.commit := by
  unfold statusF at h ⊢
  cases hr : rowB r
  · simp [hr] at h
  cases ht : timeB st
  · simp [hr, ht] at h
  simp only [hr, ht, if_true] at h ⊢
  by_cases hl : r.ls = st
  · rw [if_pos hl] at h; simp at h
  · rw [if_neg hl] at h ⊢
    cases hf : recFind r.recs st with
    | none => rw [hf] at h; simp at h
    | some x =>
      rw [hf] at h
      by_cases h0 : x.commit = 0
      · simp [h0] at h
      · exact ⟨hl, x, rfl, h0, by simp [h0]⟩
theorem status_three {r : MRow} {st : Int} (h : (statusF r st).1 = 3) : r.ls ≠ st ∧ ∃ x, recFind r.recs st = some x ∧ x.commit = 0 := by
  unfold statusF at h
  cases hr : rowB r
  · simp [hr] at h
  cases ht : timeB st
  · simp [hr, ht] at h
  simp only [hr, ht, if_true] at h
  by_cases hl : r.ls = st
  · rw [if_pos hl] at h; simp at h
  · rw [if_neg hl] at h
    cases hf : recFind r.recs st with
    | none => rw [hf] at h; simp at h
    | some x =>
      rw [hf] at h
      by_cases h0 : x.commit = 0
      · exact ⟨hl, x, rfl, h0⟩
      · simp [h0] at h

theorem lockCode_ok {r : MRow} {st : Int} {p v : ByteArray} (h : lockCode r st p v = 0) :
    rowB r = true ∧ timeB st = true ∧ keyB p = true ∧ v.size ≤ 20 ∧ (∀ x ∈ r.recs, x.commit ≤ st) ∧ r.ls = 0 ∧ r.recs.length ≤ 99 ∧ recFind r.recs st = none := by
  unfold lockCode at h
  by_cases h1 : (statusF r st).2.2 ≠ 0
  · rw [if_pos h1] at h; exact absurd h h1
  rw [if_neg h1] at h
  have h1 := Decidable.not_not.1 h1
  obtain ⟨hr, ht⟩ := statusF_good h1
  by_cases h2 : keyB p = false
  · rw [if_pos h2] at h; omega
  rw [if_neg h2] at h
  by_cases h3 : 20 < v.size
  · rw [if_pos h3] at h; omega
  rw [if_neg h3] at h
  by_cases h4 : (statusF r st).1 = 3
  · rw [if_pos h4] at h; omega
  rw [if_neg h4] at h
  by_cases h5 : (statusF r st).1 = 2 ∨ (r.recs.any fun x => decide (st < x.commit)) = true
  · rw [if_pos h5] at h; omega
  rw [if_neg h5] at h
  by_cases h6 : r.ls ≠ 0
  · rw [if_pos h6] at h; omega
  rw [if_neg h6] at h
  have h6 := Decidable.not_not.1 h6
  by_cases h7 : r.recs.length = 100
  · rw [if_pos h7] at h; omega
  have hg := rowB_iff.1 hr
  have hlen := hg.len
  refine ⟨hr, ht, by simpa using h2, by omega, fun x hx => ?_, h6, by omega, ?_⟩
  · apply Int.not_lt.1
    intro hlt
    exact h5 (.inr (List.any_eq_true.2 ⟨x, hx, by simpa using hlt⟩))
  · have hb := statusF_bounds r st
    have hls : ¬ r.ls = st := by have := timeB_bounds ht; omega
    rw [statusF_of hr ht, if_neg hls] at h4 h5
    cases hf : recFind r.recs st with
    | none => rfl
    | some x =>
      rw [hf] at h4 h5
      by_cases h0 : x.commit = 0
      · simp [h0] at h4
      · simp [h0] at h5

theorem lockRow_good {r : MRow} {st : Int} {p v : ByteArray} (h : lockCode r st p v = 0) : RowGood (lockRow r st p v) ∧ (lockRow r st p v) = { r with ls := st, lp := p, value := v } := by
  have he : lockRow r st p v = { r with ls := st, lp := p, value := v } := by unfold lockRow; rw [if_pos h]
  refine ⟨?_, he⟩
  obtain ⟨hr, ht, hp, hv, hc, hl, hn, hf⟩ := lockCode_ok h
  have hg := rowB_iff.1 hr
  have hb := timeB_bounds ht
  rw [he]
  exact ⟨hg.key, hg.recs, hv, hg.len, fun h0 => absurd (show st = 0 from h0) (by omega), fun _ => ⟨hb.1, hb.2, hp, fun x hx => ⟨recFind_none hf x hx, hc x hx⟩, hn⟩⟩

theorem withF_key (r : MRow) (x : MRec) : (withF r x).key = r.key := by unfold withF; split <;> rfl
theorem withF_recs (r : MRow) (x : MRec) : (withF r x).recs = insRecs r.recs x := by unfold withF; split <;> rfl

theorem withF_good {r : MRow} {x : MRec} (hr : RowGood r) (hx : RecGood x) (hne : ∀ y ∈ r.recs, y.start ≠ x.start) (hc : x.commit ≠ 0 → r.ls = x.start) (hlen : r.ls = x.start ∨ (r.ls = 0 ∧ r.recs.length ≤ 99) ∨ r.recs.length ≤ 98) : RowGood (withF r x) := by
  have hx1 := hx.1
  have hg : RecsGood (insRecs r.recs x) := insRecs_good hr.recs hx hne fun h0 y hy => by
    have hl := hc h0
    have := (hr.lock (by omega)).2.2.2.1 y hy
    omega
  have hli := length_insRecs r.recs x
  unfold withF
  by_cases hl : r.ls = x.start
  · rw [if_pos hl]
    have := (hr.lock (by omega)).2.2.2.2
    exact ⟨hr.key, hg, by show (0 : Nat) ≤ 20; omega, by show (insRecs r.recs x).length ≤ 100; omega, fun _ => ⟨rfl, rfl⟩, fun h => absurd rfl h⟩
  · rw [if_neg hl]
    have hx0 : x.commit = 0 := by
      apply Decidable.byContradiction
      intro h0; exact hl (hc h0)
    refine ⟨hr.key, hg, hr.size, by show (insRecs r.recs x).length ≤ 100; omega, hr.free, fun h0 => ?_⟩
    obtain ⟨a, b, c, d, e⟩ := hr.lock h0
    refine ⟨a, b, c, fun y hy => ?_, ?_⟩
    · rcases mem_insRecs.1 hy with rfl | hy
      · exact ⟨fun e => hl e.symm, by show y.commit ≤ r.ls; omega⟩
      · exact d y hy
    · have h0' : r.ls ≠ 0 := h0
      show (insRecs r.recs x).length ≤ 99; omega

theorem commitCode_ok {r : MRow} {st cm : Int} (h : commitCode r st cm = 0) : rowB r = true ∧ timeB st = true ∧ st < cm ∧ cm ≤ 1099511627776 ∧ r.ls = st := by
  unfold commitCode at h
  by_cases h1 : (statusF r st).2.2 ≠ 0
  · rw [if_pos h1] at h; exact absurd h h1
  rw [if_neg h1] at h
  have h1 := Decidable.not_not.1 h1
  obtain ⟨hr, ht⟩ := statusF_good h1
  by_cases h2 : cm ≤ st ∨ 1099511627776 < cm
  · rw [if_pos h2] at h; omega
  rw [if_neg h2] at h
  by_cases h3 : (statusF r st).1 = 3
  · rw [if_pos h3] at h; omega
  rw [if_neg h3] at h
  by_cases h4 : (statusF r st).1 ≠ 1
  · rw [if_pos h4] at h; omega
  exact ⟨hr, ht, by omega, by omega, status_one h1 (Decidable.not_not.1 h4)⟩
theorem commitCode_mk {r : MRow} {st cm : Int} (hr : rowB r = true) (ht : timeB st = true) (h1 : st < cm) (h2 : cm ≤ 1099511627776) (hl : r.ls = st) : commitCode r st cm = 0 := by
  unfold commitCode
  rw [statusF_of hr ht, if_pos hl]
  have e : ¬ (cm ≤ st ∨ 1099511627776 < cm) := by omega
  simp [e]
theorem commitRow_good {r : MRow} {st cm : Int} (h : commitCode r st cm = 0) : RowGood (commitRow r st cm) ∧ commitRow r st cm = withF r ⟨st, cm, r.value⟩ := by
  have he : commitRow r st cm = withF r ⟨st, cm, r.value⟩ := by unfold commitRow; rw [if_pos h]
  refine ⟨?_, he⟩
  obtain ⟨hr, ht, h1, h2, hl⟩ := commitCode_ok h
  have hb := timeB_bounds ht
  have hg := rowB_iff.1 hr
  have hlk := hg.lock (by omega)
  rw [he]
  refine withF_good hg ⟨hb.1, hb.2, hg.size, fun h0 => ?_, fun _ => ⟨h1, h2⟩⟩ (fun y hy => ?_) (fun _ => hl) (.inl hl)
  · exact absurd (show cm = 0 from h0) (by omega)
  · have := (hlk.2.2.2.1 y hy).1
    rw [hl] at this; exact this

theorem undoCode_ok {r : MRow} {st : Int} (h : undoCode r st = 0) : rowB r = true ∧ timeB st = true ∧
    (((statusF r st).1 = 3 ∧ undoRow r st = r) ∨ (undoRow r st = withF r ⟨st, 0, ⟨#[]⟩⟩ ∧ recFind r.recs st = none ∧ (r.ls = st ∨ (r.ls = 0 ∧ r.recs.length ≤ 99) ∨ r.recs.length ≤ 98))) := by
  have he : undoRow r st = if (statusF r st).1 = 3 then r else withF r ⟨st, 0, ⟨#[]⟩⟩ := by unfold undoRow; rw [if_pos h]
  unfold undoCode at h
  by_cases h1 : (statusF r st).2.2 ≠ 0
  · rw [if_pos h1] at h; exact absurd h h1
  rw [if_neg h1] at h
  have h1 := Decidable.not_not.1 h1
  obtain ⟨hr, ht⟩ := statusF_good h1
  refine ⟨hr, ht, ?_⟩
  by_cases h2 : (statusF r st).1 = 2
  · rw [if_pos h2] at h; omega
  rw [if_neg h2] at h
  by_cases h3 : (statusF r st).1 = 3
  · rw [if_pos h3] at he; exact .inl ⟨h3, he⟩
  rw [if_neg h3] at h he
  by_cases h4 : (statusF r st).1 = 0 ∧ (r.recs.length = 100 ∨ (r.ls ≠ 0 ∧ r.recs.length = 99))
  · rw [if_pos h4] at h; omega
  have hg := rowB_iff.1 hr
  have hlen := hg.len
  refine .inr ⟨he, ?_, ?_⟩
  · rcases (statusF_bounds r st).1 with h0 | h0 | h0 | h0
    · exact (status_zero h1 h0).2
    · have hl := status_one h1 h0
      cases hf : recFind r.recs st with
      | none => rfl
      | some x =>
        obtain ⟨hx, e⟩ := recFind_mem hf
        have hb := timeB_bounds ht
        exact absurd (e.trans hl.symm) ((hg.lock (by omega)).2.2.2.1 x hx).1
    · exact absurd h0 h2
    · exact absurd h0 h3
  · rcases (statusF_bounds r st).1 with h0 | h0 | h0 | h0
    · rw [h0] at h4
      have hlk := hg.lock
      by_cases hls : r.ls = 0
      · exact .inr (.inl ⟨hls, by omega⟩)
      · have := (hlk hls).2.2.2.2
        exact .inr (.inr (by omega))
    · exact .inl (status_one h1 h0)
    · exact absurd h0 h2
    · exact absurd h0 h3
theorem undoRow_good {r : MRow} {st : Int} (h : undoCode r st = 0) : RowGood (undoRow r st) := by
  obtain ⟨hr, ht, hc⟩ := undoCode_ok h
  have hg := rowB_iff.1 hr
  have hb := timeB_bounds ht
  rcases hc with ⟨_, e⟩ | ⟨e, hf, hlen⟩
  · rw [e]; exact hg
  · rw [e]
    exact withF_good hg ⟨hb.1, hb.2, by show (0 : Nat) ≤ 20; omega, fun _ => rfl, fun h0 => absurd rfl h0⟩ (recFind_none hf) (fun h0 => absurd rfl h0) hlen
end Go.Proofs.Ytniomgngiiiklaa

/- A valid world stays valid whatever a client does; no program in sight. -/
namespace Go.Proofs.Ytniomgngiiiklaa
open Go.RowKit

def RowIn (clock : Int) (r : MRow) : Prop := r.ls ≤ clock ∧ ∀ x ∈ r.recs, x.start ≤ clock ∧ x.commit ≤ clock
structure RowsVal (clock : Int) (l : List MRow) : Prop where
  each : ∀ r ∈ l, RowGood r ∧ RowIn clock r
  sorted : l.Pairwise fun a b => ltK a.key b.key = true
  len : l.length ≤ 40
structure WorldGood (w : MWorld) : Prop where
  rows : RowsVal w.clock w.rows
  few : w.clients.length ≤ 5
  clock : 0 ≤ w.clock ∧ w.clock ≤ 1099511627376
  clients : ∀ c ∈ w.clients, clientB c w.clock = true

theorem rowIn_iff {clock : Int} {r : MRow} : rowIn clock r = true ↔ RowGood r ∧ RowIn clock r := by
  unfold rowIn RowIn
  rw [Bool.and_eq_true, Bool.and_eq_true, rowB_iff]
  simp
theorem sortedRows_iff : ∀ {l : List MRow}, sortedRows l = true ↔ l.Pairwise fun a b => ltK a.key b.key = true
  | [] => by simp [sortedRows]
  | [x] => by simp [sortedRows]
  | x :: y :: l => by
    rw [sortedRows, Bool.and_eq_true, sortedRows_iff, List.pairwise_cons (a := x)]
    constructor
    · rintro ⟨h1, h2⟩
      refine ⟨fun z hz => ?_, h2⟩
      rcases List.mem_cons.1 hz with rfl | hz
      · exact h1
      · exact ltK_trans h1 ((List.pairwise_cons.1 h2).1 z hz)
    · rintro ⟨h1, h2⟩
      exact ⟨h1 y List.mem_cons_self, h2⟩
theorem worldB_iff {w : MWorld} : worldB w = true ↔ WorldGood w := by
  unfold worldB
  simp only [Bool.and_eq_true, decide_eq_true_eq, List.all_eq_true, rowIn_iff, sortedRows_iff]
  constructor
  · rintro ⟨h1, h2, h3, h4, h5, h6⟩; exact ⟨⟨h4, h5, h1⟩, h2, h3, h6⟩
  · rintro ⟨⟨h4, h5, h1⟩, h2, h3, h6⟩; exact ⟨h1, h2, h3, h4, h5, h6⟩

/-! ### rows by their keys -/
theorem rowAt_mem {l : List MRow} {k : ByteArray} {r : MRow} (h : rowAt l k = some r) : r ∈ l ∧ r.key = k :=
  ⟨List.mem_of_find?_eq_some h, by simpa using List.find?_some h⟩
theorem rowAt_none {l : List MRow} {k : ByteArray} (h : rowAt l k = none) : ∀ r ∈ l, r.key ≠ k := by
  intro r hr e
  exact List.find?_eq_none.1 h r hr (by simpa using e)
theorem rowAt_of_mem {l : List MRow} (hs : l.Pairwise fun a b => ltK a.key b.key = true) {r : MRow} (hr : r ∈ l) : rowAt l r.key = some r := by
  cases h : rowAt l r.key with
  | none => exact absurd rfl (rowAt_none h r hr)
  | some y =>
    obtain ⟨hy, he⟩ := rowAt_mem h
    obtain ⟨i, hi, rfl⟩ := List.mem_iff_getElem.1 hr
    obtain ⟨j, hj, rfl⟩ := List.mem_iff_getElem.1 hy
    rcases Nat.lt_trichotomy i j with hlt | rfl | hlt
    · exact absurd he (ltK_ne (List.pairwise_iff_getElem.1 hs i j hi hj hlt)).symm
    · rfl
    · exact absurd he (ltK_ne (List.pairwise_iff_getElem.1 hs j i hj hi hlt))
theorem mem_putRow : ∀ {l : List MRow} {r y : MRow}, y ∈ putRow l r → y = r ∨ y ∈ l
  | [], r, y, h => by simp [putRow] at h; exact .inl h
  | x :: l, r, y, h => by
    unfold putRow at h
    split at h
    · rcases List.mem_cons.1 h with rfl | h
      · exact .inr List.mem_cons_self
      · rcases mem_putRow h with h | h
        · exact .inl h
        · exact .inr (List.mem_cons_of_mem _ h)
    · split at h
      · rcases List.mem_cons.1 h with rfl | h
        · exact .inl rfl
        · exact .inr (List.mem_cons_of_mem _ h)
      · rcases List.mem_cons.1 h with rfl | h
        · exact .inl rfl
        · exact .inr h
theorem putRow_sorted : ∀ {l : List MRow} {r : MRow}, (l.Pairwise fun a b => ltK a.key b.key = true) → (putRow l r).Pairwise fun a b => ltK a.key b.key = true
  | [], r, _ => by simp [putRow]
  | x :: l, r, h => by
    obtain ⟨h1, h2⟩ := List.pairwise_cons.1 h
    unfold putRow
    split
    · rename_i hlt
      refine List.pairwise_cons.2 ⟨fun y hy => ?_, putRow_sorted h2⟩
      rcases mem_putRow hy with rfl | hy
      · exact hlt
      · exact h1 y hy
    · rename_i hlt
      split
      · rename_i he
        exact List.pairwise_cons.2 ⟨fun y hy => by rw [← he]; exact h1 y hy, h2⟩
      · rename_i hne
        have hgt : ltK r.key x.key = true := by
          cases hg : ltK r.key x.key with
          | true => rfl
          | false => exact absurd (ltK_total (by simpa using hlt) hg) hne
        refine List.pairwise_cons.2 ⟨fun y hy => ?_, h⟩
        rcases List.mem_cons.1 hy with rfl | hy
        · exact hgt
        · exact ltK_trans hgt (h1 y hy)
theorem rowAt_putRow : ∀ {l : List MRow} {r : MRow} (k : ByteArray), (l.Pairwise fun a b => ltK a.key b.key = true) → rowAt (putRow l r) k = if r.key = k then some r else rowAt l k
  | [], r, k, _ => by by_cases h : r.key = k <;> simp [putRow, rowAt, h]
  | x :: l, r, k, h => by
    obtain ⟨h1, h2⟩ := List.pairwise_cons.1 h
    have hx : ∀ m : List MRow, rowAt (x :: m) k = if x.key = k then some x else rowAt m k := fun m => by
      by_cases e : x.key = k <;> simp [rowAt, e]
    have hr : ∀ m : List MRow, rowAt (r :: m) k = if r.key = k then some r else rowAt m k := fun m => by
      by_cases e : r.key = k <;> simp [rowAt, e]
    unfold putRow
    split
    · rename_i hlt
      rw [hx, hx, rowAt_putRow k h2]
      by_cases e : x.key = k
      · rw [if_pos e, if_pos e, if_neg]
        rintro e'
        exact ltK_ne hlt (e.trans e'.symm)
      · rw [if_neg e, if_neg e]
    · split
      · rename_i he
        rw [hr, hx]
        by_cases e : r.key = k
        · rw [if_pos e, if_pos e]
        · rw [if_neg e, if_neg e, if_neg (by rw [he]; exact e)]
      · rw [hr]
theorem length_putRow_some : ∀ {l : List MRow} {r : MRow}, (l.Pairwise fun a b => ltK a.key b.key = true) → (∃ y ∈ l, y.key = r.key) → (putRow l r).length = l.length
  | [], r, _, h => by obtain ⟨y, hy, _⟩ := h; cases hy
  | x :: l, r, h, hex => by
    obtain ⟨h1, h2⟩ := List.pairwise_cons.1 h
    unfold putRow
    split
    · rename_i hlt
      have hex' : ∃ y ∈ l, y.key = r.key := by
        obtain ⟨y, hy, he⟩ := hex
        rcases List.mem_cons.1 hy with rfl | hy
        · exact absurd he (ltK_ne hlt)
        · exact ⟨y, hy, he⟩
      simp [length_putRow_some h2 hex']
    · rename_i hlt
      split
      · rfl
      · rename_i hne
        obtain ⟨y, hy, he⟩ := hex
        rcases List.mem_cons.1 hy with rfl | hy
        · exact absurd he hne
        · have := h1 y hy
          rw [he] at this
          exact absurd this hlt
theorem length_putRow_le : ∀ {l : List MRow} {r : MRow}, (putRow l r).length ≤ l.length + 1
  | [], r => by simp [putRow]
  | x :: l, r => by
    unfold putRow
    split
    · have := length_putRow_le (l := l) (r := r); simp; omega
    · split <;> simp

theorem putRow_good {clock : Int} {l : List MRow} {r : MRow} (h : RowsVal clock l) (hr : RowGood r ∧ RowIn clock r) (hlen : (∃ y ∈ l, y.key = r.key) ∨ l.length ≠ 40) : RowsVal clock (putRow l r) := by
  refine ⟨fun y hy => ?_, putRow_sorted h.sorted, ?_⟩
  · rcases mem_putRow hy with rfl | hy
    · exact hr
    · exact h.each y hy
  · have h1 := h.len
    have h2 := length_putRow_le (l := l) (r := r)
    rcases hlen with hex | hne
    · rw [length_putRow_some h.sorted hex]; exact h1
    · omega

theorem emptyRow_in {clock : Int} {k : ByteArray} (h : 0 ≤ clock) : RowIn clock (emptyRow k) := ⟨h, fun x hx => by cases hx⟩
/-- What is done at a row keeps the rows valid. -/
theorem atRow_good {clock : Int} {l : List MRow} {k : ByteArray} {f : MRow → MRow} {e : MRow → Int} (hc : 0 ≤ clock) (h : RowsVal clock l)
    (hf : ∀ r, e r = 0 → RowIn clock r → (RowGood (f r) ∧ RowIn clock (f r)) ∧ (f r).key = r.key) : RowsVal clock (atRow l k f e).1 := by
  unfold atRow
  cases hr : rowAt l k with
  | some r =>
    obtain ⟨hm, hk⟩ := rowAt_mem hr
    dsimp only
    split
    · rename_i he
      obtain ⟨h1, h2⟩ := hf r he (h.each r hm).2
      exact putRow_good h h1 (.inl ⟨r, hm, h2.symm⟩)
    · exact h
  | none =>
    dsimp only
    split
    · exact h
    · rename_i hne
      split
      · rename_i he
        obtain ⟨h1, h2⟩ := hf (emptyRow k) he (emptyRow_in hc)
        exact putRow_good h h1 (.inr hne)
      · exact h
theorem insRecs_in {clock : Int} {l : List MRec} {x : MRec} (h : ∀ y ∈ l, y.start ≤ clock ∧ y.commit ≤ clock) (h1 : x.start ≤ clock) (h2 : x.commit ≤ clock) : ∀ y ∈ insRecs l x, y.start ≤ clock ∧ y.commit ≤ clock := by
  intro y hy
  rcases mem_insRecs.1 hy with rfl | hy
  · exact ⟨h1, h2⟩
  · exact h y hy
theorem withF_in {clock : Int} {r : MRow} {x : MRec} (hc : 0 ≤ clock) (h : RowIn clock r) (h1 : x.start ≤ clock) (h2 : x.commit ≤ clock) : RowIn clock (withF r x) := by
  have hi := insRecs_in h.2 h1 h2
  unfold withF
  split
  · exact ⟨hc, hi⟩
  · exact ⟨h.1, hi⟩
theorem lock_keeps {clock st : Int} {p v : ByteArray} (hs : st ≤ clock) (r : MRow) (he : lockCode r st p v = 0) (hr : RowIn clock r) : (RowGood (lockRow r st p v) ∧ RowIn clock (lockRow r st p v)) ∧ (lockRow r st p v).key = r.key := by
  obtain ⟨h1, h2⟩ := lockRow_good he
  rw [h2] at h1 ⊢
  exact ⟨⟨h1, hs, hr.2⟩, rfl⟩
theorem commit_keeps {clock st cm : Int} (hc : 0 ≤ clock) (hs : st ≤ clock) (hm : cm ≤ clock) (r : MRow) (he : commitCode r st cm = 0) (hr : RowIn clock r) : (RowGood (commitRow r st cm) ∧ RowIn clock (commitRow r st cm)) ∧ (commitRow r st cm).key = r.key := by
  obtain ⟨h1, h2⟩ := commitRow_good he
  refine ⟨⟨h1, ?_⟩, ?_⟩
  · rw [h2]; exact withF_in hc hr hs hm
  · rw [h2]; exact withF_key _ _
theorem undoRow_key {r : MRow} {st : Int} (he : undoCode r st = 0) : (undoRow r st).key = r.key := by
  obtain ⟨_, _, h⟩ := undoCode_ok he
  rcases h with ⟨_, e⟩ | ⟨e, _, _⟩
  · rw [e]
  · rw [e]; exact withF_key _ _
theorem undo_keeps {clock st : Int} (hc : 0 ≤ clock) (hs : st ≤ clock) (r : MRow) (he : undoCode r st = 0) (hr : RowIn clock r) : (RowGood (undoRow r st) ∧ RowIn clock (undoRow r st)) ∧ (undoRow r st).key = r.key := by
  refine ⟨⟨undoRow_good he, ?_⟩, undoRow_key he⟩
  obtain ⟨_, _, h⟩ := undoCode_ok he
  rcases h with ⟨_, e⟩ | ⟨e, _, _⟩
  · rw [e]; exact hr
  · rw [e]; exact withF_in hc hr hs hc
theorem undoAt_good {clock st : Int} {l : List MRow} {k : ByteArray} (hc : 0 ≤ clock) (hs : st ≤ clock) (h : RowsVal clock l) : RowsVal clock (undoAt l k st).1 := atRow_good hc h (undo_keeps hc hs)
theorem failStep_good {clock st : Int} {l : List MRow} {x : MWrite} (hc : 0 ≤ clock) (hs : st ≤ clock) (h : RowsVal clock l) : RowsVal clock (failStep st l x) := by
  unfold failStep
  split
  · exact undoAt_good hc hs h
  · exact h
theorem failRows_good {clock st : Int} (hc : 0 ≤ clock) (hs : st ≤ clock) : ∀ {ws : List MWrite} {l : List MRow}, RowsVal clock l → RowsVal clock (failRows l ws st)
  | [], _, h => h
  | x :: ws, l, h => by
    show RowsVal clock (failRows (failStep st l x) ws st)
    exact failRows_good hc hs (failStep_good hc hs h)

/-! ### clients -/
theorem clientB_zero (clock : Int) : clientB zeroClient clock = true := by
  simp [clientB, zeroClient, writesB]
theorem clientB_mono {x : MClient} {c c' : Int} (h : clientB x c = true) (hc : c ≤ c') : clientB x c' = true := by
  unfold clientB at *
  rw [Bool.and_eq_true, Bool.and_eq_true] at *
  refine ⟨h.1, h.2.1, ?_⟩
  have h2 := h.2.2
  by_cases p0 : x.phase = 0
  · rw [if_pos p0] at h2 ⊢; exact h2
  rw [if_neg p0] at h2 ⊢
  by_cases p1 : x.phase = 1
  · rw [if_pos p1] at h2 ⊢; simp only [decide_eq_true_eq] at *; omega
  rw [if_neg p1] at h2 ⊢
  by_cases p2 : x.phase = 2
  · rw [if_pos p2] at h2 ⊢; simp only [decide_eq_true_eq] at *; omega
  rw [if_neg p2] at h2 ⊢
  by_cases p3 : x.phase = 3
  · rw [if_pos p3] at h2 ⊢; simp only [decide_eq_true_eq] at *; omega
  rw [if_neg p3] at h2 ⊢
  by_cases p4 : x.phase = 4
  · rw [if_pos p4] at h2 ⊢; simp only [decide_eq_true_eq] at *; omega
  rw [if_neg p4] at h2; cases h2
/-- A client that is not idle. -/
structure Busy (x : MClient) (clock : Int) : Prop where
  few : x.writes.length ≤ 6
  writes : writesB x.writes = true
  start : 1 ≤ x.start ∧ x.start ≤ clock
  phase : (x.phase = 1 ∧ x.commit = 0 ∧ x.at_ = 0) ∨ (x.phase = 2 ∧ x.commit = 0 ∧ 0 ≤ x.at_ ∧ x.at_ ≤ x.writes.length ∧ 0 < x.writes.length) ∨
    (x.phase = 3 ∧ (x.start < x.commit ∧ x.commit ≤ clock) ∧ x.at_ = 0 ∧ 0 < x.writes.length) ∨ (x.phase = 4 ∧ (x.start < x.commit ∧ x.commit ≤ clock) ∧ 1 ≤ x.at_ ∧ x.at_ < x.writes.length)
theorem busy_of {x : MClient} {clock : Int} (h : clientB x clock = true) (hp : x.phase ≠ 0) : Busy x clock := by
  unfold clientB at h
  rw [Bool.and_eq_true, Bool.and_eq_true, if_neg hp] at h
  obtain ⟨h1, h2, h3⟩ := h
  simp only [decide_eq_true_eq] at h1
  by_cases p1 : x.phase = 1
  · rw [if_pos p1] at h3; simp only [decide_eq_true_eq] at h3; exact ⟨h1, h2, h3.1, .inl ⟨p1, h3.2⟩⟩
  rw [if_neg p1] at h3
  by_cases p2 : x.phase = 2
  · rw [if_pos p2] at h3; simp only [decide_eq_true_eq] at h3; exact ⟨h1, h2, h3.1, .inr (.inl ⟨p2, h3.2⟩)⟩
  rw [if_neg p2] at h3
  by_cases p3 : x.phase = 3
  · rw [if_pos p3] at h3; simp only [decide_eq_true_eq] at h3; exact ⟨h1, h2, h3.1, .inr (.inr (.inl ⟨p3, h3.2⟩))⟩
  rw [if_neg p3] at h3
  by_cases p4 : x.phase = 4
  · rw [if_pos p4] at h3; simp only [decide_eq_true_eq] at h3; exact ⟨h1, h2, h3.1, .inr (.inr (.inr ⟨p4, h3.2⟩))⟩
  rw [if_neg p4] at h3; cases h3
theorem Busy.mk' {x : MClient} {clock : Int} (h : Busy x clock) : clientB x clock = true := by
  obtain ⟨h1, h2, h3, h4⟩ := h
  unfold clientB
  rw [Bool.and_eq_true, Bool.and_eq_true]
  refine ⟨by simpa using h1, h2, ?_⟩
  rcases h4 with h | h | h | h
  · rw [if_neg (by omega), if_pos h.1]; simp only [decide_eq_true_eq]; omega
  · rw [if_neg (by omega), if_neg (by omega), if_pos h.1]; simp only [decide_eq_true_eq]; omega
  · rw [if_neg (by omega), if_neg (by omega), if_neg (by omega), if_pos h.1]; simp only [decide_eq_true_eq]; omega
  · rw [if_neg (by omega), if_neg (by omega), if_neg (by omega), if_neg (by omega), if_pos h.1]; simp only [decide_eq_true_eq]; omega
theorem idle_of {x : MClient} {clock : Int} (h : clientB x clock = true) (hp : x.phase = 0) : x = zeroClient := by
  unfold clientB at h
  rw [Bool.and_eq_true, Bool.and_eq_true, if_pos hp] at h
  have h3 := h.2.2
  simp only [decide_eq_true_eq] at h3
  obtain ⟨a, b, c, d⟩ := h3
  obtain ⟨ph, s, cm, ws, at_⟩ := x
  dsimp only at *
  subst hp a b d
  rw [List.eq_nil_of_length_eq_zero c]; rfl

def WritesGood (l : List MWrite) : Prop := (∀ x ∈ l, keyB x.key = true ∧ x.value.size ≤ 20) ∧ l.Pairwise fun a b => ltK a.key b.key = true
theorem writesB_iff : ∀ {l : List MWrite}, writesB l = true ↔ WritesGood l
  | [] => by simp [writesB, WritesGood]
  | [x] => by simp [writesB, WritesGood]
  | x :: y :: l => by
    rw [writesB, Bool.and_eq_true, Bool.and_eq_true, Bool.and_eq_true, writesB_iff]
    unfold WritesGood
    rw [List.pairwise_cons (a := x)]
    simp only [decide_eq_true_eq]
    constructor
    · rintro ⟨h1, h2, h3, h4, h5⟩
      refine ⟨fun z hz => ?_, fun z hz => ?_, h5⟩
      · rcases List.mem_cons.1 hz with rfl | hz
        · exact ⟨h1, h2⟩
        · exact h4 z hz
      · rcases List.mem_cons.1 hz with rfl | hz
        · exact h3
        · exact ltK_trans h3 ((List.pairwise_cons.1 h5).1 z hz)
    · rintro ⟨h1, h2, h3⟩
      exact ⟨(h1 x List.mem_cons_self).1, (h1 x List.mem_cons_self).2, h2 y List.mem_cons_self, fun z hz => h1 z (List.mem_cons_of_mem _ hz), h3⟩
theorem mem_putWrite : ∀ {l : List MWrite} {r y : MWrite}, y ∈ putWrite l r → y = r ∨ y ∈ l
  | [], r, y, h => by simp [putWrite] at h; exact .inl h
  | x :: l, r, y, h => by
    unfold putWrite at h
    split at h
    · rcases List.mem_cons.1 h with rfl | h
      · exact .inr List.mem_cons_self
      · rcases mem_putWrite h with h | h
        · exact .inl h
        · exact .inr (List.mem_cons_of_mem _ h)
    · split at h
      · rcases List.mem_cons.1 h with rfl | h
        · exact .inl rfl
        · exact .inr (List.mem_cons_of_mem _ h)
      · rcases List.mem_cons.1 h with rfl | h
        · exact .inl rfl
        · exact .inr h
theorem putWrite_sorted : ∀ {l : List MWrite} {r : MWrite}, (l.Pairwise fun a b => ltK a.key b.key = true) → (putWrite l r).Pairwise fun a b => ltK a.key b.key = true
  | [], r, _ => by simp [putWrite]
  | x :: l, r, h => by
    obtain ⟨h1, h2⟩ := List.pairwise_cons.1 h
    unfold putWrite
    split
    · rename_i hlt
      refine List.pairwise_cons.2 ⟨fun y hy => ?_, putWrite_sorted h2⟩
      rcases mem_putWrite hy with rfl | hy
      · exact hlt
      · exact h1 y hy
    · rename_i hlt
      split
      · rename_i he
        exact List.pairwise_cons.2 ⟨fun y hy => by rw [← he]; exact h1 y hy, h2⟩
      · rename_i hne
        have hgt : ltK r.key x.key = true := by
          cases hg : ltK r.key x.key with
          | true => rfl
          | false => exact absurd (ltK_total (by simpa using hlt) hg) hne
        refine List.pairwise_cons.2 ⟨fun y hy => ?_, h⟩
        rcases List.mem_cons.1 hy with rfl | hy
        · exact hgt
        · exact ltK_trans hgt (h1 y hy)
theorem length_putWrite_some : ∀ {l : List MWrite} {r : MWrite}, (l.Pairwise fun a b => ltK a.key b.key = true) → (∃ y ∈ l, y.key = r.key) → (putWrite l r).length = l.length
  | [], r, _, h => by obtain ⟨y, hy, _⟩ := h; cases hy
  | x :: l, r, h, hex => by
    obtain ⟨h1, h2⟩ := List.pairwise_cons.1 h
    unfold putWrite
    split
    · rename_i hlt
      have hex' : ∃ y ∈ l, y.key = r.key := by
        obtain ⟨y, hy, he⟩ := hex
        rcases List.mem_cons.1 hy with rfl | hy
        · exact absurd he (ltK_ne hlt)
        · exact ⟨y, hy, he⟩
      simp [length_putWrite_some h2 hex']
    · rename_i hlt
      split
      · rfl
      · rename_i hne
        obtain ⟨y, hy, he⟩ := hex
        rcases List.mem_cons.1 hy with rfl | hy
        · exact absurd he hne
        · have := h1 y hy
          rw [he] at this
          exact absurd this hlt
theorem length_putWrite_le : ∀ {l : List MWrite} {r : MWrite}, (putWrite l r).length ≤ l.length + 1
  | [], r => by simp [putWrite]
  | x :: l, r => by
    unfold putWrite
    split
    · have := length_putWrite_le (l := l) (r := r); simp; omega
    · split <;> simp
theorem writeOf_mem {l : List MWrite} {k : ByteArray} {x : MWrite} (h : writeOf l k = some x) : x ∈ l ∧ x.key = k :=
  ⟨List.mem_of_find?_eq_some h, by simpa using List.find?_some h⟩
theorem writeOf_none {l : List MWrite} {k : ByteArray} (h : writeOf l k = none) : ∀ x ∈ l, x.key ≠ k := by
  intro x hx e
  exact List.find?_eq_none.1 h x hx (by simpa using e)
theorem putWrite_good {l : List MWrite} {k v : ByteArray} (h : WritesGood l) (hk : keyB k = true) (hv : v.size ≤ 20) : WritesGood (putWrite l ⟨k, v⟩) := by
  refine ⟨fun y hy => ?_, putWrite_sorted h.2⟩
  rcases mem_putWrite hy with rfl | hy
  · exact ⟨hk, hv⟩
  · exact h.1 y hy

/-! ### acts -/
theorem mem_set_clients {l : List MClient} {c : Nat} {x y : MClient} (h : y ∈ l.set c x) : y = x ∨ y ∈ l := by
  rcases List.mem_or_eq_of_mem_set h with h | h
  · exact .inr h
  · exact .inl h
/-- A world with other rows and one client turned, at a clock that is as late or later. -/
theorem world_turn {w : MWorld} {c : Nat} {x : MClient} {l : List MRow} (h : WorldGood w) (hl : RowsVal w.clock l) (hx : clientB x w.clock = true) : WorldGood { w with rows := l, clients := w.clients.set c x } :=
  ⟨hl, by simpa using h.few, h.clock, fun y hy => by
    rcases mem_set_clients hy with rfl | hy
    · exact hx
    · exact h.clients y hy⟩
theorem rowsVal_mono {l : List MRow} {c c' : Int} (h : RowsVal c l) (hc : c ≤ c') : RowsVal c' l :=
  ⟨fun r hr => ⟨(h.each r hr).1, by have := (h.each r hr).2.1; omega, fun x hx => by have := (h.each r hr).2.2 x hx; omega⟩, h.sorted, h.len⟩
theorem world_tick {w : MWorld} {c : Nat} {x : MClient} (h : WorldGood w) (hc : w.clock ≠ 1099511627376) (hx : clientB x (w.clock + 1) = true) : WorldGood { w with clock := w.clock + 1, clients := w.clients.set c x } :=
  ⟨rowsVal_mono h.rows (by show w.clock ≤ w.clock + 1; omega), by simpa using h.few, by have := h.clock; exact ⟨by show 0 ≤ w.clock + 1; omega, by show w.clock + 1 ≤ 1099511627376; omega⟩, fun y hy => by
    rcases mem_set_clients hy with rfl | hy
    · exact hx
    · exact clientB_mono (h.clients y hy) (by show w.clock ≤ w.clock + 1; omega)⟩
theorem failM_good {w : MWorld} {c : Nat} {x : MClient} (h : WorldGood w) (hb : x.start ≤ w.clock) : WorldGood (failM w c x) :=
  world_turn h (failRows_good h.clock.1 hb h.rows) (clientB_zero _)
theorem lockAt_good {w : MWorld} {x : MClient} (h : WorldGood w) (hb : x.start ≤ w.clock) : RowsVal w.clock (lockAt w.rows x).1 := atRow_good h.clock.1 h.rows (lock_keeps hb)
theorem lockM_good {w : MWorld} {c : Nat} {x : MClient} (h : WorldGood w) (hb : Busy x w.clock) (hp : x.phase = 2) (hat : x.at_ < x.writes.length) : WorldGood (lockM w c x).1 := by
  have hst := hb.start
  have hph : x.phase = 2 ∧ x.commit = 0 ∧ 0 ≤ x.at_ ∧ x.at_ ≤ x.writes.length ∧ 0 < x.writes.length := by
    rcases hb.phase with h | h | h | h
    · omega
    · exact h
    · omega
    · omega
  unfold lockM
  split
  · exact world_turn h (lockAt_good h hst.2) (Busy.mk' ⟨hb.few, hb.writes, hst, .inr (.inl ⟨hp, hph.2.1, by show 0 ≤ x.at_ + 1; omega, by show x.at_ + 1 ≤ x.writes.length; omega, hph.2.2.2.2⟩)⟩)
  · split
    · exact world_turn h h.rows (Busy.mk' hb)
    · exact failM_good h hst.2
theorem closeAt_good {w : MWorld} {x : MClient} (h : WorldGood w) (hb : x.start ≤ w.clock) (hc : x.commit ≤ w.clock) : RowsVal w.clock (closeAt w.rows x).1 := atRow_good h.clock.1 h.rows (commit_keeps h.clock.1 hb hc)
theorem closeM_good {w : MWorld} {c : Nat} {x : MClient} (h : WorldGood w) (hb : Busy x w.clock) (hp : x.phase = 3 ∨ x.phase = 4) : WorldGood (closeM w c x).1 := by
  have hst := hb.start
  have hph : (x.start < x.commit ∧ x.commit ≤ w.clock) ∧ 0 ≤ x.at_ ∧ x.at_ < x.writes.length := by
    rcases hb.phase with h | h | h | h
    · omega
    · omega
    · exact ⟨h.2.1, by omega, by omega⟩
    · exact ⟨h.2.1, by omega, by omega⟩
  unfold closeM
  split
  · exact failM_good h hst.2
  · refine world_turn h (closeAt_good h hst.2 hph.1.2) ?_
    split
    · exact clientB_zero _
    · rename_i hne
      exact Busy.mk' ⟨hb.few, hb.writes, hst, .inr (.inr (.inr ⟨rfl, hph.1, by show 1 ≤ x.at_ + 1; omega, by show x.at_ + 1 < x.writes.length; omega⟩))⟩
theorem stepM_good {w : MWorld} {c : Nat} {x : MClient} (h : WorldGood w) (hx : clientB x w.clock = true) (hc : w.clock ≠ 1099511627376) : WorldGood (stepM w c x).1 := by
  unfold stepM
  split
  · exact h
  rename_i hp0
  have hb := busy_of hx hp0
  have hst := hb.start
  have hph := hb.phase
  split
  · exact world_turn h h.rows (clientB_zero _)
  rename_i h1
  split
  · rename_i hp1
    refine lockM_good h ⟨hb.few, hb.writes, hst, .inr (.inl ⟨rfl, ?_, ?_, ?_, ?_⟩)⟩ rfl ?_
    · show x.commit = 0; omega
    · show 0 ≤ x.at_; omega
    · show x.at_ ≤ x.writes.length; omega
    · show 0 < x.writes.length; omega
    · show x.at_ < x.writes.length; omega
  rename_i hp1
  split
  · rename_i hp2
    exact lockM_good h hb hp2.1 hp2.2
  rename_i hp2
  split
  · rename_i hp2'
    refine world_tick h hc (Busy.mk' ⟨hb.few, hb.writes, ⟨hst.1, ?_⟩, .inr (.inr (.inl ⟨rfl, ⟨?_, ?_⟩, rfl, ?_⟩))⟩)
    · show x.start ≤ w.clock + 1; omega
    · show x.start < w.clock + 1; omega
    · show w.clock + 1 ≤ w.clock + 1; omega
    · show 0 < x.writes.length; omega
  · exact closeM_good h hb (by omega)
theorem status_bound {clock st : Int} {l : List MRow} {k : ByteArray} (h : RowsVal clock l) (h2 : (statusAt l k st).1 = 2) : st < (statusAt l k st).2 ∧ (statusAt l k st).2 ≤ clock ∧ (statusAt l k st).2 ≤ 1099511627776 := by
  unfold statusAt at *
  cases hr : rowAt l k with
  | none => rw [hr] at h2; simp at h2
  | some r =>
    rw [hr] at h2
    dsimp only at h2 ⊢
    obtain ⟨hm, _⟩ := rowAt_mem hr
    obtain ⟨_, x, hf, h0, he⟩ := status_two h2
    obtain ⟨hx, hs⟩ := recFind_mem hf
    have := (h.each r hm).2.2 x hx
    have := ((h.each r hm).1.recs.each x hx).2.2.2.2 h0
    omega
theorem resolveR_good {clock : Int} {l : List MRow} {k : ByteArray} (hc : 0 ≤ clock) (h : RowsVal clock l) : RowsVal clock (resolveR l k).1 := by
  unfold resolveR
  split
  · exact h
  cases hr : rowAt l k with
  | none => exact h
  | some r =>
    obtain ⟨hm, _⟩ := rowAt_mem hr
    have hls := (h.each r hm).2.1
    dsimp only
    split
    · exact h
    split
    · rename_i h2
      exact atRow_good hc h (commit_keeps hc hls (status_bound h h2).2.1)
    split
    · exact h
    · exact undoAt_good hc hls (undoAt_good hc hls h)
theorem putM_good {w : MWorld} {c : Nat} {x : MClient} {k v : ByteArray} (h : WorldGood w) (hb : Busy x w.clock) (hp : x.phase = 1) : WorldGood (putM w c x k v).1 := by
  unfold putM
  split
  · exact h
  rename_i hk
  split
  · exact h
  rename_i hv
  split
  · exact h
  rename_i hn
  have hph := hb.phase
  refine world_turn h h.rows (Busy.mk' ⟨?_, writesB_iff.2 (putWrite_good (writesB_iff.1 hb.writes) (by simpa using hk) (by omega)), hb.start, .inl ⟨hp, ?_, ?_⟩⟩)
  · show (putWrite x.writes ⟨k, v⟩).length ≤ 6
    have h6 := hb.few
    have hle := length_putWrite_le (l := x.writes) (r := ⟨k, v⟩)
    cases hw : writeOf x.writes k with
    | none => rw [hw] at hn; simp at hn; omega
    | some y =>
      obtain ⟨hy, he⟩ := writeOf_mem hw
      rw [length_putWrite_some (writesB_iff.1 hb.writes).2 ⟨y, hy, he⟩]; exact h6
  · show x.commit = 0; omega
  · show x.at_ = 0; omega
theorem actM_good {w : MWorld} {a : MAct} {c : Nat} {x : MClient} (h : WorldGood w) (hx : clientB x w.clock = true) (hc : w.clock ≠ 1099511627376) : WorldGood (actM w a c x).1 := by
  unfold actM
  split
  · exact h
  rename_i hno
  split
  · refine world_tick h hc (Busy.mk' ⟨?_, rfl, ⟨?_, ?_⟩, .inl ⟨rfl, rfl, rfl⟩⟩)
    · show (0 : Nat) ≤ 6; omega
    · show 1 ≤ w.clock + 1; have := h.clock; omega
    · show w.clock + 1 ≤ w.clock + 1; omega
  split
  · exact h
  split
  · rename_i hk3
    have hp : x.phase = 1 := by omega
    exact putM_good h (busy_of hx (by omega)) hp
  split
  · exact stepM_good h hx hc
  split
  · exact world_turn h h.rows (clientB_zero _)
  · have := resolveR_good (k := a.key) h.clock.1 h.rows
    exact ⟨this, h.few, h.clock, h.clients⟩
theorem clientAt_mem {w : MWorld} {c : Nat} (h : c < w.clients.length) : clientAt w c ∈ w.clients := by
  unfold clientAt
  rw [List.getElem?_eq_getElem h]
  exact List.getElem_mem h
theorem doCode_ok {w : MWorld} {a : MAct} (h : doCode w a = 0) : WorldGood w ∧ (1 ≤ a.kind ∧ a.kind ≤ 6) ∧ (0 ≤ a.c ∧ a.c < w.clients.length) ∧ w.clock ≠ 1099511627376 := by
  unfold doCode at h
  split at h
  · omega
  rename_i h1
  split at h
  · omega
  split at h
  · omega
  split at h
  · omega
  exact ⟨worldB_iff.1 (by simpa using h1), by omega, by omega, by omega⟩
theorem doM_good {w : MWorld} {a : MAct} (h : doCode w a = 0) : WorldGood (doM w a).1 := by
  obtain ⟨hw, _, hcl, hc⟩ := doCode_ok h
  unfold doM
  rw [if_pos h]
  exact actM_good hw (hw.clients _ (clientAt_mem (by omega))) hc
theorem startW_good {n : Nat} (h : n ≤ 5) : WorldGood (startW n) :=
  ⟨⟨fun r hr => (by cases hr), List.Pairwise.nil, Nat.zero_le _⟩, by simpa [startW] using h, ⟨by show (0 : Int) ≤ 0; omega, by show (0 : Int) ≤ 1099511627376; omega⟩, fun c hc => by
    have := List.eq_of_mem_replicate hc
    rw [this]; exact clientB_zero _⟩
end Go.Proofs.Ytniomgngiiiklaa
