/- Where a key would be among sorted rows or writes; no program in sight. -/
import Derived.Test.YtniomgngiiiklaaWorld
namespace Go.Proofs.Ytniomgngiiiklaa
open Go.RowKit

def bsI {α : Type} (f : α → ByteArray) (l : List α) (k : ByteArray) : Nat := l.findIdx fun x => !ltK (f x) k
def bsB {α : Type} (f : α → ByteArray) (l : List α) (k : ByteArray) : Bool := match l[bsI f l k]? with | some x => decide (f x = k) | none => false
def SortedBy {α : Type} (f : α → ByteArray) (l : List α) : Prop := l.Pairwise fun a b => ltK (f a) (f b) = true
section
variable {α : Type} {f : α → ByteArray} {l : List α} {k : ByteArray}
theorem bsI_le : bsI f l k ≤ l.length := List.findIdx_le_length
theorem bsI_of {i : Nat} (hi : i ≤ l.length) (h1 : ∀ (j : Nat) x, l[j]? = some x → j < i → ltK (f x) k = true) (h2 : ∀ (j : Nat) x, l[j]? = some x → i ≤ j → ltK (f x) k = false) : bsI f l k = i := by
  unfold bsI
  by_cases h : i < l.length
  · rw [List.findIdx_eq h]
    refine ⟨by rw [h2 i _ (List.getElem?_eq_getElem h) (Nat.le_refl _)]; rfl, fun j hj => by rw [h1 j _ (List.getElem?_eq_getElem (by omega)) hj]; rfl⟩
  · obtain rfl : i = l.length := by omega
    exact List.findIdx_eq_length.2 fun x hx => by
      obtain ⟨j, hj, rfl⟩ := List.mem_iff_getElem.1 hx
      rw [h1 j _ (List.getElem?_eq_getElem hj) hj]; rfl
theorem low_more (hs : SortedBy f l) {h : Nat} {x : α} (hx : l[h]? = some x) (hlt : ltK (f x) k = true) : ∀ (j : Nat) y, l[j]? = some y → j < h + 1 → ltK (f y) k = true := by
  intro j y hy hj
  by_cases e : j = h
  · subst e; rw [hx] at hy; injection hy with hy; rwa [← hy]
  · obtain ⟨h1, rfl⟩ := List.getElem?_eq_some_iff.1 hx
    obtain ⟨h2, rfl⟩ := List.getElem?_eq_some_iff.1 hy
    exact ltK_trans (List.pairwise_iff_getElem.1 hs j h h2 h1 (by omega)) hlt
theorem high_more (hs : SortedBy f l) {h : Nat} {x : α} (hx : l[h]? = some x) (hlt : ltK (f x) k = false) : ∀ (j : Nat) y, l[j]? = some y → h ≤ j → ltK (f y) k = false := by
  intro j y hy hj
  by_cases e : j = h
  · subst e; rw [hx] at hy; injection hy with hy; rwa [← hy]
  · obtain ⟨h1, rfl⟩ := List.getElem?_eq_some_iff.1 hx
    obtain ⟨h2, rfl⟩ := List.getElem?_eq_some_iff.1 hy
    cases hc : ltK (f l[j]) k with
    | false => rfl
    | true =>
      have := ltK_trans (List.pairwise_iff_getElem.1 hs h j h1 h2 (by omega)) hc
      rw [hlt] at this; cases this
theorem bsI_before (_hs : SortedBy f l) : ∀ x ∈ l.take (bsI f l k), ltK (f x) k = true := by
  intro x hx
  obtain ⟨j, hj, rfl⟩ := List.mem_iff_getElem.1 hx
  have hj' : j < bsI f l k := by rw [List.length_take] at hj; omega
  rw [List.getElem_take]
  have := List.not_of_lt_findIdx hj'
  simpa using this
theorem bsI_at {x : α} (hx : l[bsI f l k]? = some x) : ltK (f x) k = false := by
  obtain ⟨h1, rfl⟩ := List.getElem?_eq_some_iff.1 hx
  have : (fun x => !ltK (f x) k) (l[bsI f l k]'h1) = true := List.findIdx_getElem (w := h1)
  simpa using this
theorem bsI_drop (hs : SortedBy f l) : ∀ x ∈ l.drop (bsI f l k + 1), ltK k (f x) = true ∨ bsI f l k ≥ l.length := by
  intro x hx
  obtain ⟨j, hj, rfl⟩ := List.mem_iff_getElem.1 hx
  rw [List.length_drop] at hj
  rw [List.getElem_drop]
  left
  have hi : bsI f l k < l.length := by omega
  have h1 := bsI_at (f := f) (l := l) (k := k) (List.getElem?_eq_getElem hi)
  have h2 := List.pairwise_iff_getElem.1 hs (bsI f l k) (bsI f l k + 1 + j) hi (by omega) (by omega)
  cases hc : ltK k (f l[bsI f l k + 1 + j]) with
  | true => rfl
  | false =>
    have h3 := high_more (k := k) hs (List.getElem?_eq_getElem hi) h1 (bsI f l k + 1 + j) _ (List.getElem?_eq_getElem (by omega)) (by omega)
    have e := ltK_total h3 hc
    rw [e] at h2; rw [h1] at h2; cases h2
end

/-! ### rows -/
theorem splitAt_eq {α : Type} {l : List α} {i : Nat} {x : α} (h : l[i]? = some x) : l = l.take i ++ x :: l.drop (i + 1) := by
  obtain ⟨h1, rfl⟩ := List.getElem?_eq_some_iff.1 h
  rw [List.getElem_cons_drop, List.take_append_drop]
theorem putRow_pass : ∀ {a b : List MRow} {r : MRow}, (∀ x ∈ a, ltK x.key r.key = true) → putRow (a ++ b) r = a ++ putRow b r
  | [], _, _, _ => rfl
  | x :: a, b, r, h => by
    show (if ltK x.key r.key then x :: putRow (a ++ b) r else _) = _
    rw [if_pos (h x List.mem_cons_self), putRow_pass fun y hy => h y (List.mem_cons_of_mem _ hy)]
    rfl
theorem find_pass {α : Type} {p : α → Bool} : ∀ {a b : List α}, (∀ x ∈ a, p x = false) → (a ++ b).find? p = b.find? p
  | [], _, _ => rfl
  | x :: a, b, h => by
    rw [List.cons_append, List.find?_cons_of_neg (by rw [h x List.mem_cons_self]; decide)]
    exact find_pass fun y hy => h y (List.mem_cons_of_mem _ hy)
theorem search_there {l : List MRow} {k : ByteArray} (hs : SortedBy MRow.key l) {r : MRow} (hr : l[bsI MRow.key l k]? = some r) (hk : r.key = k) :
    rowAt l k = some r ∧ ∀ q : MRow, q.key = k → putRow l q = l.set (bsI MRow.key l k) q := by
  have hb := bsI_before (k := k) hs
  have hsp := splitAt_eq hr
  refine ⟨?_, fun q hq => ?_⟩
  · unfold rowAt
    conv => lhs; rw [hsp]
    rw [find_pass fun x hx => decide_eq_false (ltK_ne (hb x hx)), List.find?_cons_of_pos (by simpa using hk)]
  · conv => lhs; rw [hsp]
    rw [putRow_pass fun x hx => by rw [hq]; exact hb x hx]
    have e : putRow (r :: l.drop (bsI MRow.key l k + 1)) q = q :: l.drop (bsI MRow.key l k + 1) := by
      show (if ltK r.key q.key then _ else if r.key = q.key then _ else _) = _
      rw [hq, hk, ltK_irrefl]
      simp
    rw [e]
    obtain ⟨h1, _⟩ := List.getElem?_eq_some_iff.1 hr
    rw [List.set_eq_take_append_cons_drop, if_pos h1]
theorem search_not {l : List MRow} {k : ByteArray} (hs : SortedBy MRow.key l) (hb : bsB MRow.key l k = false) :
    rowAt l k = none ∧ ∀ q : MRow, q.key = k → putRow l q = l.take (bsI MRow.key l k) ++ q :: l.drop (bsI MRow.key l k) := by
  have hbf := bsI_before (k := k) hs
  have hhead : ∀ r, l[bsI MRow.key l k]? = some r → r.key ≠ k ∧ ltK r.key k = false := fun r hr => by
    unfold bsB at hb
    rw [hr] at hb
    exact ⟨by simpa using hb, bsI_at hr⟩
  cases hr : l[bsI MRow.key l k]? with
  | none =>
    have hle := List.getElem?_eq_none_iff.1 hr
    have ht : l.take (bsI MRow.key l k) = l := List.take_of_length_le hle
    rw [ht] at hbf
    have hd : l.drop (bsI MRow.key l k) = [] := List.drop_eq_nil_of_le hle
    refine ⟨?_, fun q hq => ?_⟩
    · unfold rowAt
      rw [List.find?_eq_none]
      intro x hx
      simpa using ltK_ne (hbf x hx)
    · rw [ht, hd]
      have := putRow_pass (a := l) (b := []) (r := q) fun x hx => by rw [hq]; exact hbf x hx
      rwa [List.append_nil] at this
  | some r =>
    obtain ⟨h1, h2⟩ := hhead r hr
    have hsp := splitAt_eq hr
    have hdrop : l.drop (bsI MRow.key l k) = r :: l.drop (bsI MRow.key l k + 1) := by
      obtain ⟨h3, rfl⟩ := List.getElem?_eq_some_iff.1 hr
      exact (List.getElem_cons_drop ..).symm
    refine ⟨?_, fun q hq => ?_⟩
    · unfold rowAt
      rw [List.find?_eq_none]
      intro x hx
      rw [hsp] at hx
      rcases List.mem_append.1 hx with hx | hx
      · simpa using ltK_ne (hbf x hx)
      · rcases List.mem_cons.1 hx with rfl | hx
        · simpa using h1
        · rcases bsI_drop (k := k) hs x hx with h | h
          · simpa using fun e => ltK_ne h e.symm
          · have := (List.getElem?_eq_some_iff.1 hr).1; omega
    · conv => lhs; rw [hsp]
      rw [putRow_pass fun x hx => by rw [hq]; exact hbf x hx, hdrop]
      congr 1
      show (if ltK r.key q.key then _ else if r.key = q.key then _ else _) = _
      rw [hq, h2, if_neg (by decide), if_neg h1]

/-! ### writes -/
theorem putWrite_pass : ∀ {a b : List MWrite} {r : MWrite}, (∀ x ∈ a, ltK x.key r.key = true) → putWrite (a ++ b) r = a ++ putWrite b r
  | [], _, _, _ => rfl
  | x :: a, b, r, h => by
    show (if ltK x.key r.key then x :: putWrite (a ++ b) r else _) = _
    rw [if_pos (h x List.mem_cons_self), putWrite_pass fun y hy => h y (List.mem_cons_of_mem _ hy)]
    rfl
theorem wsearch_there {l : List MWrite} {k : ByteArray} (hs : SortedBy MWrite.key l) {r : MWrite} (hr : l[bsI MWrite.key l k]? = some r) (hk : r.key = k) :
    writeOf l k = some r ∧ ∀ q : MWrite, q.key = k → putWrite l q = l.set (bsI MWrite.key l k) q := by
  have hb := bsI_before (k := k) hs
  have hsp := splitAt_eq hr
  refine ⟨?_, fun q hq => ?_⟩
  · unfold writeOf
    conv => lhs; rw [hsp]
    rw [find_pass fun x hx => decide_eq_false (ltK_ne (hb x hx)), List.find?_cons_of_pos (by simpa using hk)]
  · conv => lhs; rw [hsp]
    rw [putWrite_pass fun x hx => by rw [hq]; exact hb x hx]
    have e : putWrite (r :: l.drop (bsI MWrite.key l k + 1)) q = q :: l.drop (bsI MWrite.key l k + 1) := by
      show (if ltK r.key q.key then _ else if r.key = q.key then _ else _) = _
      rw [hq, hk, ltK_irrefl]
      simp
    rw [e]
    obtain ⟨h1, _⟩ := List.getElem?_eq_some_iff.1 hr
    rw [List.set_eq_take_append_cons_drop, if_pos h1]
theorem wsearch_not {l : List MWrite} {k : ByteArray} (hs : SortedBy MWrite.key l) (hb : bsB MWrite.key l k = false) :
    writeOf l k = none ∧ ∀ q : MWrite, q.key = k → putWrite l q = l.take (bsI MWrite.key l k) ++ q :: l.drop (bsI MWrite.key l k) := by
  have hbf := bsI_before (k := k) hs
  have hhead : ∀ r, l[bsI MWrite.key l k]? = some r → r.key ≠ k ∧ ltK r.key k = false := fun r hr => by
    unfold bsB at hb
    rw [hr] at hb
    exact ⟨by simpa using hb, bsI_at hr⟩
  cases hr : l[bsI MWrite.key l k]? with
  | none =>
    have hle := List.getElem?_eq_none_iff.1 hr
    have ht : l.take (bsI MWrite.key l k) = l := List.take_of_length_le hle
    rw [ht] at hbf
    have hd : l.drop (bsI MWrite.key l k) = [] := List.drop_eq_nil_of_le hle
    refine ⟨?_, fun q hq => ?_⟩
    · unfold writeOf
      rw [List.find?_eq_none]
      intro x hx
      simpa using ltK_ne (hbf x hx)
    · rw [ht, hd]
      have := putWrite_pass (a := l) (b := []) (r := q) fun x hx => by rw [hq]; exact hbf x hx
      rwa [List.append_nil] at this
  | some r =>
    obtain ⟨h1, h2⟩ := hhead r hr
    have hsp := splitAt_eq hr
    have hdrop : l.drop (bsI MWrite.key l k) = r :: l.drop (bsI MWrite.key l k + 1) := by
      obtain ⟨h3, rfl⟩ := List.getElem?_eq_some_iff.1 hr
      exact (List.getElem_cons_drop ..).symm
    refine ⟨?_, fun q hq => ?_⟩
    · unfold writeOf
      rw [List.find?_eq_none]
      intro x hx
      rw [hsp] at hx
      rcases List.mem_append.1 hx with hx | hx
      · simpa using ltK_ne (hbf x hx)
      · rcases List.mem_cons.1 hx with rfl | hx
        · simpa using h1
        · rcases bsI_drop (k := k) hs x hx with h | h
          · simpa using fun e => ltK_ne h e.symm
          · have := (List.getElem?_eq_some_iff.1 hr).1; omega
    · conv => lhs; rw [hsp]
      rw [putWrite_pass fun x hx => by rw [hq]; exact hbf x hx, hdrop]
      congr 1
      show (if ltK r.key q.key then _ else if r.key = q.key then _ else _) = _
      rw [hq, h2, if_neg (by decide), if_neg h1]
end Go.Proofs.Ytniomgngiiiklaa
