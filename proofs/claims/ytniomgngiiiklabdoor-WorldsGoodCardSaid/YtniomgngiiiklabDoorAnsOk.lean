/- A slice that reads as a list, so many cells for each; answers so read. No walk. -/
import Derived.Test.YtniomgngiiiklabDoorOwn
namespace Go.Proofs.YtniomgngiiiklabDoor
open Go.RowKit

/-- The slice (A, n) reads as l, s cells for each, in a block below B. -/
structure Reads {α : Type} (f : α → List Value) (s : Nat) (w : World) (B : Nat) (A : Option Addr) (n : Nat) (l : List α) : Prop where
  len : l.length = n
  at_ : ∀ (k : Nat) (x : α), l[k]? = some x → ∃ b off, A = some ⟨b, off, none⟩ ∧ b < B ∧ ∀ i u, (f x)[i]? = some u → w.cell? ⟨b, off + k * s + i, none⟩ = some u
section
variable {α : Type} {f : α → List Value} {s : Nat} {w w' : World} {B C n : Nat} {A : Option Addr} {l : List α}
theorem Reads.nil (f : α → List Value) (s : Nat) (w : World) (B : Nat) : Reads f s w B none 0 [] := ⟨rfl, fun k x h => by simp at h⟩
theorem Reads.of_own {base c : Nat} {e : TypeId} (hf : ∀ x, (f x).length = s) (hs : 0 < s) (h : w.ownsRow base e s (.slice A n c) n (l.flatMap f)) : Reads f s w w.heap.size A n l := by
  have hl : l.length = n := by
    have h1 := h.1
    rw [flat_length hf l] at h1
    exact Nat.eq_of_mul_eq_mul_right hs h1
  refine ⟨hl, fun k x hx => ?_⟩
  obtain ⟨g, e, hg, hc⟩ := flat_own hf hs h hx
  exact ⟨g, 0, e, hg, fun i u hu => by simpa using hc i u hu⟩
theorem Reads.keep (h : Reads f s w B A n l) (hk : ∀ g, g < B → w'.heap[g]? = w.heap[g]?) (hC : B ≤ C) : Reads f s w' C A n l :=
  ⟨h.len, fun k x hx => by
    obtain ⟨b, off, e, hlt, hc⟩ := h.at_ k x hx
    exact ⟨b, off, e, Nat.lt_of_lt_of_le hlt hC, fun i u hu => (World.cell?_of_block (a := ⟨b, _, none⟩) (hk b hlt)).trans (hc i u hu)⟩⟩
theorem Reads.below (h : Reads f s w B A n l) (hb : Below C w w') (hC : B ≤ C) : Reads f s w' B A n l := h.keep (fun g hg => hb.block g (Nat.lt_of_lt_of_le hg hC)) (Nat.le_refl _)
theorem Reads.more (h : Reads f s w B A n l) (hC : B ≤ C) : Reads f s w C A n l := h.keep (fun _ _ => rfl) hC
theorem Reads.take (h : Reads f s w B A n l) {m : Nat} (hm : m ≤ n) : Reads f s w B A m (l.take m) :=
  ⟨by rw [List.length_take, h.len]; omega, fun k a ha => h.at_ k a (by
    rw [List.getElem?_take] at ha
    split at ha
    · exact ha
    · cases ha)⟩
theorem Reads.get (h : Reads f s w B A n l) {k : Nat} (hk : k < n) : ∃ x b off, l[k]? = some x ∧ A = some ⟨b, off, none⟩ ∧ b < B ∧ ∀ i u, (f x)[i]? = some u → w.cell? ⟨b, off + k * s + i, none⟩ = some u := by
  have hl : k < l.length := by rw [h.len]; exact hk
  obtain ⟨b, off, hc⟩ := h.at_ k l[k] (List.getElem?_eq_getElem hl)
  exact ⟨l[k], b, off, List.getElem?_eq_getElem hl, hc⟩
end
abbrev AnsOk (w : World) (B : Nat) (A : Option Addr) (n : Nat) (l : List MAns) : Prop := Reads MAns.cells 5 w B A n l
theorem AnsOk.of_own {w : World} {base n c : Nat} {e : TypeId} {A : Option Addr} {l : List MAns} (h : w.ownsRow base e 5 (.slice A n c) n (ansList l)) : AnsOk w w.heap.size A n l := Reads.of_own (fun _ => rfl) (by omega) h
theorem AnsOk.ans {w : World} {B n : Nat} {A : Option Addr} {l : List MAns} (h : AnsOk w B A n l) {k : Nat} (hk : k < n) :
    ∃ a b off, l[k]? = some a ∧ A = some ⟨b, off, none⟩ ∧ b < B ∧ w.cell? ⟨b, off + k * 5, none⟩ = some (.int .i64 a.code) ∧ w.cell? ⟨b, off + k * 5 + 1, none⟩ = some (.bool a.is) ∧ w.cell? ⟨b, off + k * 5 + 2, none⟩ = some (.string a.value) ∧
      w.cell? ⟨b, off + k * 5 + 3, none⟩ = some (.int .i64 a.phase) ∧ w.cell? ⟨b, off + k * 5 + 4, none⟩ = some (.int .i64 a.time) := by
  obtain ⟨a, b, off, h1, h2, h3, hc⟩ := h.get hk
  exact ⟨a, b, off, h1, h2, h3, by simpa using hc 0 _ rfl, hc 1 _ rfl, hc 2 _ rfl, hc 3 _ rfl, hc 4 _ rfl⟩
theorem ActsOk.of_reads {w : World} {B n : Nat} {A : Option Addr} {l : List MAct} (h : Reads MAct.cells 4 w B A n l) : ActsOk w B A n l :=
  ⟨h.len, fun k a ha => by
    obtain ⟨b, off, e, hlt, hc⟩ := h.at_ k a ha
    exact ⟨b, off, e, hlt, by simpa using hc 0 _ rfl, hc 1 _ rfl, hc 2 _ rfl, hc 3 _ rfl⟩⟩
theorem ActsOk.reads {w : World} {B n : Nat} {A : Option Addr} {l : List MAct} (h : ActsOk w B A n l) : Reads MAct.cells 4 w B A n l :=
  ⟨h.len, fun k a ha => by
    obtain ⟨b, off, e, hlt, h0, h1, h2, h3⟩ := h.at_ k a ha
    refine ⟨b, off, e, hlt, fun i u hu => ?_⟩
    match i, hu with
    | 0, hu => simp [MAct.cells] at hu; subst hu; simpa using h0
    | 1, hu => simp [MAct.cells] at hu; subst hu; exact h1
    | 2, hu => simp [MAct.cells] at hu; subst hu; exact h2
    | 3, hu => simp [MAct.cells] at hu; subst hu; exact h3
    | _ + 4, hu => simp [MAct.cells] at hu⟩
end Go.Proofs.YtniomgngiiiklabDoor
