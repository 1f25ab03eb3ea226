/- The plain data of rickyard (records, rows, writes, clients, worlds), and what it means that a value in memory reads as such a datum. No program in sight. -/
import Derived.WalkKit
import Derived.WalkSpells
import Derived.WalkLawsBesides
import Derived.Deep.QuietTactic
import Derived.BigQuiet
import Derived.Lib.Hide
namespace Go.Proofs.Ytniomgngiiiklaa
open Go.RowKit

structure MRec where
  start : Int
  commit : Int
  value : ByteArray

structure MRow where
  key : ByteArray
  ls : Int
  lp : ByteArray
  value : ByteArray
  recs : List MRec

structure MWrite where
  key : ByteArray
  value : ByteArray

structure MClient where
  phase : Int
  start : Int
  commit : Int
  writes : List MWrite
  at_ : Int

structure MWorld where
  rows : List MRow
  clock : Int
  clients : List MClient

def MRec.zero : MRec := ⟨0, 0, ⟨#[]⟩⟩

def MRec.cells (r : MRec) : List Value := [.int .i64 r.start, .int .i64 r.commit, .string r.value]
def MRec.val (r : MRec) : Value := .agg #[.int .i64 r.start, .int .i64 r.commit, .string r.value]
def recCells (l : List MRec) : List Value := l.flatMap MRec.cells
def MWrite.cells (r : MWrite) : List Value := [.string r.key, .string r.value]
def MWrite.val (r : MWrite) : Value := .agg #[.string r.key, .string r.value]
def writeCells (l : List MWrite) : List Value := l.flatMap MWrite.cells

/-- The slice (A, n) reads as the records rs, in blocks below B. -/
def RecsAt (w : World) (B : Nat) (A : Option Addr) (n : Nat) (rs : List MRec) : Prop :=
  rs.length = n ∧ ∀ (k : Nat) (r : MRec), rs[k]? = some r → ∃ b off, A = some ⟨b, off, none⟩ ∧ b < B ∧
    w.cell? ⟨b, off + k * 3, none⟩ = some (.int .i64 r.start) ∧ w.cell? ⟨b, off + k * 3 + 1, none⟩ = some (.int .i64 r.commit) ∧ w.cell? ⟨b, off + k * 3 + 2, none⟩ = some (.string r.value)

def WritesAt (w : World) (B : Nat) (A : Option Addr) (n : Nat) (rs : List MWrite) : Prop :=
  rs.length = n ∧ ∀ (k : Nat) (r : MWrite), rs[k]? = some r → ∃ b off, A = some ⟨b, off, none⟩ ∧ b < B ∧
    w.cell? ⟨b, off + k * 2, none⟩ = some (.string r.key) ∧ w.cell? ⟨b, off + k * 2 + 1, none⟩ = some (.string r.value)

section
variable {w w' : World} {B B' n : Nat} {A : Option Addr}

theorem RecsAt.keep {rs : List MRec} (h : RecsAt w B A n rs) (hk : ∀ p : Addr, p.block < B → w'.cell? p = w.cell? p) : RecsAt w' B A n rs :=
  ⟨h.1, fun k r hr => by
    obtain ⟨b, off, hA, hb, h1, h2, h3⟩ := h.2 k r hr
    exact ⟨b, off, hA, hb, (hk _ hb).trans h1, (hk _ hb).trans h2, (hk _ hb).trans h3⟩⟩
theorem RecsAt.below {rs : List MRec} (h : RecsAt w B A n rs) {C : Nat} (hb : Below C w w') (hC : B ≤ C) : RecsAt w' B A n rs := h.keep fun _ hp => (hb.mono hC).cell hp
theorem RecsAt.more {rs : List MRec} (h : RecsAt w B A n rs) (hB : B ≤ B') : RecsAt w B' A n rs :=
  ⟨h.1, fun k r hr => by
    obtain ⟨b, off, hA, hb, hc⟩ := h.2 k r hr
    exact ⟨b, off, hA, by omega, hc⟩⟩
theorem RecsAt.at_ {rs : List MRec} (h : RecsAt w B A n rs) {k : Nat} (hk : k < n) : ∃ r b off, rs[k]? = some r ∧ A = some ⟨b, off, none⟩ ∧ b < B ∧
    w.cell? ⟨b, off + k * 3, none⟩ = some (.int .i64 r.start) ∧ w.cell? ⟨b, off + k * 3 + 1, none⟩ = some (.int .i64 r.commit) ∧ w.cell? ⟨b, off + k * 3 + 2, none⟩ = some (.string r.value) := by
  have hl : k < rs.length := by have := h.1; omega
  obtain ⟨b, off, hc⟩ := h.2 k rs[k] (List.getElem?_eq_getElem hl)
  exact ⟨rs[k], b, off, List.getElem?_eq_getElem hl, hc⟩
theorem WritesAt.keep {rs : List MWrite} (h : WritesAt w B A n rs) (hk : ∀ p : Addr, p.block < B → w'.cell? p = w.cell? p) : WritesAt w' B A n rs :=
  ⟨h.1, fun k r hr => by
    obtain ⟨b, off, hA, hb, h1, h2⟩ := h.2 k r hr
    exact ⟨b, off, hA, hb, (hk _ hb).trans h1, (hk _ hb).trans h2⟩⟩
theorem WritesAt.below {rs : List MWrite} (h : WritesAt w B A n rs) {C : Nat} (hb : Below C w w') (hC : B ≤ C) : WritesAt w' B A n rs := h.keep fun _ hp => (hb.mono hC).cell hp
theorem WritesAt.more {rs : List MWrite} (h : WritesAt w B A n rs) (hB : B ≤ B') : WritesAt w B' A n rs :=
  ⟨h.1, fun k r hr => by
    obtain ⟨b, off, hA, hb, hc⟩ := h.2 k r hr
    exact ⟨b, off, hA, by omega, hc⟩⟩
theorem WritesAt.at_ {rs : List MWrite} (h : WritesAt w B A n rs) {k : Nat} (hk : k < n) : ∃ r b off, rs[k]? = some r ∧ A = some ⟨b, off, none⟩ ∧ b < B ∧
    w.cell? ⟨b, off + k * 2, none⟩ = some (.string r.key) ∧ w.cell? ⟨b, off + k * 2 + 1, none⟩ = some (.string r.value) := by
  have hl : k < rs.length := by have := h.1; omega
  obtain ⟨b, off, hc⟩ := h.2 k rs[k] (List.getElem?_eq_getElem hl)
  exact ⟨rs[k], b, off, List.getElem?_eq_getElem hl, hc⟩
end

/-- Behind a callee that leaves what was there alone: each old cell and each old mark reads as before. -/
theorem bcell {B : Nat} {W w1 : World} (hb : Below B W w1) : (∀ b o, b < B → w1.cell? ⟨b, o, none⟩ = W.cell? ⟨b, o, none⟩) ∧ (∀ b o, b < B → w1.frozen? ⟨b, o, none⟩ = W.frozen? ⟨b, o, none⟩) :=
  ⟨fun b o h => hb.cell (p := ⟨b, o, none⟩) h, fun b o h => hb.frozen (p := ⟨b, o, none⟩) h⟩

theorem ret_int {k : IntKind} {a b : Int} (h : a = b) : Ending.returned (.int k a) = .returned (.int k b) := by rw [h]
theorem ret_bool {a b : Bool} (h : a = b) : Ending.returned (.bool a) = .returned (.bool b) := by rw [h]

/-! ### the first place where p holds -/
def fstIdx {α : Type} (p : α → Bool) (l : List α) : Int := match l.findIdx? p with | some i => (i : Int) | none => -1

theorem fstIdx_hit {α : Type} (p : α → Bool) (l : List α) (k : Nat) (x : α) (hk : l[k]? = some x) (hp : p x = true) (hb : ∀ (j : Nat) (y : α), j < k → l[j]? = some y → p y = false) : fstIdx p l = k := by
  have : l.findIdx? p = some k := by
    obtain ⟨hlt, rfl⟩ := List.getElem?_eq_some_iff.1 hk
    rw [List.findIdx?_eq_some_iff_getElem]
    exact ⟨hlt, hp, fun j hj => by simp [hb j _ hj (List.getElem?_eq_getElem (by omega))]⟩
  simp [fstIdx, this]
theorem fstIdx_miss {α : Type} (p : α → Bool) (l : List α) (hb : ∀ (j : Nat) (y : α), l[j]? = some y → p y = false) : fstIdx p l = -1 := by
  have : l.findIdx? p = none := by
    rw [List.findIdx?_eq_none_iff]
    intro x hx
    obtain ⟨j, hj, rfl⟩ := List.mem_iff_getElem.1 hx
    exact hb j _ (List.getElem?_eq_getElem hj)
  simp [fstIdx, this]
/-- All before k say no; k says no: all before k + 1 say no. -/
theorem none_snoc {α : Type} {p : α → Bool} {l : List α} {k : Nat} {x : α} (hk : l[k]? = some x) (hp : p x = false) (hb : ∀ (j : Nat) (y : α), j < k → l[j]? = some y → p y = false) :
    ∀ (j : Nat) (y : α), j < k + 1 → l[j]? = some y → p y = false := by
  intro j y hj hy
  by_cases h : j = k
  · subst h; rw [hk] at hy; injection hy with hy; subst hy; exact hp
  · exact hb j y (by omega) hy
theorem none_all {α : Type} {p : α → Bool} {l : List α} {k : Nat} (hk : l.length ≤ k) (hb : ∀ (j : Nat) (y : α), j < k → l[j]? = some y → p y = false) :
    ∀ (j : Nat) (y : α), l[j]? = some y → p y = false := by
  intro j y hy
  have := (List.getElem?_eq_some_iff.1 hy).1
  exact hb j y (by omega) hy
theorem any_none {α : Type} {p : α → Bool} {l : List α} (hb : ∀ (j : Nat) (y : α), l[j]? = some y → p y = false) : l.any p = false := by
  rw [List.any_eq_false]
  intro x hx e
  obtain ⟨j, hj, rfl⟩ := List.mem_iff_getElem.1 hx
  rw [hb j _ (List.getElem?_eq_getElem hj)] at e
  cases e
theorem any_hit {α : Type} {p : α → Bool} {l : List α} {k : Nat} {x : α} (hk : l[k]? = some x) (hp : p x = true) : l.any p = true :=
  List.any_eq_true.2 ⟨x, List.mem_of_getElem? hk, hp⟩
theorem fstIdx_nonneg {α : Type} (p : α → Bool) (l : List α) : decide (0 ≤ fstIdx p l) = l.any p := by
  unfold fstIdx
  cases h : l.findIdx? p with
  | none =>
    rw [List.findIdx?_eq_none_iff] at h
    have : l.any p = false := by rw [List.any_eq_false]; intro x hx; simp [h x hx]
    simp [this]
  | some i =>
    rw [List.findIdx?_eq_some_iff_getElem] at h
    obtain ⟨hi, hp, _⟩ := h
    have : l.any p = true := List.any_eq_true.2 ⟨l[i], List.getElem_mem hi, hp⟩
    simp [this]

/-! ### strings against the empty one, as the walk spells it -/
theorem str_some {s : ByteArray} (h : 1 ≤ s.size) : s.toList.isEmpty = false ∧ ¬ s.toList = [] := by
  rw [ByteArray.toList_eq]
  have hl : 1 ≤ s.data.toList.length := by rw [Array.length_toList]; exact h
  cases hd : s.data.toList with
  | nil => rw [hd] at hl; simp at hl
  | cons a l => simp
theorem str_none {s : ByteArray} (h : ¬ 1 ≤ s.size) : s.toList.isEmpty = true ∧ s.toList = [] := by
  rw [ByteArray.toList_eq]
  have hl : ¬ 1 ≤ s.data.toList.length := by rw [Array.length_toList]; exact h
  cases hd : s.data.toList with
  | nil => simp
  | cons a l => rw [hd] at hl; simp at hl
theorem str_eq_empty {s : ByteArray} (h : ¬ 1 ≤ s.size) : s = ⟨#[]⟩ := by
  obtain ⟨d⟩ := s
  have : d.size = 0 := by have h' : ¬ 1 ≤ d.size := h; omega
  rw [Array.size_eq_zero_iff.1 this]
end Go.Proofs.Ytniomgngiiiklaa
