/- The plain data of rickyard (records, rows, writes, clients, worlds), and what it means that a value in memory reads as such a datum. No program in sight. -/
import Derived.WalkKit
import Derived.WalkSpells
import Derived.WalkLawsBesides
import Derived.Deep.QuietTactic
import Derived.BigQuiet
import Derived.Lib.Hide
import Derived.Test.YtniomgngiiiklabRows
import Derived.ProofKit
import Derived.OpenShut
import Derived.ShutString
import Derived.ChangeOld
import Derived.Deep.Slices
import Derived.Deep.Fields
import Derived.Lib.SmallJoins
import Derived.ChangeSame
import Derived.SizedLaws
namespace Go.Proofs.Ytniomgngiiiklab
open Go.RowKit

structure MRec where
  start : Int
  commit : Int
  value : ByteArray

structure MRow where
  key : ByteArray
  ls : Int
  lp : ByteArray
  value : ByteArray
  recs : List MRec

structure MWrite where
  key : ByteArray
  value : ByteArray

structure MClient where
  phase : Int
  start : Int
  commit : Int
  writes : List MWrite
  at_ : Int

structure MWorld where
  rows : List MRow
  clock : Int
  clients : List MClient

def MRec.zero : MRec := ⟨0, 0, ⟨#[]⟩⟩

def MRec.cells (r : MRec) : List Value := [.int .i64 r.start, .int .i64 r.commit, .string r.value]
def MRec.val (r : MRec) : Value := .agg #[.int .i64 r.start, .int .i64 r.commit, .string r.value]
def recCells (l : List MRec) : List Value := l.flatMap MRec.cells
def MWrite.cells (r : MWrite) : List Value := [.string r.key, .string r.value]
def MWrite.val (r : MWrite) : Value := .agg #[.string r.key, .string r.value]
def writeCells (l : List MWrite) : List Value := l.flatMap MWrite.cells

/-- The slice (A, n) reads as the records rs, in blocks below B. -/
def RecsAt (w : World) (B : Nat) (A : Option Addr) (n : Nat) (rs : List MRec) : Prop :=
  rs.length = n ∧ ∀ (k : Nat) (r : MRec), rs[k]? = some r → ∃ b off, A = some ⟨b, off, none⟩ ∧ b < B ∧
    w.cell? ⟨b, off + k * 3, none⟩ = some (.int .i64 r.start) ∧ w.cell? ⟨b, off + k * 3 + 1, none⟩ = some (.int .i64 r.commit) ∧ w.cell? ⟨b, off + k * 3 + 2, none⟩ = some (.string r.value)

def WritesAt (w : World) (B : Nat) (A : Option Addr) (n : Nat) (rs : List MWrite) : Prop :=
  rs.length = n ∧ ∀ (k : Nat) (r : MWrite), rs[k]? = some r → ∃ b off, A = some ⟨b, off, none⟩ ∧ b < B ∧
    w.cell? ⟨b, off + k * 2, none⟩ = some (.string r.key) ∧ w.cell? ⟨b, off + k * 2 + 1, none⟩ = some (.string r.value)

section
variable {w w' : World} {B B' n : Nat} {A : Option Addr}

theorem RecsAt.keep {rs : List MRec} (h : RecsAt w B A n rs) (hk : ∀ p : Addr, p.block < B → w'.cell? p = w.cell? p) : RecsAt w' B A n rs :=
  ⟨h.1, fun k r hr => by
    obtain ⟨b, off, hA, hb, h1, h2, h3⟩ := h.2 k r hr
    exact ⟨b, off, hA, hb, (hk _ hb).trans h1, (hk _ hb).trans h2, (hk _ hb).trans h3⟩⟩
theorem RecsAt.below {rs : List MRec} (h : RecsAt w B A n rs) {C : Nat} (hb : Below C w w') (hC : B ≤ C) : RecsAt w' B A n rs := h.keep fun _ hp => (hb.mono hC).cell hp
theorem RecsAt.more {rs : List MRec} (h : RecsAt w B A n rs) (hB : B ≤ B') : RecsAt w B' A n rs :=
  ⟨h.1, fun k r hr => by
    obtain ⟨b, off, hA, hb, hc⟩ := h.2 k r hr
    exact ⟨b, off, hA, by omega, hc⟩⟩
theorem RecsAt.at_ {rs : List MRec} (h : RecsAt w B A n rs) {k : Nat} (hk : k < n) : ∃ r b off, rs[k]? = some r ∧ A = some ⟨b, off, none⟩ ∧ b < B ∧
    w.cell? ⟨b, off + k * 3, none⟩ = some (.int .i64 r.start) ∧ w.cell? ⟨b, off + k * 3 + 1, none⟩ = some (.int .i64 r.commit) ∧ w.cell? ⟨b, off + k * 3 + 2, none⟩ = some (.string r.value) := by
  have hl : k < rs.length := by have := h.1; omega
  obtain ⟨b, off, hc⟩ := h.2 k rs[k] (List.getElem?_eq_getElem hl)
  exact ⟨rs[k], b, off, List.getElem?_eq_getElem hl, hc⟩
theorem WritesAt.keep {rs : List MWrite} (h : WritesAt w B A n rs) (hk : ∀ p : Addr, p.block < B → w'.cell? p = w.cell? p) : WritesAt w' B A n rs :=
  ⟨h.1, fun k r hr => by
    obtain ⟨b, off, hA, hb, h1, h2⟩ := h.2 k r hr
    exact ⟨b, off, hA, hb, (hk _ hb).trans h1, (hk _ hb).trans h2⟩⟩
theorem WritesAt.below {rs : List MWrite} (h : WritesAt w B A n rs) {C : Nat} (hb : Below C w w') (hC : B ≤ C) : WritesAt w' B A n rs := h.keep fun _ hp => (hb.mono hC).cell hp
theorem WritesAt.more {rs : List MWrite} (h : WritesAt w B A n rs) (hB : B ≤ B') : WritesAt w B' A n rs :=
  ⟨h.1, fun k r hr => by
    obtain ⟨b, off, hA, hb, hc⟩ := h.2 k r hr
    exact ⟨b, off, hA, by omega, hc⟩⟩
theorem WritesAt.at_ {rs : List MWrite} (h : WritesAt w B A n rs) {k : Nat} (hk : k < n) : ∃ r b off, rs[k]? = some r ∧ A = some ⟨b, off, none⟩ ∧ b < B ∧
    w.cell? ⟨b, off + k * 2, none⟩ = some (.string r.key) ∧ w.cell? ⟨b, off + k * 2 + 1, none⟩ = some (.string r.value) := by
  have hl : k < rs.length := by have := h.1; omega
  obtain ⟨b, off, hc⟩ := h.2 k rs[k] (List.getElem?_eq_getElem hl)
  exact ⟨rs[k], b, off, List.getElem?_eq_getElem hl, hc⟩
end

theorem addr_add (b off k : Nat) : (⟨b, off, none⟩ : Addr).add k = ⟨b, off + k, none⟩ := by
  unfold Addr.add
  split
  · rename_i h; subst h; rfl
  · rfl

/-! ### the cells of a list of records, of writes -/
theorem recCells_length (rs : List MRec) : (recCells rs).length = rs.length * 3 := by
  induction rs with
  | nil => rfl
  | cons r rs ih =>
    show (r.cells ++ recCells rs).length = _
    rw [List.length_append, ih]
    simp [MRec.cells]; omega
theorem recCells_get : ∀ (rs : List MRec) (j : Nat) (u : Value), (recCells rs)[j]? = some u → ∃ k i r, j = k * 3 + i ∧ rs[k]? = some r ∧ r.cells[i]? = some u ∧ i < 3
  | [], j, u, h => by simp [recCells] at h
  | r :: rs, j, u, h => by
    have h' : (r.cells ++ recCells rs)[j]? = some u := h
    by_cases hj : j < 3
    · rw [List.getElem?_append_left (by simpa [MRec.cells] using hj)] at h'
      exact ⟨0, j, r, by omega, rfl, h', hj⟩
    · rw [List.getElem?_append_right (by simp [MRec.cells]; omega)] at h'
      obtain ⟨k, i, r', e, h1, h2, h3⟩ := recCells_get rs _ u h'
      exact ⟨k + 1, i, r', by simp [MRec.cells] at e; omega, by simpa using h1, h2, h3⟩
theorem recCells_at : ∀ (rs : List MRec) (k i : Nat) (r : MRec) (u : Value), rs[k]? = some r → r.cells[i]? = some u → (recCells rs)[k * 3 + i]? = some u
  | [], k, i, r, u, h, _ => by simp at h
  | x :: rs, k, i, r, u, h, hu => by
    show (x.cells ++ recCells rs)[k * 3 + i]? = some u
    have hi : i < 3 := (List.getElem?_eq_some_iff.1 hu).1
    match k, h with
    | 0, h =>
      simp at h; subst h
      rw [List.getElem?_append_left (by simp [MRec.cells]; omega)]
      simpa using hu
    | k + 1, h =>
      rw [List.getElem?_append_right (by simp [MRec.cells]; omega)]
      have := recCells_at rs k i r u (by simpa using h) hu
      rw [← this]
      congr 1
      simp [MRec.cells]; omega
theorem recCells_one {rs : List MRec} : ∀ u ∈ recCells rs, u.oneCell' = true := by
  intro u hu
  obtain ⟨r, _, h⟩ := List.mem_flatMap.1 hu
  simp [MRec.cells] at h
  rcases h with rfl | rfl | rfl <;> rfl
theorem recCells_append (a b : List MRec) : recCells (a ++ b) = recCells a ++ recCells b := by simp [recCells]

theorem RecsAt.cells {w : World} {B n : Nat} {ad : Addr} {rs : List MRec} (h : RecsAt w B (some ad) n rs) : ∀ j u, (recCells rs)[j]? = some u → w.cell? (ad.add j) = some u := by
  intro j u hu
  obtain ⟨k, i, r, rfl, hr, hi, hi3⟩ := recCells_get rs j u hu
  obtain ⟨b, off, e, _, c0, c1, c2⟩ := h.2 k r hr
  cases e
  rw [addr_add]
  match i, hi3 with
  | 0, _ => simp [MRec.cells] at hi; subst hi; simpa using c0
  | 1, _ => simp [MRec.cells] at hi; subst hi; simpa [Nat.add_assoc] using c1
  | 2, _ => simp [MRec.cells] at hi; subst hi; simpa [Nat.add_assoc] using c2
theorem RecsAt.of_cells {w : World} {B n : Nat} {b off : Nat} {rs : List MRec} (hl : rs.length = n) (hb : b < B) (h : ∀ j u, (recCells rs)[j]? = some u → w.cell? ⟨b, off + j, none⟩ = some u) : RecsAt w B (some ⟨b, off, none⟩) n rs := by
  refine ⟨hl, fun k r hr => ⟨b, off, rfl, hb, ?_, ?_, ?_⟩⟩
  · exact h _ _ (recCells_at rs k 0 r _ hr rfl)
  · exact h _ _ (recCells_at rs k 1 r _ hr rfl)
  · exact h _ _ (recCells_at rs k 2 r _ hr rfl)
theorem RecsAt.of_own {w : World} {base n c : Nat} {e : TypeId} {A : Option Addr} {rs : List MRec} (h : w.ownsRow base e 3 (.slice A n c) n (recCells rs)) : RecsAt w w.heap.size A n rs := by
  have hl : rs.length = n := by have := h.1; rw [recCells_length] at this; omega
  rcases h.2 with ⟨hv, rfl⟩ | ⟨g, cap, cur, hv, _⟩
  · refine ⟨hl, fun k r hr => ?_⟩
    have := (List.getElem?_eq_some_iff.1 hr).1
    omega
  · injection hv with e1 e2 e3
    subst e1; subst e3
    have hlt := h.lt g rfl
    refine RecsAt.of_cells hl hlt.2 fun j u hu => ?_
    have := h.cells (g := g) rfl j u hu
    rwa [addr_add] at this

theorem writeCells_length (rs : List MWrite) : (writeCells rs).length = rs.length * 2 := by
  induction rs with
  | nil => rfl
  | cons r rs ih =>
    show (r.cells ++ writeCells rs).length = _
    rw [List.length_append, ih]
    simp [MWrite.cells]; omega
theorem writeCells_get : ∀ (rs : List MWrite) (j : Nat) (u : Value), (writeCells rs)[j]? = some u → ∃ k i r, j = k * 2 + i ∧ rs[k]? = some r ∧ r.cells[i]? = some u ∧ i < 2
  | [], j, u, h => by simp [writeCells] at h
  | r :: rs, j, u, h => by
    have h' : (r.cells ++ writeCells rs)[j]? = some u := h
    by_cases hj : j < 2
    · rw [List.getElem?_append_left (by simpa [MWrite.cells] using hj)] at h'
      exact ⟨0, j, r, by omega, rfl, h', hj⟩
    · rw [List.getElem?_append_right (by simp [MWrite.cells]; omega)] at h'
      obtain ⟨k, i, r', e, h1, h2, h3⟩ := writeCells_get rs _ u h'
      exact ⟨k + 1, i, r', by simp [MWrite.cells] at e; omega, by simpa using h1, h2, h3⟩
theorem writeCells_at : ∀ (rs : List MWrite) (k i : Nat) (r : MWrite) (u : Value), rs[k]? = some r → r.cells[i]? = some u → (writeCells rs)[k * 2 + i]? = some u
  | [], k, i, r, u, h, _ => by simp at h
  | x :: rs, k, i, r, u, h, hu => by
    show (x.cells ++ writeCells rs)[k * 2 + i]? = some u
    have hi : i < 2 := (List.getElem?_eq_some_iff.1 hu).1
    match k, h with
    | 0, h =>
      simp at h; subst h
      rw [List.getElem?_append_left (by simp [MWrite.cells]; omega)]
      simpa using hu
    | k + 1, h =>
      rw [List.getElem?_append_right (by simp [MWrite.cells]; omega)]
      have := writeCells_at rs k i r u (by simpa using h) hu
      rw [← this]
      congr 1
      simp [MWrite.cells]; omega
theorem writeCells_one {rs : List MWrite} : ∀ u ∈ writeCells rs, u.oneCell' = true := by
  intro u hu
  obtain ⟨r, _, h⟩ := List.mem_flatMap.1 hu
  simp [MWrite.cells] at h
  rcases h with rfl | rfl <;> rfl
theorem writeCells_append (a b : List MWrite) : writeCells (a ++ b) = writeCells a ++ writeCells b := by simp [writeCells]

theorem WritesAt.cells {w : World} {B n : Nat} {ad : Addr} {rs : List MWrite} (h : WritesAt w B (some ad) n rs) : ∀ j u, (writeCells rs)[j]? = some u → w.cell? (ad.add j) = some u := by
  intro j u hu
  obtain ⟨k, i, r, rfl, hr, hi, hi3⟩ := writeCells_get rs j u hu
  obtain ⟨b, off, e, _, c0, c1⟩ := h.2 k r hr
  cases e
  rw [addr_add]
  match i, hi3 with
  | 0, _ => simp [MWrite.cells] at hi; subst hi; simpa using c0
  | 1, _ => simp [MWrite.cells] at hi; subst hi; simpa [Nat.add_assoc] using c1
theorem WritesAt.of_cells {w : World} {B n : Nat} {b off : Nat} {rs : List MWrite} (hl : rs.length = n) (hb : b < B) (h : ∀ j u, (writeCells rs)[j]? = some u → w.cell? ⟨b, off + j, none⟩ = some u) : WritesAt w B (some ⟨b, off, none⟩) n rs := by
  refine ⟨hl, fun k r hr => ⟨b, off, rfl, hb, ?_, ?_⟩⟩
  · exact h _ _ (writeCells_at rs k 0 r _ hr rfl)
  · exact h _ _ (writeCells_at rs k 1 r _ hr rfl)
theorem WritesAt.of_own {w : World} {base n c : Nat} {e : TypeId} {A : Option Addr} {rs : List MWrite} (h : w.ownsRow base e 2 (.slice A n c) n (writeCells rs)) : WritesAt w w.heap.size A n rs := by
  have hl : rs.length = n := by have := h.1; rw [writeCells_length] at this; omega
  rcases h.2 with ⟨hv, rfl⟩ | ⟨g, cap, cur, hv, _⟩
  · refine ⟨hl, fun k r hr => ?_⟩
    have := (List.getElem?_eq_some_iff.1 hr).1
    omega
  · injection hv with e1 e2 e3
    subst e1; subst e3
    have hlt := h.lt g rfl
    refine WritesAt.of_cells hl hlt.2 fun j u hu => ?_
    have := h.cells (g := g) rfl j u hu
    rwa [addr_add] at this

/-- Behind a callee that leaves what was there alone: each old cell and each old mark reads as before. -/
theorem bcell {B : Nat} {W w1 : World} (hb : Below B W w1) : (∀ b o, b < B → w1.cell? ⟨b, o, none⟩ = W.cell? ⟨b, o, none⟩) ∧ (∀ b o, b < B → w1.frozen? ⟨b, o, none⟩ = W.frozen? ⟨b, o, none⟩) :=
  ⟨fun b o h => hb.cell (p := ⟨b, o, none⟩) h, fun b o h => hb.frozen (p := ⟨b, o, none⟩) h⟩

/-! ### a callee that changes nothing, met in a region that draws its order -/
theorem quiet_left {P : Program} {f : FuncId} {args : Array Value} {w : World} {n : Nat} {v : Value}
    (h : Calls P f args (w.drewN n) fun e w' => e = .returned v ∧ w.drewN n = w') : Calls P f args (w.drewN n) fun e w' => e = .returned v ∧ ∃ m, w' = w.drewN m :=
  h.mono fun _ _ ⟨he, hm⟩ => ⟨he, n, hm.symm⟩
theorem quiet_add {P : Program} {f : FuncId} {args : Array Value} {w : World} {a n : Nat} {v : Value}
    (h : Calls P f args (w.drewN (a + n)) fun e w' => e = .returned v ∧ w.drewN (a + n) = w') : Calls P f args (w.drewN (a + n)) fun e w' => e = .returned v ∧ ∃ m, w' = w.drewN (a + m) :=
  h.mono fun _ _ ⟨he, hm⟩ => ⟨he, n, hm.symm⟩

/-! ### a block that is known whole -/
theorem blk_new (w : World) (cs : Array Value) (t : TypeId) : (w.alloc (.cells cs t)).heap[w.heap.size]? = some (.cells cs t (0, 0)) := heap_alloc_new w _
theorem blk_old {w : World} {g : Nat} {cs : Array Value} {t : TypeId} (h : w.heap[g]? = some (.cells cs t (0, 0))) (o : Obj) : (w.alloc o).heap[g]? = some (.cells cs t (0, 0)) :=
  (Below.heap_alloc w o g (Array.getElem?_eq_some_iff.1 h).1).trans h
theorem blk_keep {B : Nat} {W w1 : World} {g : Nat} {cs : Array Value} {t : TypeId} (hb : Below B W w1) (h : W.heap[g]? = some (.cells cs t (0, 0))) (hg : g < B) : w1.heap[g]? = some (.cells cs t (0, 0)) := (hb.block g hg).trans h
theorem blk_lt {w : World} {g : Nat} {o : Obj} (h : w.heap[g]? = some o) : g < w.heap.size := (Array.getElem?_eq_some_iff.1 h).1
theorem blk_read {w : World} {g : Nat} {cs : Array Value} {t : TypeId} (h : w.heap[g]? = some (.cells cs t (0, 0))) : (∀ i, w.cell? ⟨g, i, none⟩ = cs[i]?) ∧ (∀ i, w.frozen? ⟨g, i, none⟩ = false) :=
  ⟨fun i => cell_of_row w g i cs t (0, 0) h, fun i => by simp [World.frozen?, h]⟩

theorem ret_int {k : IntKind} {a b : Int} (h : a = b) : Ending.returned (.int k a) = .returned (.int k b) := by rw [h]
theorem ret_bool {a b : Bool} (h : a = b) : Ending.returned (.bool a) = .returned (.bool b) := by rw [h]

/-! ### the first place where p holds -/
def fstIdx {α : Type} (p : α → Bool) (l : List α) : Int := match l.findIdx? p with | some i => (i : Int) | none => -1

theorem fstIdx_hit {α : Type} (p : α → Bool) (l : List α) (k : Nat) (x : α) (hk : l[k]? = some x) (hp : p x = true) (hb : ∀ (j : Nat) (y : α), j < k → l[j]? = some y → p y = false) : fstIdx p l = k := by
  have : l.findIdx? p = some k := by
    obtain ⟨hlt, rfl⟩ := List.getElem?_eq_some_iff.1 hk
    rw [List.findIdx?_eq_some_iff_getElem]
    exact ⟨hlt, hp, fun j hj => by simp [hb j _ hj (List.getElem?_eq_getElem (by omega))]⟩
  simp [fstIdx, this]
theorem fstIdx_miss {α : Type} (p : α → Bool) (l : List α) (hb : ∀ (j : Nat) (y : α), l[j]? = some y → p y = false) : fstIdx p l = -1 := by
  have : l.findIdx? p = none := by
    rw [List.findIdx?_eq_none_iff]
    intro x hx
    obtain ⟨j, hj, rfl⟩ := List.mem_iff_getElem.1 hx
    exact hb j _ (List.getElem?_eq_getElem hj)
  simp [fstIdx, this]
/-- All before k say no; k says no: all before k + 1 say no. -/
theorem none_snoc {α : Type} {p : α → Bool} {l : List α} {k : Nat} {x : α} (hk : l[k]? = some x) (hp : p x = false) (hb : ∀ (j : Nat) (y : α), j < k → l[j]? = some y → p y = false) :
    ∀ (j : Nat) (y : α), j < k + 1 → l[j]? = some y → p y = false := by
  intro j y hj hy
  by_cases h : j = k
  · subst h; rw [hk] at hy; injection hy with hy; subst hy; exact hp
  · exact hb j y (by omega) hy
theorem none_all {α : Type} {p : α → Bool} {l : List α} {k : Nat} (hk : l.length ≤ k) (hb : ∀ (j : Nat) (y : α), j < k → l[j]? = some y → p y = false) :
    ∀ (j : Nat) (y : α), l[j]? = some y → p y = false := by
  intro j y hy
  have := (List.getElem?_eq_some_iff.1 hy).1
  exact hb j y (by omega) hy
theorem any_none {α : Type} {p : α → Bool} {l : List α} (hb : ∀ (j : Nat) (y : α), l[j]? = some y → p y = false) : l.any p = false := by
  rw [List.any_eq_false]
  intro x hx e
  obtain ⟨j, hj, rfl⟩ := List.mem_iff_getElem.1 hx
  rw [hb j _ (List.getElem?_eq_getElem hj)] at e
  cases e
theorem any_hit {α : Type} {p : α → Bool} {l : List α} {k : Nat} {x : α} (hk : l[k]? = some x) (hp : p x = true) : l.any p = true :=
  List.any_eq_true.2 ⟨x, List.mem_of_getElem? hk, hp⟩
theorem fstIdx_nonneg {α : Type} (p : α → Bool) (l : List α) : decide (0 ≤ fstIdx p l) = l.any p := by
  unfold fstIdx
  cases h : l.findIdx? p with
  | none =>
    rw [List.findIdx?_eq_none_iff] at h
    have : l.any p = false := by rw [List.any_eq_false]; intro x hx; simp [h x hx]
    simp [this]
  | some i =>
    rw [List.findIdx?_eq_some_iff_getElem] at h
    obtain ⟨hi, hp, _⟩ := h
    have : l.any p = true := List.any_eq_true.2 ⟨l[i], List.getElem_mem hi, hp⟩
    simp [this]

/-! ### strings against the empty one, as the walk spells it -/
theorem str_some {s : ByteArray} (h : 1 ≤ s.size) : s.toList.isEmpty = false ∧ ¬ s.toList = [] := by
  rw [ByteArray.toList_eq]
  have hl : 1 ≤ s.data.toList.length := by rw [Array.length_toList]; exact h
  cases hd : s.data.toList with
  | nil => rw [hd] at hl; simp at hl
  | cons a l => simp
theorem str_none {s : ByteArray} (h : ¬ 1 ≤ s.size) : s.toList.isEmpty = true ∧ s.toList = [] := by
  rw [ByteArray.toList_eq]
  have hl : ¬ 1 ≤ s.data.toList.length := by rw [Array.length_toList]; exact h
  cases hd : s.data.toList with
  | nil => simp
  | cons a l => rw [hd] at hl; simp at hl
theorem str_eq_empty {s : ByteArray} (h : ¬ 1 ≤ s.size) : s = ⟨#[]⟩ := by
  obtain ⟨d⟩ := s
  have : d.size = 0 := by have h' : ¬ 1 ≤ d.size := h; omega
  rw [Array.size_eq_zero_iff.1 this]
end Go.Proofs.Ytniomgngiiiklab

/- Small laws on blocks that are known whole. No program in sight. -/
namespace Go.Proofs.Ytniomgngiiiklab
open Go.RowKit
section
variable {w w' : World} {g : Nat} {t : TypeId} {cs : Array Value}
theorem blk_set (h : w.heap[g]? = some (.cells cs t (0, 0))) (i : Nat) (u : Value) : (w.setCell ⟨g, i, none⟩ u).heap[g]? = some (.cells (cs.setIfInBounds i u) t (0, 0)) := by
  simp [World.setCell, Array.getElem?_modify, h]
theorem blk_far (h : w.heap[g]? = some (.cells cs t (0, 0))) {p : Addr} (hp : g ≠ p.block) (u : Value) : (w.setCell p u).heap[g]? = some (.cells cs t (0, 0)) := (Below.heap_setCell w p u g hp).trans h
theorem blk_drewN (h : w.heap[g]? = some (.cells cs t (0, 0))) (n : Nat) : (w.drewN n).heap[g]? = some (.cells cs t (0, 0)) := h
theorem blk_grown {row : Option Nat} (h : w.heap[g]? = some (.cells cs t (0, 0))) (hb : w.grownBy w' row) (hg : some g ≠ row) : w'.heap[g]? = some (.cells cs t (0, 0)) := (hb.block g (blk_lt h) hg).trans h
theorem blk_ne {g' : Nat} {t' : TypeId} {cs' : Array Value} (h : w.heap[g]? = some (.cells cs t (0, 0))) (h' : w.heap[g']? = some (.cells cs' t' (0, 0))) (hne : t ≠ t') : g ≠ g' := by
  rintro rfl
  rw [h] at h'
  injection h' with h'
  injection h' with _ ht
  exact hne ht
/-- A row of another element type lies in another block. -/
theorem own_ne {base : Nat} {e : TypeId} {size n : Nat} {v : Value} {xs : List Value} (h : w.ownsRow base e size v n xs) (hg : w.heap[g]? = some (.cells cs t (0, 0))) (hne : e ≠ t) : some g ≠ v.ownBlock := by
  rcases h.2 with ⟨rfl, _⟩ | ⟨g', cap, cur, rfl, _, hh, _⟩
  · simp [Value.ownBlock]
  · intro he
    have e' : g = g' := by simpa [Value.ownBlock] using he
    subst e'
    exact blk_ne hh hg hne rfl
end
theorem blk_new_at (w : World) (cs : Array Value) (t : TypeId) {g : Nat} (hg : g = w.heap.size) : (w.alloc (.cells cs t)).heap[g]? = some (.cells cs t (0, 0)) := by subst hg; exact blk_new w cs t
/-- A store into another block leaves an owned row as it is. -/
theorem own_far {w : World} {base : Nat} {e : TypeId} {size n : Nat} {v : Value} {xs : List Value} {g i : Nat} (h : w.ownsRow base e size v n xs) (hne : some g ≠ v.ownBlock) (u : Value) : (w.setCell ⟨g, i, none⟩ u).ownsRow base e size v n xs := by
  refine ⟨h.1, ?_⟩
  rcases h.2 with h | ⟨g', cap, cur, rfl, hb, hg, r⟩
  · exact .inl h
  · exact .inr ⟨g', cap, cur, rfl, hb, blk_far hg (fun e => hne (by rw [e]; rfl)) u, r⟩
/-- Five stores fill a block of five. -/
theorem blk_row5 {w : World} {g : Nat} {t : TypeId} {a b c d e : Value} (h : w.heap[g]? = some (.cells #[a, b, c, d, e] t (0, 0))) (a' b' c' d' e' : Value) :
    (((((w.setCell ⟨g, 0, none⟩ a').setCell ⟨g, 1, none⟩ b').setCell ⟨g, 2, none⟩ c').setCell ⟨g, 3, none⟩ d').setCell ⟨g, 4, none⟩ e').heap[g]? = some (.cells #[a', b', c', d', e'] t (0, 0)) :=
  blk_set (blk_set (blk_set (blk_set (blk_set h 0 a') 1 b') 2 c') 3 d') 4 e'
theorem blk_row5_far {w : World} {g g' : Nat} {t : TypeId} {cs : Array Value} (h : w.heap[g]? = some (.cells cs t (0, 0))) (hne : g ≠ g') (a' b' c' d' e' : Value) :
    (((((w.setCell ⟨g', 0, none⟩ a').setCell ⟨g', 1, none⟩ b').setCell ⟨g', 2, none⟩ c').setCell ⟨g', 3, none⟩ d').setCell ⟨g', 4, none⟩ e').heap[g]? = some (.cells cs t (0, 0)) :=
  blk_far (blk_far (blk_far (blk_far (blk_far h hne a') hne b') hne c') hne d') hne e'
theorem own_row5_far {w : World} {base : Nat} {e : TypeId} {size n g : Nat} {v : Value} {xs : List Value} (h : w.ownsRow base e size v n xs) (hne : some g ≠ v.ownBlock) (a' b' c' d' e' : Value) :
    (((((w.setCell ⟨g, 0, none⟩ a').setCell ⟨g, 1, none⟩ b').setCell ⟨g, 2, none⟩ c').setCell ⟨g, 3, none⟩ d').setCell ⟨g, 4, none⟩ e').ownsRow base e size v n xs :=
  own_far (own_far (own_far (own_far (own_far h hne a') hne b') hne c') hne d') hne e'
theorem below_row5 {w0 w : World} {B g : Nat} (h : Below B w0 w) (hg : B ≤ g) (a' b' c' d' e' : Value) :
    Below B w0 (((((w.setCell ⟨g, 0, none⟩ a').setCell ⟨g, 1, none⟩ b').setCell ⟨g, 2, none⟩ c').setCell ⟨g, 3, none⟩ d').setCell ⟨g, 4, none⟩ e') :=
  ((((h.setCell (p := ⟨g, 0, none⟩) hg a').setCell (p := ⟨g, 1, none⟩) hg b').setCell (p := ⟨g, 2, none⟩) hg c').setCell (p := ⟨g, 3, none⟩) hg d').setCell (p := ⟨g, 4, none⟩) hg e'
theorem own_slice {w : World} {base : Nat} {e : TypeId} {size n : Nat} {v : Value} {xs : List Value} (h : w.ownsRow base e size v n xs) : ∃ A c, v = .slice A n c := by
  rcases h.2 with ⟨rfl, rfl⟩ | ⟨g, cap, cur, rfl, _⟩
  · exact ⟨none, 0, rfl⟩
  · exact ⟨_, cap, rfl⟩
end Go.Proofs.Ytniomgngiiiklab

/- What is known of blocks, owned rows and old memory, carried over a call and over new blocks: each law takes a fact hidden and gives it back hidden. No program in sight. -/
namespace Go.Proofs.Ytniomgngiiiklab
open Go.RowKit
/-- All that was there is as it was. -/
structure Old (W w1 : World) : Prop where
  size : W.heap.size ≤ w1.heap.size
  block : ∀ g, g < W.heap.size → w1.heap[g]? = W.heap[g]?
section
variable {w W w1 : World} {B B0 g : Nat} {cs : Array Value} {t : TypeId} {o o' o'' o''' : Obj}
theorem old_alloc (W : World) (o : Obj) : Old W (W.alloc o) := ⟨by simp, fun g hg => Below.heap_alloc W o g hg⟩
theorem Old.trans {a b c : World} (h : Old a b) (k : Old b c) : Old a c := ⟨Nat.le_trans h.size k.size, fun g hg => (k.block g (Nat.lt_of_lt_of_le hg h.size)).trans (h.block g hg)⟩
theorem old_below (hb : Below B W w1) (hB : W.heap.size ≤ B) : Old W w1 := ⟨hb.size, fun g hg => hb.block g (Nat.lt_of_lt_of_le hg hB)⟩
theorem old0 (_ : Hid (Below B0 w W)) (hb : Below B W w1) (hB : W.heap.size ≤ B) : Old W w1 := old_below hb hB
theorem old1 (_ : Hid (Below B0 w W)) (hb : Below B (W.alloc o) w1) (hB : W.heap.size ≤ B) : Old W w1 :=
  ⟨by have := hb.size; simp at this; omega, fun g hg => (hb.block g (Nat.lt_of_lt_of_le hg hB)).trans ((old_alloc W o).block g hg)⟩
theorem old2 (_ : Hid (Below B0 w W)) (hb : Below B ((W.alloc o).alloc o') w1) (hB : W.heap.size ≤ B) : Old W w1 :=
  ⟨by have := hb.size; simp at this; omega, fun g hg => (hb.block g (Nat.lt_of_lt_of_le hg hB)).trans (((old_alloc W o).trans (old_alloc _ o')).block g hg)⟩
theorem old3 (_ : Hid (Below B0 w W)) (hb : Below B (((W.alloc o).alloc o').alloc o'') w1) (hB : W.heap.size ≤ B) : Old W w1 :=
  ⟨by have := hb.size; simp at this; omega, fun g hg => (hb.block g (Nat.lt_of_lt_of_le hg hB)).trans ((((old_alloc W o).trans (old_alloc _ o')).trans (old_alloc _ o'')).block g hg)⟩
theorem Old.blk (h : Old W w1) (hg : Hid (W.heap[g]? = some (.cells cs t (0, 0)))) : Hid (w1.heap[g]? = some (.cells cs t (0, 0))) := (h.block g (blk_lt hg.out)).trans hg.out
theorem Old.row {base n size : Nat} {e : TypeId} {v : Value} {xs : List Value} (h : Old W w1) (hr : Hid (W.ownsRow base e size v n xs)) : Hid (w1.ownsRow base e size v n xs) := by
  refine ⟨hr.out.1, ?_⟩
  rcases hr.out.2 with hr | ⟨g', cap, cur, rfl, hbg, hg, r⟩
  · exact .inl hr
  · exact .inr ⟨g', cap, cur, rfl, hbg, (h.block g' (blk_lt hg)).trans hg, r⟩
theorem keepL0 (h : Hid (Below B0 w W)) (hb : Below B W w1) (h0 : B0 ≤ W.heap.size) (hB : W.heap.size ≤ B) : Hid (Below B0 w w1) := h.out.trans (hb.mono (Nat.le_trans h0 hB))
theorem keepL1 (h : Hid (Below B0 w W)) (hb : Below B (W.alloc o) w1) (h0 : B0 ≤ W.heap.size) (hB : W.heap.size ≤ B) : Hid (Below B0 w w1) := (h.out.alloc h0 _).trans (hb.mono (Nat.le_trans h0 hB))
theorem keepL2 (h : Hid (Below B0 w W)) (hb : Below B ((W.alloc o).alloc o') w1) (h0 : B0 ≤ W.heap.size) (hB : W.heap.size ≤ B) : Hid (Below B0 w w1) :=
  ((h.out.alloc h0 _).alloc (by simp; omega) _).trans (hb.mono (Nat.le_trans h0 hB))
theorem keepL3 (h : Hid (Below B0 w W)) (hb : Below B (((W.alloc o).alloc o').alloc o'') w1) (h0 : B0 ≤ W.heap.size) (hB : W.heap.size ≤ B) : Hid (Below B0 w w1) :=
  (((h.out.alloc h0 _).alloc (by simp; omega) _).alloc (by simp; omega) _).trans (hb.mono (Nat.le_trans h0 hB))
/-- Three, four stores into a block that is known whole. -/
theorem below_row5' {w0 w : World} {B g : Nat} (h : Hid (Below B w0 w)) (hg : B ≤ g) (a' b' c' d' e' : Value) :
    Hid (Below B w0 (((((w.setCell ⟨g, 0, none⟩ a').setCell ⟨g, 1, none⟩ b').setCell ⟨g, 2, none⟩ c').setCell ⟨g, 3, none⟩ d').setCell ⟨g, 4, none⟩ e')) := below_row5 h.out hg _ _ _ _ _
end
theorem blk_new2 (w : World) {a b : Array Value} {ta tb : TypeId} : Below w.heap.size w ((w.alloc (.cells a ta)).alloc (.cells b tb)) ∧
    ((w.alloc (.cells a ta)).alloc (.cells b tb)).heap[w.heap.size]? = some (.cells a ta (0, 0)) ∧ ((w.alloc (.cells a ta)).alloc (.cells b tb)).heap[w.heap.size + 1]? = some (.cells b tb (0, 0)) :=
  ⟨((Below.refl _ _).alloc (Nat.le_refl _) _).alloc (by simp) _, blk_old (blk_new w _ _) _, blk_new_at (w.alloc _) _ _ (by simp)⟩
theorem blk_new3 (w : World) {a b c : Array Value} {ta tb tc : TypeId} : Below w.heap.size w (((w.alloc (.cells a ta)).alloc (.cells b tb)).alloc (.cells c tc)) ∧
    (((w.alloc (.cells a ta)).alloc (.cells b tb)).alloc (.cells c tc)).heap[w.heap.size]? = some (.cells a ta (0, 0)) ∧ (((w.alloc (.cells a ta)).alloc (.cells b tb)).alloc (.cells c tc)).heap[w.heap.size + 1]? = some (.cells b tb (0, 0)) ∧
    (((w.alloc (.cells a ta)).alloc (.cells b tb)).alloc (.cells c tc)).heap[w.heap.size + 1 + 1]? = some (.cells c tc (0, 0)) :=
  ⟨(blk_new2 w).1.alloc (by simp; omega) _, blk_old (blk_new2 w).2.1 _, blk_old (blk_new2 w).2.2 _, blk_new_at ((w.alloc _).alloc _) _ _ (by simp)⟩
theorem blk_new4 (w : World) {a b c d : Array Value} {ta tb tc td : TypeId} : Below w.heap.size w ((((w.alloc (.cells a ta)).alloc (.cells b tb)).alloc (.cells c tc)).alloc (.cells d td)) ∧
    ((((w.alloc (.cells a ta)).alloc (.cells b tb)).alloc (.cells c tc)).alloc (.cells d td)).heap[w.heap.size]? = some (.cells a ta (0, 0)) ∧ ((((w.alloc (.cells a ta)).alloc (.cells b tb)).alloc (.cells c tc)).alloc (.cells d td)).heap[w.heap.size + 1]? = some (.cells b tb (0, 0)) ∧
    ((((w.alloc (.cells a ta)).alloc (.cells b tb)).alloc (.cells c tc)).alloc (.cells d td)).heap[w.heap.size + 1 + 1]? = some (.cells c tc (0, 0)) ∧ ((((w.alloc (.cells a ta)).alloc (.cells b tb)).alloc (.cells c tc)).alloc (.cells d td)).heap[w.heap.size + 1 + 1 + 1]? = some (.cells d td (0, 0)) :=
  ⟨(blk_new3 w).1.alloc (by simp; omega) _, blk_old (blk_new3 w).2.1 _, blk_old (blk_new3 w).2.2.1 _, blk_old (blk_new3 w).2.2.2 _, blk_new_at (((w.alloc _).alloc _).alloc _) _ _ (by simp)⟩
/-- An owned row in a world whose old blocks are as they were. -/
theorem own_at {w w' : World} {base n size : Nat} {e : TypeId} {v : Value} {xs : List Value} (h : w.ownsRow base e size v n xs) (hk : ∀ g, g < w.heap.size → w'.heap[g]? = w.heap[g]?) : w'.ownsRow base e size v n xs := by
  refine ⟨h.1, ?_⟩
  rcases h.2 with h | ⟨g', cap, cur, rfl, hbg, hg, r⟩
  · exact .inl h
  · exact .inr ⟨g', cap, cur, rfl, hbg, (hk g' (blk_lt hg)).trans hg, r⟩
theorem rec_news {w : World} {g : Nat} {x : MRec} {t : TypeId} (h : w.heap[g]? = some (.cells #[.int .i64 x.start, .int .i64 x.commit, .string x.value] t (0, 0))) : ∀ j u, x.cells[j]? = some u → w.cell? ((⟨g, 0, none⟩ : Addr).add j) = some u := by
  intro j u hu
  rw [addr_add, (blk_read h).1]
  simpa [MRec.cells] using hu
theorem rec_one (x : MRec) : ∀ u ∈ x.cells, u.oneCell' = true := fun u hu => recCells_one (rs := [x]) u (by simpa [recCells] using hu)
theorem own_old_ne {w : World} {base n size b : Nat} {e : TypeId} {v : Value} {xs : List Value} (h : w.ownsRow base e size v n xs) (hb : b < base) : some b ≠ v.ownBlock := by
  rcases h.2 with ⟨rfl, _⟩ | ⟨g', cap, cur, rfl, hbg, _⟩
  · simp [Value.ownBlock]
  · simp [Value.ownBlock]; omega
theorem cell_grown {w w1 W : World} {base n size b : Nat} {e : TypeId} {v : Value} {xs : List Value} {o : Obj} (ho : w.ownsRow base e size v n xs) (hg : World.grownBy (W.alloc o) w1 v.ownBlock) (hW : W.heap = w.heap) (hb : b < base) (hlt : b < w.heap.size) (i : Nat) : w1.cell? ⟨b, i, none⟩ = w.cell? ⟨b, i, none⟩ := by
  refine World.cell?_of_block (a := ⟨b, i, none⟩) ?_
  refine (hg.block b (by simp; rw [hW]; omega) (own_old_ne ho hb)).trans ?_
  rw [Below.heap_alloc W o b (by rw [hW]; exact hlt), hW]
theorem own_base {w : World} {base n size : Nat} {e : TypeId} {v : Value} {xs : List Value} (h : w.ownsRow base e size v n xs) : ∀ k, v.ownBlock = some k → base ≤ k := by
  intro k hk
  rcases h.2 with ⟨rfl, _⟩ | ⟨g', cap, cur, rfl, hbg, _⟩
  · simp [Value.ownBlock] at hk
  · simp [Value.ownBlock] at hk; omega
end Go.Proofs.Ytniomgngiiiklab

/- The record of a transaction in a list of records. No program in sight. -/
namespace Go.Proofs.Ytniomgngiiiklab

/-- The record of a transaction; none: there is none. -/
def recFind (rs : List MRec) (st : Int) : Option MRec := rs.find? fun x => x.start == st

theorem recFind_hit {rs : List MRec} {st : Int} {k : Nat} {x : MRec} (hx : rs[k]? = some x) (hp : x.start = st) (hb : ∀ (j : Nat) (y : MRec), j < k → rs[j]? = some y → (y.start == st) = false) : recFind rs st = some x := by
  unfold recFind
  rw [List.find?_eq_some_iff_getElem]
  obtain ⟨hlt, rfl⟩ := List.getElem?_eq_some_iff.1 hx
  exact ⟨by simpa using hp, k, hlt, rfl, fun j hj => by simp [hb j _ hj (List.getElem?_eq_getElem (by omega))]⟩
theorem recFind_miss {rs : List MRec} {st : Int} (hb : ∀ (j : Nat) (y : MRec), rs[j]? = some y → (y.start == st) = false) : recFind rs st = none := by
  unfold recFind
  rw [List.find?_eq_none]
  intro x hx
  obtain ⟨j, hj, rfl⟩ := List.mem_iff_getElem.1 hx
  simp [hb j _ (List.getElem?_eq_getElem hj)]
end Go.Proofs.Ytniomgngiiiklab

/- A region that draws its order and only reads, but for calls that make memory: walked once, over every world that has grown. No program in sight. -/
namespace Go.Proofs.Ytniomgngiiiklab
open Go.RowKit
/-- What has grown out of a world: what was there is as it was. -/
structure Grown (v : World) where
  w : World
  below : Below v.heap.size v w
instance (v : World) : Inhabited (Grown v) := ⟨⟨v, Below.refl _ _⟩⟩
theorem grown_cell {v : World} (u : Grown v) {b o : Nat} {x : Value} (hb : b < v.heap.size) (h : v.cell? ⟨b, o, none⟩ = some x) : u.w.cell? ⟨b, o, none⟩ = some x := (u.below.cell (p := ⟨b, o, none⟩) hb).trans h
theorem grown_call {P : Program} {f : FuncId} {args : Array Value} {v : World} {u : Grown v} {r : Value} (h : Calls P f args u.w fun e w' => e = .returned r ∧ Below u.w.heap.size u.w w') :
    Calls P f args u.w fun e w'' => e = .returned r ∧ ∃ u' : Grown v, w'' = u'.w :=
  h.mono fun _ w' ⟨he, hb⟩ => ⟨he, ⟨w', u.below.trans (hb.mono u.below.size)⟩, rfl⟩
theorem grown_same {P : Program} {f : FuncId} {args : Array Value} {v : World} {u : Grown v} {r : Value} (h : Calls P f args u.w fun e w' => e = .returned r ∧ u.w = w') :
    Calls P f args u.w fun e w'' => e = .returned r ∧ ∃ u' : Grown v, w'' = u'.w :=
  h.mono fun _ _ ⟨he, hb⟩ => ⟨he, u, hb.symm⟩
theorem wp_region_grown {P : Program} {id : Nat} {Q : Exit → Act → World → Prop} {a : Act} {w : World} {l : List Oper} (hm : P.follows .mixedOrders = true) (hB : Region.lexB .any l.toArray = true)
    (h : wpQuiet P l.toArray (fun w' => ∃ u : Grown w, w' = u.w) (fun a' => ∀ w', (∃ u : Grown w, w' = u.w) → Q .normal a' w') l a) : (Code.region id l.toArray true).wp P Q a w :=
  wp_region_quiet (C := fun w' => ∃ u : Grown w, w' = u.w) hm hB ⟨⟨w.drew, (Below.refl _ _).drew⟩, rfl⟩ (by simpa using h)
end Go.Proofs.Ytniomgngiiiklab

/- What every law's row of this seat needs besides its walk: two closed facts on the program. -/
namespace Go.Proofs.Ytniomgngiiiklab
theorem own : ownKnob Try.prog.godebug = none := by kernel_rfl
theorem laidOut : laidOutB Try.prog = true := by kernel_rfl
end Go.Proofs.Ytniomgngiiiklab

/- An argument's reading, opened: records, rows, writes, clients and worlds as plain data, with the cells in which they lie. -/
namespace Go.Proofs.Ytniomgngiiiklab
open Go.RowKit Go.ChangeShapes Go.WideShapes Go.Deep
set_option maxRecDepth 100000

/-- A slice value (A, n, c) of records that reads as rs in blocks below B, and takes no more memory than the form lets it. -/
structure RecsOk (w : World) (B : Nat) (A : Option Addr) (n c : Nat) (rs : List MRec) : Prop where
  at_ : RecsAt w B A n rs
  le : n ≤ c
  small : n * 32 ≤ 140737488351232
  nil : A = none → c = 0
structure WritesOk (w : World) (B : Nat) (A : Option Addr) (n c : Nat) (rs : List MWrite) : Prop where
  at_ : WritesAt w B A n rs
  le : n ≤ c
  small : n * 32 ≤ 140737488351232
  nil : A = none → c = 0
  keys : ∀ x ∈ rs, x.key.size ≤ maxLen

def rowCells (r : MRow) (A : Option Addr) (n c : Nat) : List Value := [.string r.key, .int .i64 r.ls, .string r.lp, .string r.value, .slice A n c]
structure RowOk (w : World) (B : Nat) (r : MRow) (A : Option Addr) (n c : Nat) : Prop where
  recs : RecsOk w B A n c r.recs
  key : r.key.size ≤ maxLen
  lp : r.lp.size ≤ maxLen

section
variable {w w' : World} {B C n c : Nat} {A : Option Addr}
theorem RecsOk.below {rs : List MRec} (h : RecsOk w B A n c rs) (hb : Below C w w') (hC : B ≤ C) : RecsOk w' B A n c rs := ⟨h.at_.below hb hC, h.le, h.small, h.nil⟩
theorem RecsOk.alloc {rs : List MRec} (h : RecsOk w B A n c rs) (o : Obj) (hB : B ≤ w.heap.size := by first | exact Nat.le_refl _ | (simp; done) | (simp; omega)) : RecsOk (w.alloc o) B A n c rs := h.below ((Below.refl B w).alloc hB o) (Nat.le_refl _)
theorem RecsOk.more {rs : List MRec} (h : RecsOk w B A n c rs) (hC : B ≤ C) : RecsOk w C A n c rs := ⟨h.at_.more hC, h.le, h.small, h.nil⟩
theorem WritesOk.below {rs : List MWrite} (h : WritesOk w B A n c rs) (hb : Below C w w') (hC : B ≤ C) : WritesOk w' B A n c rs := ⟨h.at_.below hb hC, h.le, h.small, h.nil, h.keys⟩
theorem WritesOk.alloc {rs : List MWrite} (h : WritesOk w B A n c rs) (o : Obj) (hB : B ≤ w.heap.size := by first | exact Nat.le_refl _ | (simp; done) | (simp; omega)) : WritesOk (w.alloc o) B A n c rs := h.below ((Below.refl B w).alloc hB o) (Nat.le_refl _)
theorem WritesOk.more {rs : List MWrite} (h : WritesOk w B A n c rs) (hC : B ≤ C) : WritesOk w C A n c rs := ⟨h.at_.more hC, h.le, h.small, h.nil, h.keys⟩
theorem RowOk.below {r : MRow} (h : RowOk w B r A n c) (hb : Below C w w') (hC : B ≤ C) : RowOk w' B r A n c := ⟨h.recs.below hb hC, h.key, h.lp⟩
theorem RowOk.alloc {r : MRow} (h : RowOk w B r A n c) (o : Obj) (hB : B ≤ w.heap.size := by first | exact Nat.le_refl _ | (simp; done) | (simp; omega)) : RowOk (w.alloc o) B r A n c := h.below ((Below.refl B w).alloc hB o) (Nat.le_refl _)
theorem RowOk.more {r : MRow} (h : RowOk w B r A n c) (hC : B ≤ C) : RowOk w C r A n c := ⟨h.recs.more hC, h.key, h.lp⟩
end

theorem own_more {w : World} {base base' : Nat} {e : TypeId} {size : Nat} {v : Value} {n : Nat} {xs : List Value} (h : w.ownsRow base e size v n xs) (hb : base' ≤ base) : w.ownsRow base' e size v n xs := by
  refine ⟨h.1, ?_⟩
  rcases h.2 with h | ⟨g, cap, cur, hv, hg, r⟩
  · exact .inl h
  · exact .inr ⟨g, cap, cur, hv, by omega, r⟩

theorem cellsOf_rec : Try.prog.cellsOf 55 = 3 := by kernel_rfl
theorem bytesOf_rec : Try.prog.bytesOf 55 = 32 := by kernel_rfl
theorem cellsOf_row : Try.prog.cellsOf 26 = 5 := by kernel_rfl
theorem cellsOf_lock : Try.prog.cellsOf 23 = 2 := by kernel_rfl
theorem one_int : Try.prog.cellsOf 3 = 1 := by kernel_rfl
theorem one_string : Try.prog.cellsOf 9 = 1 := by kernel_rfl
theorem one_recs : Try.prog.cellsOf 24 = 1 := by kernel_rfl
section
variable {H : Type} {enc : TypeId × Value → H} {w : World} {base : Nat} {spare : Nat → Bool} {held : Bool}

/-- One record's cells. -/
theorem open_rec {fuel : Nat} {cs : List Value} {x : DataW H × List MemPlace} (h : DataW.trod enc Try.prog w base spare held fuel 55 cs = some x) :
    ∃ r : MRec, cs = [.int .i64 r.start, .int .i64 r.commit, .string r.value] := by
  obtain ⟨xs, n, _, _, hlen, hxl, hf⟩ := DataW.trod_struct Try.underlying55 h
  rw [cellsOf_rec] at hlen
  match cs, hlen with
  | [c0, c1, c2], _ =>
    match xs, hxl with
    | [y0, y1, y2], _ =>
      have h0 : DataW.trod enc Try.prog w base spare held n 3 [c0] = some y0 := by simpa [one_int] using hf 0 _ rfl
      have h1 : DataW.trod enc Try.prog w base spare held n 3 [c1] = some y1 := by simpa [one_int] using hf 1 _ rfl
      have h2 : DataW.trod enc Try.prog w base spare held n 9 [c2] = some y2 := by simpa [one_string] using hf 2 _ rfl
      obtain ⟨a, e0, _, _⟩ := DataW.trod_int Try.underlying3 h0
      obtain ⟨b, e1, _, _⟩ := DataW.trod_int Try.underlying3 h1
      obtain ⟨s, e2, _, _⟩ := DataW.trod_string Try.underlying9 h2
      simp at e0 e1 e2
      exact ⟨⟨a, b, s⟩, by simp [e0, e1, e2]⟩

/-- A slice of records. -/
theorem open_recs {fuel : Nat} {cs : List Value} {x : DataW H × List MemPlace} (h : DataW.trod enc Try.prog w base spare held fuel 24 cs = some x)
    (hw : ∀ k ∈ x.1.weights Try.prog 24, k ≤ reachBytes) (hsp : ∀ b, spare b = true) :
    ∃ A n c rs, cs = [.slice A n c] ∧ RecsOk w w.heap.size A n c rs := by
  rcases open_slice Try.underlying24 h with ⟨hcs, _⟩ | ⟨a, len, cap, m, n, D, Pl, hcs, hb, hl, hm, hmm, hx, hi⟩
  · exact ⟨none, 0, 0, [], hcs, ⟨⟨rfl, fun k r hr => by simp at hr⟩, Nat.le_refl _, by omega, fun _ => rfl⟩⟩
  · rw [hsp, if_pos rfl] at hmm
    subst hmm
    have hsz : m * 32 ≤ 140737488351232 := by
      have := hw (m * 32) (by
        rw [hx]
        simp only [DataW.weights, Try.underlying24, bytesOf_rec, List.length_map, List.length_range]
        rw [show len + (m - len) = m from by omega]
        exact List.mem_cons_self)
      exact this
    have hrec : ∀ i, i < m → ∃ r : MRec, w.cells? base (a.add (i * 3)) 3 = some [.int .i64 r.start, .int .i64 r.commit, .string r.value] := by
      intro i him
      obtain ⟨cs', hc, ht⟩ := hi i him
      rw [cellsOf_rec] at hc
      obtain ⟨r, rfl⟩ := open_rec ht
      exact ⟨r, hc⟩
    have hex : ∃ rs : List MRec, rs.length = len ∧ ∀ (k : Nat) (r : MRec), rs[k]? = some r → w.cells? base (a.add (k * 3)) 3 = some [.int .i64 r.start, .int .i64 r.commit, .string r.value] := by
      refine ⟨(List.range len).map fun k => if h : k < m then (hrec k h).choose else MRec.zero, by simp, fun k r hr => ?_⟩
      rw [List.getElem?_map] at hr
      by_cases hk : k < len
      · rw [List.getElem?_range hk] at hr
        simp only [Option.map_some, Option.some.injEq] at hr
        rw [dif_pos (show k < m by omega)] at hr
        subst hr
        exact (hrec k (by omega)).choose_spec
      · rw [List.getElem?_eq_none (by simp; omega)] at hr
        cases hr
    obtain ⟨rs, hrl, hrs⟩ := hex
    refine ⟨some a, len, m, rs, hcs, ⟨⟨hrl, fun k r hr => ?_⟩, hl, by omega, fun e => by cases e⟩⟩
    obtain ⟨_, _, hat⟩ := World.cells?_some (hrs k r hr)
    have c0 := hat 0 (by omega)
    have c1 := hat 1 (by omega)
    have c2 := hat 2 (by omega)
    rw [Go.Deep.add_add] at c0 c1 c2
    simp only [List.getElem?_cons_zero, List.getElem?_cons_succ] at c0 c1 c2
    have hspot : a.spot = none := by
      have hk : k < len := by rw [← hrl]; exact (List.getElem?_eq_some_iff.1 hr).1
      obtain ⟨r0, hr0⟩ := hrec 0 (by omega)
      have := (World.cells?_some hr0).2.2 0 (by omega)
      rw [Go.Deep.add_add] at this
      exact World.cell?_spot (a := a) this
    obtain ⟨b, off, spot⟩ := a
    subst hspot
    rw [addr_add] at c0 c1 c2
    exact ⟨b, off, rfl, World.block_lt_of_cell? w _ c0, c0, c1, c2⟩

/-- A row's five cells. -/
theorem open_row {fuel : Nat} {cs : List Value} {x : DataW H × List MemPlace} (h : DataW.trod enc Try.prog w base spare held fuel 26 cs = some x)
    (hw : ∀ k ∈ x.1.weights Try.prog 26, k ≤ reachBytes) (hsp : ∀ b, spare b = true) :
    ∃ r A n c, cs = rowCells r A n c ∧ RowOk w w.heap.size r A n c := by
  obtain ⟨xs, n, _, hx, hlen, hxl, hf⟩ := DataW.trod_struct Try.underlying26 h
  rw [cellsOf_row] at hlen
  match cs, hlen with
  | [c0, c1, c2, c3, c4], _ =>
    match xs, hxl with
    | [y0, y1, y2, y3], _ =>
      have h0 : DataW.trod enc Try.prog w base spare held n 9 [c0] = some y0 := by simpa [one_string] using hf 0 _ rfl
      have h1 : DataW.trod enc Try.prog w base spare held n 23 [c1, c2] = some y1 := by simpa [cellsOf_lock] using hf 1 _ rfl
      have h2 : DataW.trod enc Try.prog w base spare held n 9 [c3] = some y2 := by simpa [one_string] using hf 2 _ rfl
      have h3 : DataW.trod enc Try.prog w base spare held n 24 [c4] = some y3 := by simpa [one_recs] using hf 3 _ rfl
      obtain ⟨key, e0, _, hkey⟩ := DataW.trod_string Try.underlying9 h0
      obtain ⟨val, e2, _, _⟩ := DataW.trod_string Try.underlying9 h2
      obtain ⟨zs, n', _, _, _, hzl, hg⟩ := DataW.trod_struct Try.underlying23 h1
      match zs, hzl with
      | [z0, z1], _ =>
        have g0 : DataW.trod enc Try.prog w base spare held n' 3 [c1] = some z0 := by simpa [one_int] using hg 0 _ rfl
        have g1 : DataW.trod enc Try.prog w base spare held n' 9 [c2] = some z1 := by simpa [one_string] using hg 1 _ rfl
        obtain ⟨ls, e1, _, _⟩ := DataW.trod_int Try.underlying3 g0
        obtain ⟨lp, e1', _, hlp⟩ := DataW.trod_string Try.underlying9 g1
        obtain ⟨A, m, c, rs, e3, hrs⟩ := open_recs h3 (fun k hk => hw k (by
          rw [hx]
          simp only [DataW.weights, Try.underlying26, List.map_cons, List.map_nil, DataW.weightsEach, List.mem_append]
          exact .inr (.inr (.inr (.inl hk))))) hsp
        simp at e0 e1 e1' e2 e3
        exact ⟨⟨key, ls, lp, val, rs⟩, A, m, c, by simp [rowCells, e0, e1, e1', e2, e3], ⟨hrs, hkey, hlp⟩⟩
end

/-- A row among a law's parameters. -/
theorem open_row_arg {H : Type} {enc : TypeId × Value → H} {w : World} {r0 : Reach} {b0 : Nat} {v : Value} {d : DataW H} {p : List MemPlace}
    (hv : Value.okWide Try.prog w r0 b0 26 v) (h : DataW.Trod enc Try.prog w 0 (fun _ => true) true 26 v d p) (hw : ∀ k ∈ d.weights Try.prog 26, k ≤ reachBytes) :
    ∃ r A n c, v = .agg #[.string r.key, .int .i64 r.ls, .string r.lp, .string r.value, .slice A n c] ∧ RowOk w w.heap.size r A n c := by
  obtain ⟨cs, rfl, hsz⟩ := okWide_struct Try.underlying26 hv
  obtain ⟨fuel, hf⟩ := h
  obtain ⟨r, A, n, c, hcs, hok⟩ := open_row hf hw (fun _ => rfl)
  refine ⟨r, A, n, c, ?_, hok⟩
  obtain ⟨l⟩ := cs
  have : l = rowCells r A n c := hcs
  subst this
  rfl

/-- The form's own reach, parameter by parameter. -/
theorem weights_of {H : Type} {P : Program} {ts : List TypeId} {ds : List (DataW H)} (h : (DataW.weightsEach P ts ds).all (· ≤ reachBytes) = true) {j : Nat} {t : TypeId} {d : DataW H} (ht : ts[j]? = some t) (hd : ds[j]? = some d) :
    ∀ k ∈ d.weights P t, k ≤ reachBytes := fun k hk => by simpa using List.all_eq_true.1 h k (DataW.weights_mem_each ht hd k hk)
end Go.Proofs.Ytniomgngiiiklab

/- A slice's reading, element by element. -/
namespace Go.Proofs.Ytniomgngiiiklab
open Go.RowKit Go.ChangeShapes Go.WideShapes Go.Deep
section
variable {H : Type} {enc : TypeId × Value → H} {w : World} {base : Nat}
/-- What a slice's reading gives, element by element, whatever the elements. -/
theorem slice_elems {α : Type} {size : Nat} {P : α → List Value → Prop} {a : Addr} {m : Nat} (h : ∀ i, i < m → ∃ (r : α) (cs : List Value), w.cells? base (a.add (i * size)) size = some cs ∧ P r cs) (hs : 0 < size) (hd : Nonempty α) (len : Nat) (hl : len ≤ m) :
    ∃ rs : List α, rs.length = len ∧ ∀ (k : Nat) (r : α), rs[k]? = some r → ∃ b off cs, a = ⟨b, off, none⟩ ∧ b < w.heap.size ∧ P r cs ∧ cs.length = size ∧ ∀ i u, cs[i]? = some u → w.cell? ⟨b, off + k * size + i, none⟩ = some u := by
  obtain ⟨d⟩ := hd
  refine ⟨(List.range len).map fun k => if h' : k < m then (h k h').choose else d, by simp, fun k r hr => ?_⟩
  rw [List.getElem?_map] at hr
  by_cases hk : k < len
  · rw [List.getElem?_range hk] at hr
    simp only [Option.map_some, Option.some.injEq] at hr
    rw [dif_pos (show k < m by omega)] at hr
    obtain ⟨cs, hc, hP⟩ := (h k (by omega)).choose_spec
    rw [hr] at hP
    obtain ⟨_, hlen, hat⟩ := World.cells?_some hc
    have hspot : a.spot = none := by
      obtain ⟨r0, cs0, hc0, _⟩ := h 0 (by omega)
      have h00 := (World.cells?_some hc0).2.1
      have hsz : 0 < cs0.length := by omega
      have := (World.cells?_some hc0).2.2 0 (by omega)
      rw [Go.Deep.add_add, List.getElem?_eq_getElem hsz, Nat.zero_mul] at this
      exact World.cell?_spot (a := a) this
    obtain ⟨b, off, spot⟩ := a
    subst hspot
    have hcell : ∀ i u, cs[i]? = some u → w.cell? ⟨b, off + k * size + i, none⟩ = some u := fun i u hu => by
      have hi : i < cs.length := (List.getElem?_eq_some_iff.1 hu).1
      have := hat i (by omega)
      rw [Go.Deep.add_add, addr_add, hu] at this
      rw [← this]; congr 2; omega
    have h0 : 0 < cs.length := by omega
    exact ⟨b, off, cs, rfl, World.block_lt_of_cell? w _ (hcell 0 _ (List.getElem?_eq_getElem h0)), hP, by omega, hcell⟩
  · rw [List.getElem?_eq_none (by simp; omega)] at hr
    cases hr

end
end Go.Proofs.Ytniomgngiiiklab
