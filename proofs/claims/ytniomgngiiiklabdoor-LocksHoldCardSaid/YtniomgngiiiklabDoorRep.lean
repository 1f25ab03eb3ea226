/- The plain data of rickyard (records, rows, writes, clients, worlds), and what it means that a value in memory reads as such a datum. No program in sight. -/
import Derived.WalkKit
import Derived.WalkSpells
import Derived.WalkLawsBesides
import Derived.Deep.QuietTactic
import Derived.BigQuiet
import Derived.Lib.Hide
namespace Go.Proofs.YtniomgngiiiklabDoor
open Go.RowKit

structure MRec where
  start : Int
  commit : Int
  value : ByteArray

structure MRow where
  key : ByteArray
  ls : Int
  lp : ByteArray
  value : ByteArray
  recs : List MRec

structure MWrite where
  key : ByteArray
  value : ByteArray

structure MClient where
  phase : Int
  start : Int
  commit : Int
  writes : List MWrite
  at_ : Int

structure MWorld where
  rows : List MRow
  clock : Int
  clients : List MClient

def MRec.zero : MRec := ⟨0, 0, ⟨#[]⟩⟩

def MRec.cells (r : MRec) : List Value := [.int .i64 r.start, .int .i64 r.commit, .string r.value]
def MRec.val (r : MRec) : Value := .agg #[.int .i64 r.start, .int .i64 r.commit, .string r.value]
def recCells (l : List MRec) : List Value := l.flatMap MRec.cells
def MWrite.cells (r : MWrite) : List Value := [.string r.key, .string r.value]
def MWrite.val (r : MWrite) : Value := .agg #[.string r.key, .string r.value]
def writeCells (l : List MWrite) : List Value := l.flatMap MWrite.cells

/-- The slice (A, n) reads as the records rs, in blocks below B. -/
def RecsAt (w : World) (B : Nat) (A : Option Addr) (n : Nat) (rs : List MRec) : Prop :=
  rs.length = n ∧ ∀ (k : Nat) (r : MRec), rs[k]? = some r → ∃ b off, A = some ⟨b, off, none⟩ ∧ b < B ∧
    w.cell? ⟨b, off + k * 3, none⟩ = some (.int .i64 r.start) ∧ w.cell? ⟨b, off + k * 3 + 1, none⟩ = some (.int .i64 r.commit) ∧ w.cell? ⟨b, off + k * 3 + 2, none⟩ = some (.string r.value)

def WritesAt (w : World) (B : Nat) (A : Option Addr) (n : Nat) (rs : List MWrite) : Prop :=
  rs.length = n ∧ ∀ (k : Nat) (r : MWrite), rs[k]? = some r → ∃ b off, A = some ⟨b, off, none⟩ ∧ b < B ∧
    w.cell? ⟨b, off + k * 2, none⟩ = some (.string r.key) ∧ w.cell? ⟨b, off + k * 2 + 1, none⟩ = some (.string r.value)

section
variable {w w' : World} {B B' n : Nat} {A : Option Addr}

theorem RecsAt.keep {rs : List MRec} (h : RecsAt w B A n rs) (hk : ∀ p : Addr, p.block < B → w'.cell? p = w.cell? p) : RecsAt w' B A n rs :=
  ⟨h.1, fun k r hr => by
    obtain ⟨b, off, hA, hb, h1, h2, h3⟩ := h.2 k r hr
    exact ⟨b, off, hA, hb, (hk _ hb).trans h1, (hk _ hb).trans h2, (hk _ hb).trans h3⟩⟩
theorem RecsAt.below {rs : List MRec} (h : RecsAt w B A n rs) {C : Nat} (hb : Below C w w') (hC : B ≤ C) : RecsAt w' B A n rs := h.keep fun _ hp => (hb.mono hC).cell hp
theorem RecsAt.more {rs : List MRec} (h : RecsAt w B A n rs) (hB : B ≤ B') : RecsAt w B' A n rs :=
  ⟨h.1, fun k r hr => by
    obtain ⟨b, off, hA, hb, hc⟩ := h.2 k r hr
    exact ⟨b, off, hA, by omega, hc⟩⟩
theorem RecsAt.at_ {rs : List MRec} (h : RecsAt w B A n rs) {k : Nat} (hk : k < n) : ∃ r b off, rs[k]? = some r ∧ A = some ⟨b, off, none⟩ ∧ b < B ∧
    w.cell? ⟨b, off + k * 3, none⟩ = some (.int .i64 r.start) ∧ w.cell? ⟨b, off + k * 3 + 1, none⟩ = some (.int .i64 r.commit) ∧ w.cell? ⟨b, off + k * 3 + 2, none⟩ = some (.string r.value) := by
  have hl : k < rs.length := by have := h.1; omega
  obtain ⟨b, off, hc⟩ := h.2 k rs[k] (List.getElem?_eq_getElem hl)
  exact ⟨rs[k], b, off, List.getElem?_eq_getElem hl, hc⟩
theorem WritesAt.keep {rs : List MWrite} (h : WritesAt w B A n rs) (hk : ∀ p : Addr, p.block < B → w'.cell? p = w.cell? p) : WritesAt w' B A n rs :=
  ⟨h.1, fun k r hr => by
    obtain ⟨b, off, hA, hb, h1, h2⟩ := h.2 k r hr
    exact ⟨b, off, hA, hb, (hk _ hb).trans h1, (hk _ hb).trans h2⟩⟩
theorem WritesAt.below {rs : List MWrite} (h : WritesAt w B A n rs) {C : Nat} (hb : Below C w w') (hC : B ≤ C) : WritesAt w' B A n rs := h.keep fun _ hp => (hb.mono hC).cell hp
theorem WritesAt.more {rs : List MWrite} (h : WritesAt w B A n rs) (hB : B ≤ B') : WritesAt w B' A n rs :=
  ⟨h.1, fun k r hr => by
    obtain ⟨b, off, hA, hb, hc⟩ := h.2 k r hr
    exact ⟨b, off, hA, by omega, hc⟩⟩
theorem WritesAt.at_ {rs : List MWrite} (h : WritesAt w B A n rs) {k : Nat} (hk : k < n) : ∃ r b off, rs[k]? = some r ∧ A = some ⟨b, off, none⟩ ∧ b < B ∧
    w.cell? ⟨b, off + k * 2, none⟩ = some (.string r.key) ∧ w.cell? ⟨b, off + k * 2 + 1, none⟩ = some (.string r.value) := by
  have hl : k < rs.length := by have := h.1; omega
  obtain ⟨b, off, hc⟩ := h.2 k rs[k] (List.getElem?_eq_getElem hl)
  exact ⟨rs[k], b, off, List.getElem?_eq_getElem hl, hc⟩
end

theorem addr_add (b off k : Nat) : (⟨b, off, none⟩ : Addr).add k = ⟨b, off + k, none⟩ := by
  unfold Addr.add
  split
  · rename_i h; subst h; rfl
  · rfl

/-! ### the cells of a list of records, of writes -/
theorem recCells_length (rs : List MRec) : (recCells rs).length = rs.length * 3 := by
  induction rs with
  | nil => rfl
  | cons r rs ih =>
    show (r.cells ++ recCells rs).length = _
    rw [List.length_append, ih]
    simp [MRec.cells]; omega
theorem recCells_get : ∀ (rs : List MRec) (j : Nat) (u : Value), (recCells rs)[j]? = some u → ∃ k i r, j = k * 3 + i ∧ rs[k]? = some r ∧ r.cells[i]? = some u ∧ i < 3
  | [], j, u, h => by simp [recCells] at h
  | r :: rs, j, u, h => by
    have h' : (r.cells ++ recCells rs)[j]? = some u := h
    by_cases hj : j < 3
    · rw [List.getElem?_append_left (by simpa [MRec.cells] using hj)] at h'
      exact ⟨0, j, r, by omega, rfl, h', hj⟩
    · rw [List.getElem?_append_right (by simp [MRec.cells]; omega)] at h'
      obtain ⟨k, i, r', e, h1, h2, h3⟩ := recCells_get rs _ u h'
      exact ⟨k + 1, i, r', by simp [MRec.cells] at e; omega, by simpa using h1, h2, h3⟩
theorem recCells_at : ∀ (rs : List MRec) (k i : Nat) (r : MRec) (u : Value), rs[k]? = some r → r.cells[i]? = some u → (recCells rs)[k * 3 + i]? = some u
  | [], k, i, r, u, h, _ => by simp at h
  | x :: rs, k, i, r, u, h, hu => by
    show (x.cells ++ recCells rs)[k * 3 + i]? = some u
    have hi : i < 3 := (List.getElem?_eq_some_iff.1 hu).1
    match k, h with
    | 0, h =>
      simp at h; subst h
      rw [List.getElem?_append_left (by simp [MRec.cells]; omega)]
      simpa using hu
    | k + 1, h =>
      rw [List.getElem?_append_right (by simp [MRec.cells]; omega)]
      have := recCells_at rs k i r u (by simpa using h) hu
      rw [← this]
      congr 1
      simp [MRec.cells]; omega
theorem recCells_one {rs : List MRec} : ∀ u ∈ recCells rs, u.oneCell' = true := by
  intro u hu
  obtain ⟨r, _, h⟩ := List.mem_flatMap.1 hu
  simp [MRec.cells] at h
  rcases h with rfl | rfl | rfl <;> rfl
theorem recCells_append (a b : List MRec) : recCells (a ++ b) = recCells a ++ recCells b := by simp [recCells]

theorem RecsAt.cells {w : World} {B n : Nat} {ad : Addr} {rs : List MRec} (h : RecsAt w B (some ad) n rs) : ∀ j u, (recCells rs)[j]? = some u → w.cell? (ad.add j) = some u := by
  intro j u hu
  obtain ⟨k, i, r, rfl, hr, hi, hi3⟩ := recCells_get rs j u hu
  obtain ⟨b, off, e, _, c0, c1, c2⟩ := h.2 k r hr
  cases e
  rw [addr_add]
  match i, hi3 with
  | 0, _ => simp [MRec.cells] at hi; subst hi; simpa using c0
  | 1, _ => simp [MRec.cells] at hi; subst hi; simpa [Nat.add_assoc] using c1
  | 2, _ => simp [MRec.cells] at hi; subst hi; simpa [Nat.add_assoc] using c2
theorem RecsAt.of_cells {w : World} {B n : Nat} {b off : Nat} {rs : List MRec} (hl : rs.length = n) (hb : b < B) (h : ∀ j u, (recCells rs)[j]? = some u → w.cell? ⟨b, off + j, none⟩ = some u) : RecsAt w B (some ⟨b, off, none⟩) n rs := by
  refine ⟨hl, fun k r hr => ⟨b, off, rfl, hb, ?_, ?_, ?_⟩⟩
  · exact h _ _ (recCells_at rs k 0 r _ hr rfl)
  · exact h _ _ (recCells_at rs k 1 r _ hr rfl)
  · exact h _ _ (recCells_at rs k 2 r _ hr rfl)
theorem RecsAt.of_own {w : World} {base n c : Nat} {e : TypeId} {A : Option Addr} {rs : List MRec} (h : w.ownsRow base e 3 (.slice A n c) n (recCells rs)) : RecsAt w w.heap.size A n rs := by
  have hl : rs.length = n := by have := h.1; rw [recCells_length] at this; omega
  rcases h.2 with ⟨hv, rfl⟩ | ⟨g, cap, cur, hv, _⟩
  · refine ⟨hl, fun k r hr => ?_⟩
    have := (List.getElem?_eq_some_iff.1 hr).1
    omega
  · injection hv with e1 e2 e3
    subst e1; subst e3
    have hlt := h.lt g rfl
    refine RecsAt.of_cells hl hlt.2 fun j u hu => ?_
    have := h.cells (g := g) rfl j u hu
    rwa [addr_add] at this

theorem writeCells_length (rs : List MWrite) : (writeCells rs).length = rs.length * 2 := by
  induction rs with
  | nil => rfl
  | cons r rs ih =>
    show (r.cells ++ writeCells rs).length = _
    rw [List.length_append, ih]
    simp [MWrite.cells]; omega
theorem writeCells_get : ∀ (rs : List MWrite) (j : Nat) (u : Value), (writeCells rs)[j]? = some u → ∃ k i r, j = k * 2 + i ∧ rs[k]? = some r ∧ r.cells[i]? = some u ∧ i < 2
  | [], j, u, h => by simp [writeCells] at h
  | r :: rs, j, u, h => by
    have h' : (r.cells ++ writeCells rs)[j]? = some u := h
    by_cases hj : j < 2
    · rw [List.getElem?_append_left (by simpa [MWrite.cells] using hj)] at h'
      exact ⟨0, j, r, by omega, rfl, h', hj⟩
    · rw [List.getElem?_append_right (by simp [MWrite.cells]; omega)] at h'
      obtain ⟨k, i, r', e, h1, h2, h3⟩ := writeCells_get rs _ u h'
      exact ⟨k + 1, i, r', by simp [MWrite.cells] at e; omega, by simpa using h1, h2, h3⟩
theorem writeCells_at : ∀ (rs : List MWrite) (k i : Nat) (r : MWrite) (u : Value), rs[k]? = some r → r.cells[i]? = some u → (writeCells rs)[k * 2 + i]? = some u
  | [], k, i, r, u, h, _ => by simp at h
  | x :: rs, k, i, r, u, h, hu => by
    show (x.cells ++ writeCells rs)[k * 2 + i]? = some u
    have hi : i < 2 := (List.getElem?_eq_some_iff.1 hu).1
    match k, h with
    | 0, h =>
      simp at h; subst h
      rw [List.getElem?_append_left (by simp [MWrite.cells]; omega)]
      simpa using hu
    | k + 1, h =>
      rw [List.getElem?_append_right (by simp [MWrite.cells]; omega)]
      have := writeCells_at rs k i r u (by simpa using h) hu
      rw [← this]
      congr 1
      simp [MWrite.cells]; omega
theorem writeCells_one {rs : List MWrite} : ∀ u ∈ writeCells rs, u.oneCell' = true := by
  intro u hu
  obtain ⟨r, _, h⟩ := List.mem_flatMap.1 hu
  simp [MWrite.cells] at h
  rcases h with rfl | rfl <;> rfl
theorem writeCells_append (a b : List MWrite) : writeCells (a ++ b) = writeCells a ++ writeCells b := by simp [writeCells]

theorem WritesAt.cells {w : World} {B n : Nat} {ad : Addr} {rs : List MWrite} (h : WritesAt w B (some ad) n rs) : ∀ j u, (writeCells rs)[j]? = some u → w.cell? (ad.add j) = some u := by
  intro j u hu
  obtain ⟨k, i, r, rfl, hr, hi, hi3⟩ := writeCells_get rs j u hu
  obtain ⟨b, off, e, _, c0, c1⟩ := h.2 k r hr
  cases e
  rw [addr_add]
  match i, hi3 with
  | 0, _ => simp [MWrite.cells] at hi; subst hi; simpa using c0
  | 1, _ => simp [MWrite.cells] at hi; subst hi; simpa [Nat.add_assoc] using c1
theorem WritesAt.of_cells {w : World} {B n : Nat} {b off : Nat} {rs : List MWrite} (hl : rs.length = n) (hb : b < B) (h : ∀ j u, (writeCells rs)[j]? = some u → w.cell? ⟨b, off + j, none⟩ = some u) : WritesAt w B (some ⟨b, off, none⟩) n rs := by
  refine ⟨hl, fun k r hr => ⟨b, off, rfl, hb, ?_, ?_⟩⟩
  · exact h _ _ (writeCells_at rs k 0 r _ hr rfl)
  · exact h _ _ (writeCells_at rs k 1 r _ hr rfl)
theorem WritesAt.of_own {w : World} {base n c : Nat} {e : TypeId} {A : Option Addr} {rs : List MWrite} (h : w.ownsRow base e 2 (.slice A n c) n (writeCells rs)) : WritesAt w w.heap.size A n rs := by
  have hl : rs.length = n := by have := h.1; rw [writeCells_length] at this; omega
  rcases h.2 with ⟨hv, rfl⟩ | ⟨g, cap, cur, hv, _⟩
  · refine ⟨hl, fun k r hr => ?_⟩
    have := (List.getElem?_eq_some_iff.1 hr).1
    omega
  · injection hv with e1 e2 e3
    subst e1; subst e3
    have hlt := h.lt g rfl
    refine WritesAt.of_cells hl hlt.2 fun j u hu => ?_
    have := h.cells (g := g) rfl j u hu
    rwa [addr_add] at this

/-- Behind a callee that leaves what was there alone: each old cell and each old mark reads as before. -/
theorem bcell {B : Nat} {W w1 : World} (hb : Below B W w1) : (∀ b o, b < B → w1.cell? ⟨b, o, none⟩ = W.cell? ⟨b, o, none⟩) ∧ (∀ b o, b < B → w1.frozen? ⟨b, o, none⟩ = W.frozen? ⟨b, o, none⟩) :=
  ⟨fun b o h => hb.cell (p := ⟨b, o, none⟩) h, fun b o h => hb.frozen (p := ⟨b, o, none⟩) h⟩

/-! ### a callee that changes nothing, met in a region that draws its order -/
theorem quiet_left {P : Program} {f : FuncId} {args : Array Value} {w : World} {n : Nat} {v : Value}
    (h : Calls P f args (w.drewN n) fun e w' => e = .returned v ∧ w.drewN n = w') : Calls P f args (w.drewN n) fun e w' => e = .returned v ∧ ∃ m, w' = w.drewN m :=
  h.mono fun _ _ ⟨he, hm⟩ => ⟨he, n, hm.symm⟩
theorem quiet_add {P : Program} {f : FuncId} {args : Array Value} {w : World} {a n : Nat} {v : Value}
    (h : Calls P f args (w.drewN (a + n)) fun e w' => e = .returned v ∧ w.drewN (a + n) = w') : Calls P f args (w.drewN (a + n)) fun e w' => e = .returned v ∧ ∃ m, w' = w.drewN (a + m) :=
  h.mono fun _ _ ⟨he, hm⟩ => ⟨he, n, hm.symm⟩

/-! ### a block that is known whole -/
theorem blk_new (w : World) (cs : Array Value) (t : TypeId) : (w.alloc (.cells cs t)).heap[w.heap.size]? = some (.cells cs t (0, 0)) := heap_alloc_new w _
theorem blk_old {w : World} {g : Nat} {cs : Array Value} {t : TypeId} (h : w.heap[g]? = some (.cells cs t (0, 0))) (o : Obj) : (w.alloc o).heap[g]? = some (.cells cs t (0, 0)) :=
  (Below.heap_alloc w o g (Array.getElem?_eq_some_iff.1 h).1).trans h
theorem blk_keep {B : Nat} {W w1 : World} {g : Nat} {cs : Array Value} {t : TypeId} (hb : Below B W w1) (h : W.heap[g]? = some (.cells cs t (0, 0))) (hg : g < B) : w1.heap[g]? = some (.cells cs t (0, 0)) := (hb.block g hg).trans h
theorem blk_lt {w : World} {g : Nat} {o : Obj} (h : w.heap[g]? = some o) : g < w.heap.size := (Array.getElem?_eq_some_iff.1 h).1
theorem blk_read {w : World} {g : Nat} {cs : Array Value} {t : TypeId} (h : w.heap[g]? = some (.cells cs t (0, 0))) : (∀ i, w.cell? ⟨g, i, none⟩ = cs[i]?) ∧ (∀ i, w.frozen? ⟨g, i, none⟩ = false) :=
  ⟨fun i => cell_of_row w g i cs t (0, 0) h, fun i => by simp [World.frozen?, h]⟩

theorem ret_int {k : IntKind} {a b : Int} (h : a = b) : Ending.returned (.int k a) = .returned (.int k b) := by rw [h]
theorem ret_bool {a b : Bool} (h : a = b) : Ending.returned (.bool a) = .returned (.bool b) := by rw [h]

/-! ### the first place where p holds -/
def fstIdx {α : Type} (p : α → Bool) (l : List α) : Int := match l.findIdx? p with | some i => (i : Int) | none => -1

theorem fstIdx_hit {α : Type} (p : α → Bool) (l : List α) (k : Nat) (x : α) (hk : l[k]? = some x) (hp : p x = true) (hb : ∀ (j : Nat) (y : α), j < k → l[j]? = some y → p y = false) : fstIdx p l = k := by
  have : l.findIdx? p = some k := by
    obtain ⟨hlt, rfl⟩ := List.getElem?_eq_some_iff.1 hk
    rw [List.findIdx?_eq_some_iff_getElem]
    exact ⟨hlt, hp, fun j hj => by simp [hb j _ hj (List.getElem?_eq_getElem (by omega))]⟩
  simp [fstIdx, this]
theorem fstIdx_miss {α : Type} (p : α → Bool) (l : List α) (hb : ∀ (j : Nat) (y : α), l[j]? = some y → p y = false) : fstIdx p l = -1 := by
  have : l.findIdx? p = none := by
    rw [List.findIdx?_eq_none_iff]
    intro x hx
    obtain ⟨j, hj, rfl⟩ := List.mem_iff_getElem.1 hx
    exact hb j _ (List.getElem?_eq_getElem hj)
  simp [fstIdx, this]
/-- All before k say no; k says no: all before k + 1 say no. -/
theorem none_snoc {α : Type} {p : α → Bool} {l : List α} {k : Nat} {x : α} (hk : l[k]? = some x) (hp : p x = false) (hb : ∀ (j : Nat) (y : α), j < k → l[j]? = some y → p y = false) :
    ∀ (j : Nat) (y : α), j < k + 1 → l[j]? = some y → p y = false := by
  intro j y hj hy
  by_cases h : j = k
  · subst h; rw [hk] at hy; injection hy with hy; subst hy; exact hp
  · exact hb j y (by omega) hy
theorem none_all {α : Type} {p : α → Bool} {l : List α} {k : Nat} (hk : l.length ≤ k) (hb : ∀ (j : Nat) (y : α), j < k → l[j]? = some y → p y = false) :
    ∀ (j : Nat) (y : α), l[j]? = some y → p y = false := by
  intro j y hy
  have := (List.getElem?_eq_some_iff.1 hy).1
  exact hb j y (by omega) hy
theorem any_none {α : Type} {p : α → Bool} {l : List α} (hb : ∀ (j : Nat) (y : α), l[j]? = some y → p y = false) : l.any p = false := by
  rw [List.any_eq_false]
  intro x hx e
  obtain ⟨j, hj, rfl⟩ := List.mem_iff_getElem.1 hx
  rw [hb j _ (List.getElem?_eq_getElem hj)] at e
  cases e
theorem any_hit {α : Type} {p : α → Bool} {l : List α} {k : Nat} {x : α} (hk : l[k]? = some x) (hp : p x = true) : l.any p = true :=
  List.any_eq_true.2 ⟨x, List.mem_of_getElem? hk, hp⟩
theorem fstIdx_nonneg {α : Type} (p : α → Bool) (l : List α) : decide (0 ≤ fstIdx p l) = l.any p := by
  unfold fstIdx
  cases h : l.findIdx? p with
  | none =>
    rw [List.findIdx?_eq_none_iff] at h
    have : l.any p = false := by rw [List.any_eq_false]; intro x hx; simp [h x hx]
    simp [this]
  | some i =>
    rw [List.findIdx?_eq_some_iff_getElem] at h
    obtain ⟨hi, hp, _⟩ := h
    have : l.any p = true := List.any_eq_true.2 ⟨l[i], List.getElem_mem hi, hp⟩
    simp [this]

/-! ### strings against the empty one, as the walk spells it -/
theorem str_some {s : ByteArray} (h : 1 ≤ s.size) : s.toList.isEmpty = false ∧ ¬ s.toList = [] := by
  rw [ByteArray.toList_eq]
  have hl : 1 ≤ s.data.toList.length := by rw [Array.length_toList]; exact h
  cases hd : s.data.toList with
  | nil => rw [hd] at hl; simp at hl
  | cons a l => simp
theorem str_none {s : ByteArray} (h : ¬ 1 ≤ s.size) : s.toList.isEmpty = true ∧ s.toList = [] := by
  rw [ByteArray.toList_eq]
  have hl : ¬ 1 ≤ s.data.toList.length := by rw [Array.length_toList]; exact h
  cases hd : s.data.toList with
  | nil => simp
  | cons a l => rw [hd] at hl; simp at hl
theorem str_eq_empty {s : ByteArray} (h : ¬ 1 ≤ s.size) : s = ⟨#[]⟩ := by
  obtain ⟨d⟩ := s
  have : d.size = 0 := by have h' : ¬ 1 ≤ d.size := h; omega
  rw [Array.size_eq_zero_iff.1 this]
end Go.Proofs.YtniomgngiiiklabDoor
