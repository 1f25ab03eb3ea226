/- Deals and tracks in memory, each with its map. No walk. -/
import Derived.Test.YtniomgngiiiklaaDoorAnsOk
import Derived.Test.YtniomgngiiiklaaDoorFine
import Derived.Test.YtniomgngiiiklaaDoorSite
namespace Go.Proofs.YtniomgngiiiklaaDoor
open Go.RowKit Go.Maps

theorem law_str : Keyed Tryd.prog 9 := string_keyed Tryd.underlying9
/-- Block b is a map of at most N entries that tells what the writes tell. -/
def MapReads (N : Nat) (w : World) (b : Nat) (ws : List MWrite) : Prop := ∃ (n : Nat) (D : DataW Unit), w.ownsMap Tryd.prog 9 (plainElem Tryd.prog 9) b n D ∧ n ≤ N ∧ Tells D ws
section
variable {N : Nat} {w w' : World} {b base : Nat} {ws : List MWrite}
theorem MapReads.keep (h : MapReads N w b ws) (hk : w'.heap[b]? = w.heap[b]?) : MapReads N w' b ws := by
  obtain ⟨n, D, ⟨es, clock, hb, r⟩, hn, ht⟩ := h
  exact ⟨n, D, ⟨es, clock, hk.trans hb, r⟩, hn, ht⟩
theorem MapReads.wide (h : MapReads N w b ws) {N' : Nat} (hN : N ≤ N') : MapReads N' w b ws := by
  obtain ⟨n, D, ho, hn, ht⟩ := h
  exact ⟨n, D, ho, Nat.le_trans hn hN, ht⟩
theorem MapReads.blk (h : MapReads N w b ws) : ∃ es clock, w.heap[b]? = some (Obj.map es clock) := by
  obtain ⟨n, D, ⟨es, clock, hb, r⟩, hn, ht⟩ := h
  exact ⟨es, clock, hb⟩
theorem MapReads.lt (h : MapReads N w b ws) : b < w.heap.size := by
  obtain ⟨n, D, h, _⟩ := h
  exact h.lt
/-- No block of cells is a map's block. -/
theorem MapReads.ne (h : MapReads N w b ws) {g : Nat} {cs : Array Value} {t : TypeId} (hg : w.heap[g]? = some (.cells cs t (0, 0))) : b ≠ g := by
  rintro rfl
  obtain ⟨es, clock, hb⟩ := h.blk
  rw [hb] at hg; cases hg
theorem MapReads.ne_own (h : MapReads N w b ws) {n size : Nat} {e : TypeId} {v : Value} {xs : List Value} (ho : w.ownsRow base e size v n xs) : some b ≠ v.ownBlock := by
  rcases ho.2 with ⟨rfl, _⟩ | ⟨g', cap, cur, rfl, hbg, hg, _⟩
  · simp [Value.ownBlock]
  · intro e
    simp only [Value.ownBlock, Option.some.injEq] at e
    exact h.ne hg e
theorem MapReads.alloc (h : MapReads N w b ws) (o : Obj) : MapReads N (w.alloc o) b ws := h.keep (Below.heap_alloc _ _ b h.lt)
theorem MapReads.set (h : MapReads N w b ws) {g i : Nat} {cs : Array Value} {t : TypeId} (hg : w.heap[g]? = some (.cells cs t (0, 0))) (u : Value) : MapReads N (w.setCell ⟨g, i, none⟩ u) b ws := h.keep (Below.heap_setCell _ _ _ _ (h.ne hg))
theorem MapReads.grown {row : Option Nat} (h : MapReads N w b ws) (hg : w.grownBy w' row) (hne : some b ≠ row) : MapReads N w' b ws := h.keep (hg.block b h.lt hne)
theorem mapReads_made (w : World) : MapReads N (w.alloc (.map #[] 0)) w.heap.size [] := ⟨0, .map [], World.ownsMap_made w _ _ _, Nat.zero_le _, tells_nil⟩
end

structure DealM where
  d : Deal
  act : Nat
  m : Nat
def DealM.cells (x : DealM) : List Value := [.int .i64 x.d.start, .int .i64 x.d.commit, .int .i64 x.act, .map (some x.m)]
structure TrackM where
  t : MTrack
  m : Option Nat
def TrackM.cells (x : TrackM) : List Value := [.int .i64 x.t.phase, .int .i64 x.t.start, .int .i64 x.t.commit, .map x.m]
theorem dealM_one {l : List DealM} : ∀ u ∈ l.flatMap DealM.cells, u.oneCell' = true := flat_one fun x u hu => by
  simp [DealM.cells] at hu; rcases hu with rfl | rfl | rfl | rfl <;> rfl
theorem trackM_one {l : List TrackM} : ∀ u ∈ l.flatMap TrackM.cells, u.oneCell' = true := flat_one fun x u hu => by
  simp [TrackM.cells] at hu; rcases hu with rfl | rfl | rfl | rfl <;> rfl
def pairOf (x : DealM) : Deal × Nat := (x.d, x.act)
/-- The slice (A, n) reads as deals, their maps too. -/
structure DealsOk (w : World) (B : Nat) (A : Option Addr) (n : Nat) (l : List DealM) : Prop where
  cells : Reads DealM.cells 4 w B A n l
  maps : ∀ x ∈ l, x.m < B ∧ MapReads 400 w x.m x.d.writes
/-- The slice (A, n) reads as tracks, each with a map. -/
structure SeenOk (w : World) (B : Nat) (A : Option Addr) (n : Nat) (l : List TrackM) : Prop where
  cells : Reads TrackM.cells 4 w B A n l
  maps : ∀ x ∈ l, ∃ b, x.m = some b ∧ b < B ∧ MapReads 400 w b x.t.writes
section
variable {w w' : World} {B C n : Nat} {A : Option Addr}
theorem DealsOk.keep {l : List DealM} (h : DealsOk w B A n l) (hk : ∀ g, g < B → w'.heap[g]? = w.heap[g]?) (hC : B ≤ C) : DealsOk w' C A n l :=
  ⟨h.cells.keep hk hC, fun x hx => ⟨Nat.lt_of_lt_of_le (h.maps x hx).1 hC, (h.maps x hx).2.keep (hk _ (h.maps x hx).1)⟩⟩
theorem SeenOk.keep {l : List TrackM} (h : SeenOk w B A n l) (hk : ∀ g, g < B → w'.heap[g]? = w.heap[g]?) (hC : B ≤ C) : SeenOk w' C A n l :=
  ⟨h.cells.keep hk hC, fun x hx => by
    obtain ⟨b, e, hlt, hm⟩ := h.maps x hx
    exact ⟨b, e, Nat.lt_of_lt_of_le hlt hC, hm.keep (hk _ hlt)⟩⟩
theorem DealsOk.below {l : List DealM} (h : DealsOk w B A n l) (hb : Below C w w') (hC : B ≤ C) : DealsOk w' B A n l := h.keep (fun g hg => hb.block g (Nat.lt_of_lt_of_le hg hC)) (Nat.le_refl _)
theorem SeenOk.below {l : List TrackM} (h : SeenOk w B A n l) (hb : Below C w w') (hC : B ≤ C) : SeenOk w' B A n l := h.keep (fun g hg => hb.block g (Nat.lt_of_lt_of_le hg hC)) (Nat.le_refl _)
theorem DealsOk.more {l : List DealM} (h : DealsOk w B A n l) (hC : B ≤ C) : DealsOk w C A n l := h.keep (fun _ _ => rfl) hC
theorem SeenOk.more {l : List TrackM} (h : SeenOk w B A n l) (hC : B ≤ C) : SeenOk w C A n l := h.keep (fun _ _ => rfl) hC
theorem DealsOk.take {l : List DealM} (h : DealsOk w B A n l) {m : Nat} (hm : m ≤ n) : DealsOk w B A m (l.take m) := ⟨h.cells.take hm, fun x hx => h.maps x (List.mem_of_mem_take hx)⟩
theorem DealsOk.deal {l : List DealM} (h : DealsOk w B A n l) {k : Nat} (hk : k < n) : ∃ x b off, l[k]? = some x ∧ A = some ⟨b, off, none⟩ ∧ b < B ∧ w.cell? ⟨b, off + k * 4, none⟩ = some (.int .i64 x.d.start) ∧ w.cell? ⟨b, off + k * 4 + 1, none⟩ = some (.int .i64 x.d.commit) ∧
    w.cell? ⟨b, off + k * 4 + 2, none⟩ = some (.int .i64 x.act) ∧ w.cell? ⟨b, off + k * 4 + 3, none⟩ = some (.map (some x.m)) ∧ x.m < B ∧ MapReads 400 w x.m x.d.writes := by
  obtain ⟨x, b, off, h1, h2, h3, hc⟩ := h.cells.get hk
  obtain ⟨m1, m2⟩ := h.maps x (List.mem_of_getElem? h1)
  exact ⟨x, b, off, h1, h2, h3, by simpa using hc 0 _ rfl, hc 1 _ rfl, hc 2 _ rfl, hc 3 _ rfl, m1, m2⟩
theorem SeenOk.track {l : List TrackM} (h : SeenOk w B A n l) {k : Nat} (hk : k < n) : ∃ x b off m, l[k]? = some x ∧ A = some ⟨b, off, none⟩ ∧ b < B ∧ w.cell? ⟨b, off + k * 4, none⟩ = some (.int .i64 x.t.phase) ∧ w.cell? ⟨b, off + k * 4 + 1, none⟩ = some (.int .i64 x.t.start) ∧
    w.cell? ⟨b, off + k * 4 + 2, none⟩ = some (.int .i64 x.t.commit) ∧ w.cell? ⟨b, off + k * 4 + 3, none⟩ = some (.map (some m)) ∧ x.m = some m ∧ m < B ∧ MapReads 400 w m x.t.writes := by
  obtain ⟨x, b, off, h1, h2, h3, hc⟩ := h.cells.get hk
  obtain ⟨m, e, m1, m2⟩ := h.maps x (List.mem_of_getElem? h1)
  exact ⟨x, b, off, m, h1, h2, h3, by simpa using hc 0 _ rfl, hc 1 _ rfl, hc 2 _ rfl, by rw [← e]; exact hc 3 _ rfl, e, m1, m2⟩
end

/-! ### what committed keeps in memory -/
theorem flat_set1 {α : Type} {f : α → List Value} {s : Nat} (hf : ∀ x, (f x).length = s) : ∀ {l : List α} {k i : Nat} {x x' : α} {u : Value}, l[k]? = some x → i < s → (f x).set i u = f x' → (l.flatMap f).set (k * s + i) u = (l.set k x').flatMap f
  | [], _, _, _, _, _, h, _, _ => by simp at h
  | y :: l, 0, i, x, x', u, h, hi, he => by
    have e : y = x := by simpa using h
    subst e
    rw [List.set_cons_zero, List.flatMap_cons, List.flatMap_cons, ← he, Nat.zero_mul, Nat.zero_add, List.set_append_left _ _ (by rw [hf]; exact hi)]
  | y :: l, k + 1, i, x, x', u, h, hi, he => by
    have ih := flat_set1 hf (l := l) (k := k) (i := i) (x := x) (x' := x') (u := u) (by simpa using h) hi he
    rw [List.set_cons_succ, List.flatMap_cons, List.flatMap_cons, ← ih, List.set_append_right _ _ (by rw [hf, Nat.add_mul]; omega), hf]
    congr 2
    rw [Nat.add_mul]; omega
/-- A track's map: none as long as nothing has begun. -/
def TrackReads (N : Nat) (w : World) (base : Nat) (x : TrackM) : Prop := (x.m = none ∧ x.t.writes = [] ∧ x.t.phase = 0) ∨ ∃ b, x.m = some b ∧ base ≤ b ∧ MapReads N w b x.t.writes
structure ComInv (w : World) (base N : Nat) (M S : List TrackM) (L : List DealM) : Prop where
  track : ∀ x ∈ M, TrackReads N w base x
  apart : ∀ (i j : Nat) (x y : TrackM) (b : Nat), i ≠ j → M[i]? = some x → M[j]? = some y → x.m = some b → y.m ≠ some b
  seen : ∀ s ∈ S, ∃ b, s.m = some b ∧ base ≤ b ∧ MapReads 400 w b s.t.writes ∧ ∀ x ∈ M, x.m ≠ some b
  deals : ∀ d ∈ L, base ≤ d.m ∧ MapReads 400 w d.m d.d.writes ∧ ∀ x ∈ M, x.m ≠ some d.m
structure ComMem (w : World) (base gA N : Nat) (M S : List TrackM) (L : List DealM) (A : Option Addr) (n c : Nat) (A' : Option Addr) (n' c' : Nat) : Prop where
  four : M.length = 4
  blk : w.heap[gA]? = some (.cells (M.flatMap TrackM.cells).toArray 43 (0, 0))
  seen : w.ownsRow base 43 4 (.slice A' n' c') n' (S.flatMap TrackM.cells)
  deals : w.ownsRow base 48 4 (.slice A n c) n (L.flatMap DealM.cells)
  inv : ComInv w base N M S L
  low : gA < base
section
variable {w w' w3 : World} {base gA N : Nat} {M S : List TrackM} {L : List DealM} {A A' : Option Addr} {n c n' c' : Nat}
theorem TrackReads.keep {x : TrackM} (h : TrackReads N w base x) (hk : ∀ (b : Nat), x.m = some b → w'.heap[b]? = w.heap[b]?) : TrackReads N w' base x := by
  rcases h with h | ⟨b, e, hb, hm⟩
  · exact .inl h
  · exact .inr ⟨b, e, hb, hm.keep (hk b e)⟩
theorem TrackReads.wide {x : TrackM} (h : TrackReads N w base x) {N' : Nat} (hN : N ≤ N') : TrackReads N' w base x := by
  rcases h with h | ⟨b, e, hb, hm⟩
  · exact .inl h
  · exact .inr ⟨b, e, hb, hm.wide hN⟩
theorem TrackReads.lt {x : TrackM} (h : TrackReads N w base x) {b : Nat} (hb : x.m = some b) : b < w.heap.size := by
  rcases h with ⟨h, _⟩ | ⟨b', e, _, hm⟩
  · rw [h] at hb; cases hb
  · rw [e] at hb; injection hb with hb; subst hb; exact hm.lt
/-- Where all blocks that are maps are as they were, so is what is kept. -/
theorem ComInv.keep (h : ComInv w base N M S L) (hk : ∀ (b : Nat) (es : Array MapEntry) (clock : Nat), w.heap[b]? = some (Obj.map es clock) → w'.heap[b]? = w.heap[b]?) : ComInv w' base N M S L := by
  have hm : ∀ {N : Nat} {b : Nat} {ws : List MWrite}, MapReads N w b ws → MapReads N w' b ws := fun hr => by
    obtain ⟨es, clock, hb⟩ := hr.blk
    exact hr.keep (hk _ _ _ hb)
  refine ⟨fun x hx => ?_, h.apart, fun s hs => ?_, fun d hd => ?_⟩
  · rcases h.track x hx with h1 | ⟨b, e, hb, h1⟩
    · exact .inl h1
    · exact .inr ⟨b, e, hb, hm h1⟩
  · obtain ⟨b, e, hb, h1, h2⟩ := h.seen s hs
    exact ⟨b, e, hb, hm h1, h2⟩
  · obtain ⟨hb, h1, h2⟩ := h.deals d hd
    exact ⟨hb, hm h1, h2⟩
theorem ComInv.wide (h : ComInv w base N M S L) {N' : Nat} (hN : N ≤ N') : ComInv w base N' M S L := ⟨fun x hx => (h.track x hx).wide hN, h.apart, h.seen, h.deals⟩
theorem ComMem.wide (h : ComMem w base gA N M S L A n c A' n' c') {N' : Nat} (hN : N ≤ N') : ComMem w base gA N' M S L A n c A' n' c' := ⟨h.four, h.blk, h.seen, h.deals, h.inv.wide hN, h.low⟩
theorem ComMem.keep (h : ComMem w base gA N M S L A n c A' n' c') (hk : ∀ g, g < w.heap.size → w'.heap[g]? = w.heap[g]?) : ComMem w' base gA N M S L A n c A' n' c' :=
  ⟨h.four, (hk _ (blk_lt h.blk)).trans h.blk, own_at h.seen hk, own_at h.deals hk, h.inv.keep (fun b _ _ hb => hk b (Array.getElem?_eq_some_iff.1 hb).1), h.low⟩
theorem ComMem.alloc (h : ComMem w base gA N M S L A n c A' n' c') (o : Obj) : ComMem (w.alloc o) base gA N M S L A n c A' n' c' := h.keep (fun g hg => Below.heap_alloc w o g hg)
/-- A track's cells. -/
theorem ComMem.cells (h : ComMem w base gA N M S L A n c A' n' c') {k : Nat} {x : TrackM} (hx : M[k]? = some x) :
    w.cell? ⟨gA, k * 4, none⟩ = some (.int .i64 x.t.phase) ∧ w.cell? ⟨gA, k * 4 + 1, none⟩ = some (.int .i64 x.t.start) ∧ w.cell? ⟨gA, k * 4 + 2, none⟩ = some (.int .i64 x.t.commit) ∧ w.cell? ⟨gA, k * 4 + 3, none⟩ = some (.map x.m) ∧ (∀ i, w.frozen? ⟨gA, i, none⟩ = false) := by
  obtain ⟨hc, hf⟩ := blk_read h.blk
  have hi : ∀ i u, (TrackM.cells x)[i]? = some u → w.cell? ⟨gA, k * 4 + i, none⟩ = some u := fun i u hu => by
    rw [hc, List.getElem?_toArray]
    exact flat_at (f := TrackM.cells) (s := 4) (fun _ => rfl) hx hu
  exact ⟨by simpa using hi 0 _ rfl, hi 1 _ rfl, hi 2 _ rfl, hi 3 _ rfl, hf⟩
theorem ComMem.gA_own (h : ComMem w base gA N M S L A n c A' n' c') : some gA ≠ (Value.slice A' n' c').ownBlock ∧ some gA ≠ (Value.slice A n c).ownBlock :=
  ⟨own_old_ne h.seen h.low, own_old_ne h.deals h.low⟩
/-- One cell of a track turned, its map left. -/
theorem ComMem.set1 (h : ComMem w base gA N M S L A n c A' n' c') {k i : Nat} {x x' : TrackM} {u : Value} (hx : M[k]? = some x) (hi : i < 4) (he : (TrackM.cells x).set i u = TrackM.cells x') (hm : x'.m = x.m) (hw : x'.t.writes = x.t.writes) (hp : x.m = none → x'.t.phase = 0) :
    ComMem (w.setCell ⟨gA, k * 4 + i, none⟩ u) base gA N (M.set k x') S L A n c A' n' c' := by
  have hk : k < M.length := (List.getElem?_eq_some_iff.1 hx).1
  have hxm := List.mem_of_getElem? hx
  have hmem : ∀ y ∈ M.set k x', y = x' ∨ y ∈ M := fun y hy => by
    rcases List.mem_or_eq_of_mem_set hy with h | h
    · exact .inr h
    · exact .inl h
  have hne : ∀ (b : Nat) (es : Array MapEntry) (clock : Nat), w.heap[b]? = some (Obj.map es clock) → (w.setCell ⟨gA, k * 4 + i, none⟩ u).heap[b]? = w.heap[b]? := fun b es clock hb => Below.heap_setCell _ _ _ _ (by
    rintro rfl
    rw [h.blk] at hb; cases hb)
  have hinv := h.inv.keep hne
  have hfree : ∀ b, (∀ y ∈ M, y.m ≠ some b) → ∀ y ∈ M.set k x', y.m ≠ some b := fun b hb y hy => by
    rcases hmem y hy with rfl | hy
    · rw [hm]; exact hb x hxm
    · exact hb y hy
  refine ⟨by rw [List.length_set]; exact h.four, ?_, own_far h.seen h.gA_own.1 u, own_far h.deals h.gA_own.2 u, ⟨fun y hy => ?_, fun a b y z m hab hy hz e => ?_, fun s hs => ?_, fun d hd => ?_⟩, h.low⟩
  · have hb := blk_set h.blk (k * 4 + i) u
    rw [List.setIfInBounds_toArray, flat_set1 (f := TrackM.cells) (s := 4) (fun _ => rfl) hx hi he] at hb
    exact hb
  · rcases hmem y hy with rfl | hy
    · rcases hinv.track x hxm with ⟨h1, h2, h3⟩ | ⟨b, e, hb, h1⟩
      · exact .inl ⟨hm.trans h1, hw.trans h2, hp h1⟩
      · exact .inr ⟨b, hm.trans e, hb, by rw [hw]; exact h1⟩
    · exact hinv.track y hy
  · have hget : ∀ {a : Nat} {y : TrackM}, (M.set k x')[a]? = some y → ∃ y0, M[a]? = some y0 ∧ y0.m = y.m := fun {a y} hy => by
      by_cases e : k = a
      · subst e
        rw [List.getElem?_set_self hk] at hy
        injection hy with hy
        exact ⟨x, hx, by rw [← hy, hm]⟩
      · rw [List.getElem?_set_ne e] at hy
        exact ⟨y, hy, rfl⟩
    obtain ⟨y0, h1, h2⟩ := hget hy
    obtain ⟨z0, h3, h4⟩ := hget hz
    rw [← h4]
    exact hinv.apart a b y0 z0 m hab h1 h3 (h2.trans e)
  · obtain ⟨b, e, hb, h1, h2⟩ := hinv.seen s hs
    exact ⟨b, e, hb, h1, hfree b h2⟩
  · obtain ⟨hb, h1, h2⟩ := hinv.deals d hd
    exact ⟨hb, h1, hfree _ h2⟩
/-- A transaction begins: the track's four cells, a map in new memory. -/
theorem ComMem.begun (h : ComMem w base gA N M S L A n c A' n' c') {k : Nat} {x x' : TrackM} {a1 a2 a3 : Value} (hx : M[k]? = some x) (he : TrackM.cells x' = [a1, a2, a3, .map (some w.heap.size)]) (hw : x'.t.writes = []) (hb : base ≤ w.heap.size) :
    ComMem (((((w.alloc (.map #[] 0)).setCell ⟨gA, k * 4, none⟩ a1).setCell ⟨gA, k * 4 + 1, none⟩ a2).setCell ⟨gA, k * 4 + 2, none⟩ a3).setCell ⟨gA, k * 4 + 3, none⟩ (.map (some w.heap.size))) base gA N (M.set k x') S L A n c A' n' c' := by
  have hk : k < M.length := (List.getElem?_eq_some_iff.1 hx).1
  have hm' : x'.m = some w.heap.size := by
    have := congrArg (fun l : List Value => l[3]?) he
    simp [TrackM.cells] at this
    exact this
  have hold : ∀ {b : Nat} {y : TrackM}, y ∈ M → y.m = some b → b < w.heap.size := fun {b y} hy e => (h.inv.track y hy).lt e
  have hmem : ∀ y ∈ M.set k x', y = x' ∨ y ∈ M := fun y hy => by
    rcases List.mem_or_eq_of_mem_set hy with h | h
    · exact .inr h
    · exact .inl h
  have hblk : ∀ (b : Nat) (o : Obj), w.heap[b]? = some o → b ≠ gA → (((((w.alloc (.map #[] 0)).setCell ⟨gA, k * 4, none⟩ a1).setCell ⟨gA, k * 4 + 1, none⟩ a2).setCell ⟨gA, k * 4 + 2, none⟩ a3).setCell ⟨gA, k * 4 + 3, none⟩ (.map (some w.heap.size))).heap[b]? = w.heap[b]? := fun b o hb hne =>
    (Below.heap_setCell _ _ _ _ hne).trans ((Below.heap_setCell _ _ _ _ hne).trans ((Below.heap_setCell _ _ _ _ hne).trans ((Below.heap_setCell _ _ _ _ hne).trans (Below.heap_alloc _ _ b (blk_lt hb)))))
  have hne : ∀ (b : Nat) (es : Array MapEntry) (clock : Nat), w.heap[b]? = some (Obj.map es clock) → b ≠ gA := fun b es clock hb => by
    rintro rfl
    rw [h.blk] at hb; cases hb
  have hgA : w.heap.size ≠ gA := by have := blk_lt h.blk; omega
  have hnew : MapReads N (((((w.alloc (.map #[] 0)).setCell ⟨gA, k * 4, none⟩ a1).setCell ⟨gA, k * 4 + 1, none⟩ a2).setCell ⟨gA, k * 4 + 2, none⟩ a3).setCell ⟨gA, k * 4 + 3, none⟩ (.map (some w.heap.size))) w.heap.size [] :=
    (mapReads_made w).keep ((Below.heap_setCell _ _ _ _ hgA).trans ((Below.heap_setCell _ _ _ _ hgA).trans ((Below.heap_setCell _ _ _ _ hgA).trans (Below.heap_setCell _ _ _ _ hgA))))
  have hinv := h.inv.keep (fun b es clock hb => hblk b _ hb (hne b es clock hb))
  have hown : ∀ {n size : Nat} {e : TypeId} {v : Value} {xs : List Value}, w.ownsRow base e size v n xs → some gA ≠ v.ownBlock → (((((w.alloc (.map #[] 0)).setCell ⟨gA, k * 4, none⟩ a1).setCell ⟨gA, k * 4 + 1, none⟩ a2).setCell ⟨gA, k * 4 + 2, none⟩ a3).setCell ⟨gA, k * 4 + 3, none⟩ (.map (some w.heap.size))).ownsRow base e size v n xs := fun ho hv =>
    own_far (own_far (own_far (own_far (ho.alloc _) hv _) hv _) hv _) hv _
  have hfree : ∀ b, b < w.heap.size → (∀ y ∈ M, y.m ≠ some b) → ∀ y ∈ M.set k x', y.m ≠ some b := fun b hlt hb y hy => by
    rcases hmem y hy with rfl | hy
    · rw [hm']; intro e; injection e with e; omega
    · exact hb y hy
  refine ⟨by rw [List.length_set]; exact h.four, ?_, hown h.seen h.gA_own.1, hown h.deals h.gA_own.2, ⟨fun y hy => ?_, fun a b y z m hab hy hz e => ?_, fun s hs => ?_, fun d hd => ?_⟩, h.low⟩
  · have hb0 : (w.alloc (.map #[] 0)).heap[gA]? = some (.cells (M.flatMap TrackM.cells).toArray 43 (0, 0)) := (Below.heap_alloc _ _ gA (blk_lt h.blk)).trans h.blk
    have hb := blk_set (blk_set (blk_set (blk_set hb0 (k * 4) a1) (k * 4 + 1) a2) (k * 4 + 2) a3) (k * 4 + 3) (.map (some w.heap.size))
    simp only [List.setIfInBounds_toArray] at hb
    have hset : ∀ (l : List TrackM) (k : Nat) (x : TrackM), l[k]? = some x → (((((l.flatMap TrackM.cells).set (k * 4) a1).set (k * 4 + 1) a2).set (k * 4 + 2) a3).set (k * 4 + 3) (.map (some w.heap.size))) = (l.set k x').flatMap TrackM.cells := by
      intro l
      induction l with
      | nil => intro k x h; simp at h
      | cons y l ih =>
        intro k x hx
        cases k with
        | zero =>
          rw [List.set_cons_zero, List.flatMap_cons, List.flatMap_cons, he]
          simp [TrackM.cells]
        | succ k =>
          have := ih k x (by simpa using hx)
          rw [List.set_cons_succ, List.flatMap_cons, List.flatMap_cons, ← this]
          have e0 : (k + 1) * 4 = (TrackM.cells y).length + k * 4 := by show _ = 4 + _; omega
          rw [e0]
          simp only [Nat.add_assoc]
          rw [List.set_append_right _ _ (by omega), List.set_append_right _ _ (by omega), List.set_append_right _ _ (by omega), List.set_append_right _ _ (by omega)]
          simp only [Nat.add_sub_cancel_left]
    rw [hset M k x hx] at hb
    exact hb
  · rcases hmem y hy with rfl | hy
    · exact .inr ⟨_, hm', hb, by rw [hw]; exact hnew⟩
    · exact hinv.track y hy
  · have hget : ∀ {a : Nat} {y : TrackM}, (M.set k x')[a]? = some y → (a = k ∧ y = x') ∨ (a ≠ k ∧ M[a]? = some y) := fun {a y} hy => by
      by_cases e : k = a
      · subst e
        rw [List.getElem?_set_self hk] at hy
        injection hy with hy
        exact .inl ⟨rfl, hy.symm⟩
      · rw [List.getElem?_set_ne e] at hy
        exact .inr ⟨fun e' => e e'.symm, hy⟩
    rcases hget hy with ⟨h1, h2⟩ | ⟨h1, h2⟩
    · rcases hget hz with ⟨h3, h4⟩ | ⟨h3, h4⟩
      · omega
      · subst h2
        rw [hm'] at e; injection e with e
        intro e2
        have := hold (List.mem_of_getElem? h4) e2
        omega
    · rcases hget hz with ⟨h3, h4⟩ | ⟨h3, h4⟩
      · subst h4
        rw [hm']
        intro e2; injection e2 with e2
        have := hold (List.mem_of_getElem? h2) e
        omega
      · exact h.inv.apart a b y z m hab h2 h4 e
  · obtain ⟨b, e, hb', h1, h2⟩ := hinv.seen s hs
    obtain ⟨b', e', _, h1', _⟩ := h.inv.seen s hs
    have : b = b' := by rw [e] at e'; injection e'
    subst this
    exact ⟨b, e, hb', h1, hfree b h1'.lt h2⟩
  · obtain ⟨hb', h1, h2⟩ := hinv.deals d hd
    exact ⟨hb', h1, hfree _ (h.inv.deals d hd).2.1.lt h2⟩
/-- One more entry in a track's map. -/
theorem ComMem.put (h : ComMem w base gA N M S L A n c A' n' c') {k b m : Nat} {x x' : TrackM} {D : DataW Unit} (hx : M[k]? = some x) (hb : x.m = some b) (hg : w.grownBy w3 (some b))
    (hown : w3.ownsMap Tryd.prog 9 (plainElem Tryd.prog 9) b (m + 1) D) (hmN : m ≤ N) (ht : Tells D x'.t.writes) (hm : x'.m = x.m) (hc : TrackM.cells x' = TrackM.cells x) :
    ComMem w3 base gA (N + 1) (M.set k x') S L A n c A' n' c' := by
  have hk : k < M.length := (List.getElem?_eq_some_iff.1 hx).1
  have hxm := List.mem_of_getElem? hx
  have hbm : base ≤ b ∧ ∃ es clock, w.heap[b]? = some (Obj.map es clock) := by
    rcases h.inv.track x hxm with ⟨h1, _⟩ | ⟨b', e, hb', h1⟩
    · rw [h1] at hb; cases hb
    · rw [e] at hb; injection hb with hb; subst hb; exact ⟨hb', h1.blk⟩
  obtain ⟨hbase, es, clock, hblk⟩ := hbm
  have hmem : ∀ y ∈ M.set k x', y = x' ∨ y ∈ M := fun y hy => by
    rcases List.mem_or_eq_of_mem_set hy with h | h
    · exact .inr h
    · exact .inl h
  have hkeep : ∀ {N : Nat} {b' : Nat} {ws : List MWrite}, MapReads N w b' ws → b' ≠ b → MapReads N w3 b' ws := fun hr hne => hr.grown hg (fun e => hne (by injection e))
  have hcell : ∀ {g : Nat} {cs : Array Value} {t : TypeId}, w.heap[g]? = some (.cells cs t (0, 0)) → some g ≠ some b := fun {g cs t} hg' e => by
    injection e with e
    subst e
    rw [hg'] at hblk; cases hblk
  have hrow : ∀ {n size : Nat} {e : TypeId} {v : Value} {xs : List Value}, w.ownsRow base e size v n xs → w3.ownsRow base e size v n xs := fun {n size e v xs} ho => ho.kept hg (by
    rcases ho.2 with ⟨rfl, _⟩ | ⟨g', cap, cur, rfl, hbg, hg', _⟩
    · exact .inl rfl
    · exact .inr (fun e => hcell hg' e))
  have hfree : ∀ b', (∀ y ∈ M, y.m ≠ some b') → ∀ y ∈ M.set k x', y.m ≠ some b' := fun b' hb' y hy => by
    rcases hmem y hy with rfl | hy
    · rw [hm]; exact hb' x hxm
    · exact hb' y hy
  have hset : (M.set k x').flatMap TrackM.cells = M.flatMap TrackM.cells := by
    have : ∀ (l : List TrackM) (k : Nat), l[k]? = some x → (l.set k x').flatMap TrackM.cells = l.flatMap TrackM.cells := by
      intro l
      induction l with
      | nil => intro k h; simp at h
      | cons y l ih =>
        intro k hx
        cases k with
        | zero =>
          have e : y = x := by simpa using hx
          subst e
          simp [hc]
        | succ k => simp [ih k (by simpa using hx)]
    exact this M k hx
  refine ⟨by rw [List.length_set]; exact h.four, ?_, hrow h.seen, hrow h.deals, ⟨fun y hy => ?_, fun a a' y z m' hab hy hz e => ?_, fun s hs => ?_, fun d hd => ?_⟩, h.low⟩
  · rw [hset]
    exact (hg.block gA (blk_lt h.blk) (hcell h.blk)).trans h.blk
  · obtain ⟨a, ha⟩ := List.getElem?_of_mem hy
    by_cases e : k = a
    · subst e
      rw [List.getElem?_set_self hk] at ha
      injection ha with ha
      subst ha
      exact .inr ⟨b, hm.trans hb, hbase, m + 1, D, hown, by omega, ht⟩
    · rw [List.getElem?_set_ne e] at ha
      rcases h.inv.track y (List.mem_of_getElem? ha) with h1 | ⟨b', e', hb', h1⟩
      · exact .inl h1
      · exact .inr ⟨b', e', hb', (hkeep h1 (fun e2 => h.inv.apart k a x y b e hx ha hb (by rw [e', e2]))).wide (by omega)⟩
  · have hget : ∀ {a : Nat} {y : TrackM}, (M.set k x')[a]? = some y → ∃ y0, M[a]? = some y0 ∧ y0.m = y.m := fun {a y} hy => by
      by_cases e : k = a
      · subst e
        rw [List.getElem?_set_self hk] at hy
        injection hy with hy
        exact ⟨x, hx, by rw [← hy, hm]⟩
      · rw [List.getElem?_set_ne e] at hy
        exact ⟨y, hy, rfl⟩
    obtain ⟨y0, h1, h2⟩ := hget hy
    obtain ⟨z0, h3, h4⟩ := hget hz
    rw [← h4]
    exact h.inv.apart a a' y0 z0 m' hab h1 h3 (h2.trans e)
  · obtain ⟨b', e, hb', h1, h2⟩ := h.inv.seen s hs
    exact ⟨b', e, hb', hkeep h1 (fun e2 => h2 x hxm (by rw [hb, e2])), hfree b' h2⟩
  · obtain ⟨hb', h1, h2⟩ := h.inv.deals d hd
    exact ⟨hb', hkeep h1 (fun e2 => h2 x hxm (by rw [hb, e2])), hfree _ h2⟩
/-- One track more that was seen. -/
theorem ComMem.see (h : ComMem w base gA N M S L A n c A' n' c') {s : TrackM} {b : Nat} {A3 : Option Addr} {c3 : Nat} (hg : w.grownBy w3 (Value.slice A' n' c').ownBlock) (hown : w3.ownsRow base 43 4 (.slice A3 (n' + 1) c3) (n' + 1) (S.flatMap TrackM.cells ++ s.cells))
    (hs : s.m = some b) (hb : base ≤ b) (hm : MapReads 400 w b s.t.writes) (hfree : ∀ x ∈ M, x.m ≠ some b) : ComMem w3 base gA N M (S ++ [s]) L A n c A3 (n' + 1) c3 := by
  have hk : ∀ (b : Nat) (es : Array MapEntry) (clock : Nat), w.heap[b]? = some (Obj.map es clock) → w3.heap[b]? = w.heap[b]? := fun b es clock hb => hg.block b (Array.getElem?_eq_some_iff.1 hb).1 (by
    rcases h.seen.2 with ⟨e, _⟩ | ⟨g', cap, cur, e, hbg, hg', _⟩
    · rw [e]; simp [Value.ownBlock]
    · rw [e]; intro e2
      simp only [Value.ownBlock, Option.some.injEq] at e2
      subst e2
      rw [hb] at hg'; cases hg')
  have hinv := h.inv.keep hk
  refine ⟨h.four, (hg.block gA (blk_lt h.blk) h.gA_own.1).trans h.blk, by rw [List.flatMap_append]; simpa using hown, h.deals.kept hg (own_types h.deals h.seen (by decide)), ⟨hinv.track, hinv.apart, fun y hy => ?_, hinv.deals⟩, h.low⟩
  rcases List.mem_append.1 hy with hy | hy
  · exact hinv.seen y hy
  · simp at hy; subst hy
    obtain ⟨es, clock, hb'⟩ := hm.blk
    exact ⟨b, hs, hb, hm.keep (hk _ _ _ hb'), hfree⟩
/-- One deal more. -/
theorem ComMem.made (h : ComMem w base gA N M S L A n c A' n' c') {d : DealM} {A3 : Option Addr} {c3 : Nat} (hg : w.grownBy w3 (Value.slice A n c).ownBlock) (hown : w3.ownsRow base 48 4 (.slice A3 (n + 1) c3) (n + 1) (L.flatMap DealM.cells ++ d.cells))
    (hb : base ≤ d.m) (hm : MapReads 400 w d.m d.d.writes) (hfree : ∀ x ∈ M, x.m ≠ some d.m) : ComMem w3 base gA N M S (L ++ [d]) A3 (n + 1) c3 A' n' c' := by
  have hk : ∀ (b : Nat) (es : Array MapEntry) (clock : Nat), w.heap[b]? = some (Obj.map es clock) → w3.heap[b]? = w.heap[b]? := fun b es clock hb => hg.block b (Array.getElem?_eq_some_iff.1 hb).1 (by
    rcases h.deals.2 with ⟨e, _⟩ | ⟨g', cap, cur, e, hbg, hg', _⟩
    · rw [e]; simp [Value.ownBlock]
    · rw [e]; intro e2
      simp only [Value.ownBlock, Option.some.injEq] at e2
      subst e2
      rw [hb] at hg'; cases hg')
  have hinv := h.inv.keep hk
  refine ⟨h.four, (hg.block gA (blk_lt h.blk) h.gA_own.2).trans h.blk, h.seen.kept hg (own_types h.seen h.deals (by decide)), by rw [List.flatMap_append]; simpa using hown, ⟨hinv.track, hinv.apart, hinv.seen, fun y hy => ?_⟩, h.low⟩
  rcases List.mem_append.1 hy with hy | hy
  · exact hinv.deals y hy
  · simp at hy; subst hy
    obtain ⟨es, clock, hb'⟩ := hm.blk
    exact ⟨hb, hm.keep (hk _ _ _ hb'), hfree⟩
theorem ComMem.ends (h : ComMem w base gA N M S L A n c A' n' c') : DealsOk w w.heap.size A n L ∧ SeenOk w w.heap.size A' n' S :=
  ⟨⟨Reads.of_own (fun _ => rfl) (by omega) h.deals, fun x hx => ⟨(h.inv.deals x hx).2.1.lt, (h.inv.deals x hx).2.1⟩⟩,
   ⟨Reads.of_own (fun _ => rfl) (by omega) h.seen, fun x hx => by
    obtain ⟨b, e, _, h1, _⟩ := h.inv.seen x hx
    exact ⟨b, e, h1.lt, h1⟩⟩⟩
end
end Go.Proofs.YtniomgngiiiklaaDoor

/- The step of a range over a map from strings to strings. No walk. -/
namespace Go.Proofs.YtniomgngiiiklaaDoor
open Go.RowKit Go.Maps

theorem keyOf_string_inv {P : Program} {k : TypeId} (hk : P.underlying k = some .string) {key : Value} {kl : Lit} (h : keyOf P k key = some kl) : ∃ x : ByteArray, key = .string x ∧ kl = kLit x ∧ x.size ≤ maxLen := by
  unfold kLit
  cases key <;> simp [keyOf, hk, mapKey] at h
  exact ⟨_, rfl, h.2.symm, h.1⟩
/-- THE STEP, string keys, string elements. -/
theorem wpList_next_ranges_ss {H : Type} {P : Program} (w : World) {ops : Array Oper} {rest : List Oper} {o : Oper} {a : Act} {Q : Exit → Act → World → Prop}
    (hg : o.guard = none) (it : Operand) (hop : o.op = Op.next it false) (k e : TypeId) (K : Keyed P k) (hk : P.underlying k = some .string) (he : P.underlying e = some .string)
    (b r n : Nat) (D : DataW H) (left : Lit → Bool) (cnt : Nat) (hit : a.eval it = .pointer (some ⟨r, 0, none⟩)) (h : w.ranges P k (plainElem P e) b r n D left cnt)
    (hDone : cnt = 0 → (∀ kl, left kl = false) → wpList P ops Q rest (a.put o.dst (.tuple #[.bool false])) w)
    (hMore : ∀ (x c : ByteArray) (w' : World) (cnt' : Nat), x.size ≤ maxLen → c.size ≤ maxLen → left (kLit x) = true → (∀ zd, D.atKey (kLit x) zd = .lit (kLit c)) → w'.ranges P k (plainElem P e) b r n D (fun z => left z && !z.sameKey (kLit x)) cnt' → cnt' < cnt →
      w.grownBy w' (some r) → w'.heap.size = w.heap.size → (Instr.entry (.pointer (some ⟨r, 0, none⟩))).run P w' = .ok (.tuple #[.string x, .string c]) w' → wpList P ops Q rest (a.put o.dst (.tuple #[.bool true, .string x, .string c])) w') :
    wpList P ops Q (o :: rest) a w :=
  wpList_next_ranges w hg it hop k K (plainElem P e) Value.string Value.string (fun key kl hkey => by obtain ⟨x, rfl, _⟩ := keyOf_string_inv hk hkey; exact ⟨x, rfl⟩) (fun v y hv => by obtain ⟨c, rfl, _⟩ := plainElem_string_inv he hv; exact ⟨c, rfl⟩)
    b r n D left cnt hit h hDone (fun x c kl y w' cnt' hkey hlk hv hat hrg hlt hgr hsz hen => by
      obtain ⟨x', ex, rfl, hwx⟩ := keyOf_string_inv hk hkey
      cases ex
      obtain ⟨c', ec, rfl, hwc⟩ := plainElem_string_inv he hv
      cases ec
      exact hMore x c w' cnt' hwx hwc hlk hat hrg hlt hgr hsz hen)
theorem keyOf_kLit {P : Program} {k : TypeId} (hk : P.underlying k = some .string) {s : ByteArray} (hs : s.size ≤ maxLen) : keyOf P k (.string s) = some (kLit s) := by
  unfold kLit
  simp [keyOf, hk, mapKey, hs]
end Go.Proofs.YtniomgngiiiklaaDoor

/- Look-ups in maps that tell what writes tell. No walk. -/
namespace Go.Proofs.YtniomgngiiiklaaDoor
open Go.RowKit Go.Maps

/-- What the writes tell of a key; nothing, if none does. -/
def strOf (ws : List MWrite) (k : ByteArray) : ByteArray := ((writeOf ws k).map (·.value)).getD ⟨#[]⟩
theorem zero_string (w : World) : (zeroValue 9).run Tryd.prog w = .ok (.string ⟨#[]⟩) w := by kernel_rfl
theorem plain_zero : plainElem (H := Unit) Tryd.prog 9 (.string ⟨#[]⟩) = some (.lit (.string []), []) := by kernel_rfl
section
variable {N : Nat} {w : World} {b : Nat} {ws : List MWrite} {key : ByteArray}
theorem MapReads.look_ok (h : MapReads N w b ws) (hk : key.size ≤ maxLen) : (Instr.lookup 41 (.map (some b)) (.string key) true).run Tryd.prog w = .ok (.tuple #[.string (strOf ws key), .bool (writeOf ws key).isSome]) w := by
  obtain ⟨n, D, ho, _, ht⟩ := h
  obtain ⟨v, ps, hrun, hv⟩ := ho.look_ok law_str Tryd.underlying41 (zero_string w) plain_zero (keyOf_kLit Tryd.underlying9 hk)
  rw [hrun, ht.has, ht.value Tryd.underlying9 hv]; rfl
theorem MapReads.look (h : MapReads N w b ws) (hk : key.size ≤ maxLen) : (Instr.lookup 41 (.map (some b)) (.string key) false).run Tryd.prog w = .ok (.string (strOf ws key)) w := by
  obtain ⟨n, D, ho, _, ht⟩ := h
  obtain ⟨v, ps, hrun, hv⟩ := ho.lookup law_str Tryd.underlying41 (zero_string w) plain_zero (keyOf_kLit Tryd.underlying9 hk)
  rw [hrun, ht.value Tryd.underlying9 hv]; rfl
theorem look_none_ok (hk : key.size ≤ maxLen) : (Instr.lookup 41 (.map none) (.string key) true).run Tryd.prog w = .ok (.tuple #[.string ⟨#[]⟩, .bool false]) w :=
  Maps.look_nil true law_str Tryd.underlying41 (zero_string w) (keyOf_kLit Tryd.underlying9 hk)
theorem look_none (hk : key.size ≤ maxLen) : (Instr.lookup 41 (.map none) (.string key) false).run Tryd.prog w = .ok (.string ⟨#[]⟩) w :=
  Maps.look_nil false law_str Tryd.underlying41 (zero_string w) (keyOf_kLit Tryd.underlying9 hk)
end
/-- THE STEP: a look-up whose run is known. -/
theorem wpList_lookup_run {P : Program} (w : World) {ops : Array Oper} {rest : List Oper} {o : Oper} {a : Act} {Q : Exit → Act → World → Prop} (hg : o.guard = none) (m x : Operand) (t : TypeId) (c : Bool) (hop : o.op = Op.lookup t m x c)
    (vm key v : Value) (hm : a.eval m = vm) (hx : a.eval x = key) (hrun : (Instr.lookup t vm key c).run P w = .ok v w) (hK : wpList P ops Q rest (a.put o.dst v) w) : wpList P ops Q (o :: rest) a w := by
  refine wpList_plain hg fun K' hK' => ?_
  unfold Oper.wp
  simp [execOp, hop, hm, hx, hrun, Result.andThen]
  exact hK' _ _ hK
theorem blk_row4 {w : World} {g : Nat} {t : TypeId} {a b c d : Value} (h : w.heap[g]? = some (.cells #[a, b, c, d] t (0, 0))) (a' b' c' d' : Value) :
    ((((w.setCell ⟨g, 0, none⟩ a').setCell ⟨g, 1, none⟩ b').setCell ⟨g, 2, none⟩ c').setCell ⟨g, 3, none⟩ d').heap[g]? = some (.cells #[a', b', c', d'] t (0, 0)) := by
  simpa using blk_set (blk_set (blk_set (blk_set h 0 a') 1 b') 2 c') 3 d'
end Go.Proofs.YtniomgngiiiklaaDoor
