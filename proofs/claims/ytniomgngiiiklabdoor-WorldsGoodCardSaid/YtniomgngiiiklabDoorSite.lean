/- The memory of a world that is being changed: what a site reads as, what a step leaves alone, told by the blocks' types. No walk. -/
import Derived.Test.YtniomgngiiiklabDoorOwn
import Derived.Test.YtniomgngiiiklabDoorWorld
namespace Go.Proofs.YtniomgngiiiklabDoor
open Go.RowKit

/-! ### what is left alone -/
/-- Old blocks below base are as they were, so is every block of a type that is not among ts; and blocks of other types than rows and writes keep their type and their size. -/
structure Keeps (ts : List TypeId) (base : Nat) (w w' : World) : Prop where
  below : Below base w w'
  block : ∀ (g : Nat) (cs : Array Value) (t : TypeId), w.heap[g]? = some (.cells cs t (0, 0)) → t ∉ ts → w'.heap[g]? = w.heap[g]?
  shape : ∀ (g : Nat) (cs : Array Value) (t : TypeId), w.heap[g]? = some (.cells cs t (0, 0)) → t ≠ 27 → t ≠ 96 → ∃ cs' : Array Value, w'.heap[g]? = some (.cells cs' t (0, 0)) ∧ cs'.size = cs.size
section
variable {ts ts' : List TypeId} {base B g i : Nat} {w w' w'' : World} {cs : Array Value} {t : TypeId}
theorem Keeps.refl (ts : List TypeId) (base : Nat) (w : World) : Keeps ts base w w := ⟨Below.refl _ _, fun _ _ _ _ _ => rfl, fun _ cs _ h _ _ => ⟨cs, h, rfl⟩⟩
theorem Keeps.trans (h : Keeps ts base w w') (k : Keeps ts base w' w'') : Keeps ts base w w'' :=
  ⟨h.below.trans k.below, fun g cs t hg ht => by
    have h1 := h.block g cs t hg ht
    exact (k.block g cs t (h1.trans hg) ht).trans h1, fun g cs t hg h1 h2 => by
    obtain ⟨c1, e1, s1⟩ := h.shape g cs t hg h1 h2
    obtain ⟨c2, e2, s2⟩ := k.shape g c1 t e1 h1 h2
    exact ⟨c2, e2, s2.trans s1⟩⟩
theorem Keeps.wide (h : Keeps ts base w w') (hs : ∀ t ∈ ts, t ∈ ts') : Keeps ts' base w w' := ⟨h.below, fun g cs t hg ht => h.block g cs t hg fun hm => ht (hs t hm), h.shape⟩
theorem Keeps.of_below (h : Below B w w') (hB : w.heap.size ≤ B) (hb : base ≤ w.heap.size) : Keeps ts base w w' :=
  ⟨h.mono (Nat.le_trans hb hB), fun g _ _ hg _ => h.block g (Nat.lt_of_lt_of_le (blk_lt hg) hB), fun g cs _ hg _ _ => ⟨cs, (h.block g (Nat.lt_of_lt_of_le (blk_lt hg) hB)).trans hg, rfl⟩⟩
theorem Keeps.alloc (h : Keeps ts base w w') (o : Obj) (hb : base ≤ w'.heap.size) : Keeps ts base w (w'.alloc o) :=
  h.trans ⟨(Below.refl base w').alloc hb o, fun g _ _ hg _ => Below.heap_alloc _ _ g (blk_lt hg), fun g cs _ hg _ _ => ⟨cs, (Below.heap_alloc _ _ g (blk_lt hg)).trans hg, rfl⟩⟩
theorem Keeps.drew (h : Keeps ts base w w') : Keeps ts base w w'.drew := ⟨h.below.drew, h.block, h.shape⟩
theorem Keeps.drewN (h : Keeps ts base w w') (n : Nat) : Keeps ts base w (w'.drewN n) := ⟨below_drewN h.below n, h.block, h.shape⟩
theorem Keeps.set (h : Keeps ts base w w') (hg : w'.heap[g]? = some (.cells cs t (0, 0))) (ht : t ∈ ts) (hb : base ≤ g) (u : Value) : Keeps ts base w (w'.setCell ⟨g, i, none⟩ u) :=
  h.trans ⟨(Below.refl base w').setCell (p := ⟨g, i, none⟩) hb u, fun g' cs' t' hg' ht' => Below.heap_setCell _ _ _ g' (by
    rintro rfl
    rw [hg] at hg'
    injection hg' with hg'
    injection hg' with _ e
    subst e
    exact ht' ht), fun g' cs' t' hg' _ _ => by
    by_cases e : g' = g
    · subst e
      exact ⟨_, blk_set hg' i u, by simp⟩
    · exact ⟨cs', blk_far hg' (p := ⟨g, i, none⟩) e u, rfl⟩⟩
/-- A step that grew or turned one owned row. -/
theorem Keeps.grown {e : TypeId} {size n : Nat} {v : Value} {xs : List Value} (h : Keeps ts base w w') (ho : w'.ownsRow base e size v n xs) (he : e ∈ ts) (he' : e = 27 ∨ e = 96) (hg : w'.grownBy w'' v.ownBlock) (hb : base ≤ w'.heap.size) : Keeps ts base w w'' :=
  h.trans ⟨(Below.refl base w').grown hg hb (fun k hk => (ho.lt k hk).1), fun g _ _ hh ht => hg.block g (blk_lt hh) (own_ne ho hh (fun e' => ht (e' ▸ he))), fun g cs t hh h1 h2 =>
    ⟨cs, (hg.block g (blk_lt hh) (own_ne ho hh (fun e' => by rcases he' with e1 | e1; (· exact h1 (e'.symm.trans e1)); (· exact h2 (e'.symm.trans e1))))).trans hh, rfl⟩⟩
theorem Keeps.blk (h : Keeps ts base w w') (hg : w.heap[g]? = some (.cells cs t (0, 0))) (ht : t ∉ ts) : w'.heap[g]? = some (.cells cs t (0, 0)) := (h.block g cs t hg ht).trans hg
theorem Keeps.old (h : Keeps ts base w w') (hg : w.heap[g]? = some (.cells cs t (0, 0))) (hb : g < base) : w'.heap[g]? = some (.cells cs t (0, 0)) := (h.below.block g hb).trans hg
theorem Keeps.own {e : TypeId} {size n base' : Nat} {v : Value} {xs : List Value} (h : Keeps ts base w w') (ho : w.ownsRow base' e size v n xs) (he : e ∉ ts) : w'.ownsRow base' e size v n xs :=
  own_typed ho fun g cs _ hg => h.block g cs e hg he
theorem Keeps.rows {A : Option Addr} {n c : Nat} {l : List MRow} {hs : Heads} (h : Keeps ts base w w') (ho : OwnRows w base A n c l hs) (h1 : 27 ∉ ts) (h2 : 44 ∉ ts) : OwnRows w' base A n c l hs :=
  ho.typed fun g cs t _ hg ht => h.block g cs t hg (by rcases ht with rfl | rfl <;> assumption)
theorem Keeps.clients {A : Option Addr} {n c : Nat} {l : List MClient} {hs : Heads} (h : Keeps ts base w w') (ho : OwnClients w base A n c l hs) (h1 : 92 ∉ ts) (h2 : 96 ∉ ts) : OwnClients w' base A n c l hs :=
  ho.typed fun g cs t _ hg ht => h.block g cs t hg (by rcases ht with rfl | rfl <;> assumption)
end

/-! ### one element turned -/
theorem set_pass {α : Type} {a b : List α} {j : Nat} {u : α} {m : Nat} (hm : a.length = m) : (a ++ b).set (m + j) u = a ++ b.set j u := by
  subst hm
  rw [List.set_append_right _ _ (by omega)]
  congr 2
  omega
theorem rowsCells_set : ∀ {l : List MRow} {hs : Heads} {k : Nat} (r : MRow) (h : Option Addr × Nat), k < l.length → k < hs.length →
    ((((((rowsCells l hs).set (k * 5) (.string r.key)).set (k * 5 + 1) (.int .i64 r.ls)).set (k * 5 + 2) (.string r.lp)).set (k * 5 + 3) (.string r.value)).set (k * 5 + 4) (.slice h.1 r.recs.length h.2)) = rowsCells (l.set k r) (hs.set k h)
  | [], _, _, _, _, h, _ => by simp at h
  | _ :: _, [], _, _, _, _, h => by simp at h
  | x :: l, g :: hs, 0, r, h, _, _ => by simp [rowsCells, rowCells]
  | x :: l, g :: hs, k + 1, r, h, h1, h2 => by
    have ih := rowsCells_set (l := l) (hs := hs) (k := k) r h (by simpa using h1) (by simpa using h2)
    rw [List.set_cons_succ, List.set_cons_succ]
    unfold rowsCells
    have e : ∀ i, (k + 1) * 5 + i = 5 + (k * 5 + i) := fun i => by omega
    have e0 : (k + 1) * 5 = 5 + (k * 5) := by omega
    rw [e, e, e, e, e0, set_pass (by rfl), set_pass (by rfl), set_pass (by rfl), set_pass (by rfl), set_pass (by rfl), ih]
theorem clientsCells_set1 : ∀ {l : List MClient} {hs : Heads} {k : Nat} {x x' : MClient} {h h' : Option Addr × Nat} {i : Nat} {u : Value}, l[k]? = some x → hs[k]? = some h →
    (clientCells x h.1 x.writes.length h.2).set i u = clientCells x' h'.1 x'.writes.length h'.2 → i < 5 → (clientsCells l hs).set (k * 5 + i) u = clientsCells (l.set k x') (hs.set k h')
  | [], _, _, _, _, _, _, _, _, h, _, _, _ => by simp at h
  | _ :: _, [], _, _, _, _, _, _, _, _, h, _, _ => by simp at h
  | y :: l, g :: hs, 0, x, x', h, h', i, u, h1, h2, h3, h4 => by
    have e1 : y = x := by simpa using h1
    have e2 : g = h := by simpa using h2
    subst e1 e2
    rw [List.set_cons_zero, List.set_cons_zero]
    unfold clientsCells
    rw [← h3, Nat.zero_mul, Nat.zero_add, List.set_append_left _ _ (by simpa [clientCells] using h4)]
  | y :: l, g :: hs, k + 1, x, x', h, h', i, u, h1, h2, h3, h4 => by
    have ih := clientsCells_set1 (l := l) (hs := hs) (k := k) (x' := x') (h' := h') (by simpa using h1) (by simpa using h2) h3 h4
    rw [List.set_cons_succ, List.set_cons_succ]
    unfold clientsCells
    rw [show (k + 1) * 5 + i = 5 + (k * 5 + i) by omega, set_pass (by rfl), ih]

section
variable {w : World} {base g n c : Nat}
theorem own_set {e : TypeId} {size : Nat} {xs : List Value} (h : w.ownsRow base e size (.slice (some ⟨g, 0, none⟩) n c) n xs) (j : Nat) (u : Value) : (w.setCell ⟨g, j, none⟩ u).ownsRow base e size (.slice (some ⟨g, 0, none⟩) n c) n (xs.set j u) := (h.stored j u).1
theorem own_blk {e : TypeId} {size : Nat} {xs : List Value} (h : w.ownsRow base e size (.slice (some ⟨g, 0, none⟩) n c) n xs) : ∃ cur, w.heap[g]? = some (.cells cur e (0, 0)) ∧ base ≤ g := by
  rcases h.2 with ⟨h', _⟩ | ⟨g', cap', cur, h', hb, hg, _⟩
  · simp at h'
  · simp only [Value.slice.injEq, Option.some.injEq, Addr.mk.injEq, and_true, true_and] at h'
    obtain ⟨rfl, rfl⟩ := h'
    exact ⟨cur, hg, hb⟩
/-- A row put in the place of another. -/
theorem OwnRows.put {l : List MRow} {hs : Heads} {k : Nat} {r : MRow} {A' : Option Addr} {c' : Nat} (h : OwnRows w base (some ⟨g, 0, none⟩) n c l hs) (hk : k < n) (hrec : w.ownsRow base 44 3 (.slice A' r.recs.length c') r.recs.length (recCells r.recs)) :
    OwnRows (((((w.setCell ⟨g, k * 5, none⟩ (.string r.key)).setCell ⟨g, k * 5 + 1, none⟩ (.int .i64 r.ls)).setCell ⟨g, k * 5 + 2, none⟩ (.string r.lp)).setCell ⟨g, k * 5 + 3, none⟩ (.string r.value)).setCell ⟨g, k * 5 + 4, none⟩ (.slice A' r.recs.length c')) base (some ⟨g, 0, none⟩) n c (l.set k r) (hs.set k (A', c')) := by
  obtain ⟨h1, h2, h3, h4⟩ := h
  obtain ⟨cur, hg, _⟩ := own_blk h3
  have hkeep : ∀ {v : Value} {m : Nat} {xs : List Value} (a b c d e : Value), w.ownsRow base 44 3 v m xs → (((((w.setCell ⟨g, k * 5, none⟩ a).setCell ⟨g, k * 5 + 1, none⟩ b).setCell ⟨g, k * 5 + 2, none⟩ c).setCell ⟨g, k * 5 + 3, none⟩ d).setCell ⟨g, k * 5 + 4, none⟩ e).ownsRow base 44 3 v m xs := fun a b c d e ho => by
    have hne := own_ne ho hg (by decide)
    exact own_far (own_far (own_far (own_far (own_far ho hne a) hne b) hne c) hne d) hne e
  refine ⟨by simp [h1], by simp [h2], ?_, fun j q x hq hx => ?_⟩
  · have := own_set (own_set (own_set (own_set (own_set h3 (k * 5) (.string r.key)) (k * 5 + 1) (.int .i64 r.ls)) (k * 5 + 2) (.string r.lp)) (k * 5 + 3) (.string r.value)) (k * 5 + 4) (.slice A' r.recs.length c')
    rwa [rowsCells_set r (A', c') (by omega) (by omega)] at this
  · by_cases e : j = k
    · subst e
      rw [List.getElem?_set_self (by omega)] at hq hx
      have hq' := Option.some.inj hq
      have hx' := Option.some.inj hx
      rw [← hq', ← hx']
      exact hkeep _ _ _ _ _ hrec
    · rw [List.getElem?_set_ne (fun e' => e e'.symm)] at hq hx
      exact hkeep _ _ _ _ _ (h4 j q x hq hx)
/-- One cell of a client turned. -/
theorem OwnClients.put1 {l : List MClient} {hs : Heads} {k i : Nat} {x x' : MClient} {hd : Option Addr × Nat} {u : Value} (h : OwnClients w base (some ⟨g, 0, none⟩) n c l hs) (hx : l[k]? = some x) (hh : hs[k]? = some hd)
    (hc : (clientCells x hd.1 x.writes.length hd.2).set i u = clientCells x' hd.1 x'.writes.length hd.2) (hi : i < 5) (hw : x'.writes = x.writes) : OwnClients (w.setCell ⟨g, k * 5 + i, none⟩ u) base (some ⟨g, 0, none⟩) n c (l.set k x') hs := by
  obtain ⟨h1, h2, h3, h4, h5⟩ := h
  obtain ⟨cur, hg, _⟩ := own_blk h3
  have hset : hs.set k hd = hs := by
    obtain ⟨hk, rfl⟩ := List.getElem?_eq_some_iff.1 hh
    exact List.set_getElem_self hk
  refine ⟨by simp [h1], h2, ?_, fun j q y hq hy => ?_, h5⟩
  · have := own_set h3 (k * 5 + i) u
    rwa [clientsCells_set1 (h' := hd) hx hh hc hi, hset] at this
  · have hkeep : ∀ {v : Value} {m : Nat} {xs : List Value}, w.ownsRow base 96 2 v m xs → (w.setCell ⟨g, k * 5 + i, none⟩ u).ownsRow base 96 2 v m xs := fun ho => own_far ho (own_ne ho hg (by decide)) u
    by_cases e : j = k
    · subst e
      rw [List.getElem?_set_self (List.getElem?_eq_some_iff.1 hx).1] at hq
      injection hq with hq
      subst hq
      rw [hw]
      exact hkeep (h4 j x y hx hy)
    · rw [List.getElem?_set_ne (fun e' => e e'.symm)] at hq
      exact hkeep (h4 j q y hq hy)
end

theorem clientsCells_set : ∀ {l : List MClient} {hs : Heads} {k : Nat} (x : MClient) (h : Option Addr × Nat), k < l.length → k < hs.length →
    ((((((clientsCells l hs).set (k * 5) (.int .i64 x.phase)).set (k * 5 + 1) (.int .i64 x.start)).set (k * 5 + 2) (.int .i64 x.commit)).set (k * 5 + 3) (.slice h.1 x.writes.length h.2)).set (k * 5 + 4) (.int .i64 x.at_)) = clientsCells (l.set k x) (hs.set k h)
  | [], _, _, _, _, h, _ => by simp at h
  | _ :: _, [], _, _, _, _, h => by simp at h
  | x :: l, g :: hs, 0, r, h, _, _ => by simp [clientsCells, clientCells]
  | x :: l, g :: hs, k + 1, r, h, h1, h2 => by
    have ih := clientsCells_set (l := l) (hs := hs) (k := k) r h (by simpa using h1) (by simpa using h2)
    rw [List.set_cons_succ, List.set_cons_succ]
    unfold clientsCells
    have e : ∀ i, (k + 1) * 5 + i = 5 + (k * 5 + i) := fun i => by omega
    have e0 : (k + 1) * 5 = 5 + (k * 5) := by omega
    rw [e, e, e, e, e0, set_pass (by rfl), set_pass (by rfl), set_pass (by rfl), set_pass (by rfl), set_pass (by rfl), ih]
/-- A client put in the place of another. -/
theorem OwnClients.put5 {w : World} {base g n c : Nat} {l : List MClient} {hs : Heads} {k : Nat} {x : MClient} {A' : Option Addr} {c' : Nat} (h : OwnClients w base (some ⟨g, 0, none⟩) n c l hs) (hk : k < n) (hrec : w.ownsRow base 96 2 (.slice A' x.writes.length c') x.writes.length (writeCells x.writes))
    (hd : ∀ (j : Nat) (q : Option Addr × Nat), j ≠ k → hs[j]? = some q → (Value.slice q.1 0 0).ownBlock ≠ none → (Value.slice q.1 0 0).ownBlock ≠ (Value.slice A' 0 0).ownBlock) :
    OwnClients (((((w.setCell ⟨g, k * 5, none⟩ (.int .i64 x.phase)).setCell ⟨g, k * 5 + 1, none⟩ (.int .i64 x.start)).setCell ⟨g, k * 5 + 2, none⟩ (.int .i64 x.commit)).setCell ⟨g, k * 5 + 3, none⟩ (.slice A' x.writes.length c')).setCell ⟨g, k * 5 + 4, none⟩ (.int .i64 x.at_)) base (some ⟨g, 0, none⟩) n c (l.set k x) (hs.set k (A', c')) := by
  obtain ⟨h1, h2, h3, h4, h5⟩ := h
  obtain ⟨cur, hg, _⟩ := own_blk h3
  have hkeep : ∀ {v : Value} {m : Nat} {xs : List Value} (a b c d e : Value), w.ownsRow base 96 2 v m xs → (((((w.setCell ⟨g, k * 5, none⟩ a).setCell ⟨g, k * 5 + 1, none⟩ b).setCell ⟨g, k * 5 + 2, none⟩ c).setCell ⟨g, k * 5 + 3, none⟩ d).setCell ⟨g, k * 5 + 4, none⟩ e).ownsRow base 96 2 v m xs := fun a b c d e ho => by
    have hne := own_ne ho hg (by decide)
    exact own_far (own_far (own_far (own_far (own_far ho hne a) hne b) hne c) hne d) hne e
  refine ⟨by simp [h1], by simp [h2], ?_, fun j q x' hq hx => ?_, fun i j p q hij hi hj hn => ?_⟩
  · have := own_set (own_set (own_set (own_set (own_set h3 (k * 5) (.int .i64 x.phase)) (k * 5 + 1) (.int .i64 x.start)) (k * 5 + 2) (.int .i64 x.commit)) (k * 5 + 3) (.slice A' x.writes.length c')) (k * 5 + 4) (.int .i64 x.at_)
    rwa [clientsCells_set x (A', c') (by omega) (by omega)] at this
  · by_cases e : j = k
    · subst e
      rw [List.getElem?_set_self (by omega)] at hq hx
      have hq' := Option.some.inj hq
      have hx' := Option.some.inj hx
      rw [← hq', ← hx']
      exact hkeep _ _ _ _ _ hrec
    · rw [List.getElem?_set_ne (fun e' => e e'.symm)] at hq hx
      exact hkeep _ _ _ _ _ (h4 j q x' hq hx)
  · have hget : ∀ (i : Nat) (p : Option Addr × Nat), (hs.set k (A', c'))[i]? = some p → (i = k ∧ p = (A', c')) ∨ (i ≠ k ∧ hs[i]? = some p) := fun i p hi => by
      by_cases e : i = k
      · subst e
        rw [List.getElem?_set_self (by omega)] at hi
        exact .inl ⟨rfl, (Option.some.inj hi).symm⟩
      · rw [List.getElem?_set_ne (fun e' => e e'.symm)] at hi
        exact .inr ⟨e, hi⟩
    rcases hget i p hi with ⟨ei, ep⟩ | ⟨ei, hi⟩
    · rcases hget j q hj with ⟨ej, _⟩ | ⟨ej, hj⟩
      · exact absurd (ei.trans ej.symm) hij
      · subst ep
        intro e
        exact hd j q ej hj (by rw [← e]; exact hn) e.symm
    · rcases hget j q hj with ⟨_, eq⟩ | ⟨_, hj⟩
      · subst eq; exact hd i p ei hi hn
      · exact h5 i j p q hij hi hj hn
/-! ### a site -/
structure SiteAt (w : World) (base gs gw gc C : Nat) (M : MWorld) (A : Option Addr) (n c m c' : Nat) (H H' : Heads) : Prop where
  site : w.heap[gs]? = some (.cells #[.pointer (some ⟨gw, 0, none⟩), .pointer (some ⟨gc, C * 5, none⟩)] 108 (0, 0))
  world : w.heap[gw]? = some (.cells #[.slice A n c, .int .i64 M.clock, .slice (some ⟨gc, 0, none⟩) m c'] 37 (0, 0))
  rows : OwnRows w base A n c M.rows H
  clients : OwnClients w base (some ⟨gc, 0, none⟩) m c' M.clients H'
  lt : C < m
  bs : base ≤ gs
  bw : base ≤ gw
def Site (w : World) (base gs gw gc C : Nat) (M : MWorld) : Prop := ∃ A n c m c' H H', SiteAt w base gs gw gc C M A n c m c' H H'
section
variable {w w' : World} {base gs gw gc C n c m c' : Nat} {M : MWorld} {A : Option Addr} {H H' : Heads} {ts : List TypeId}
theorem SiteAt.keep (h : SiteAt w base gs gw gc C M A n c m c' H H') (hk : Keeps ts base w w') (ht : 108 ∉ ts ∧ 37 ∉ ts ∧ 27 ∉ ts ∧ 44 ∉ ts ∧ 92 ∉ ts ∧ 96 ∉ ts) : SiteAt w' base gs gw gc C M A n c m c' H H' :=
  ⟨hk.blk h.site ht.1, hk.blk h.world ht.2.1, hk.rows h.rows ht.2.2.1 ht.2.2.2.1, hk.clients h.clients ht.2.2.2.2.1 ht.2.2.2.2.2, h.lt, h.bs, h.bw⟩
theorem SiteAt.below {B : Nat} (h : SiteAt w base gs gw gc C M A n c m c' H H') (hb : Below B w w') (hB : w.heap.size ≤ B) : SiteAt w' base gs gw gc C M A n c m c' H H' :=
  h.keep (ts := []) (Keeps.of_below hb hB (Nat.le_of_lt (Nat.lt_of_le_of_lt h.bs (blk_lt h.site)))) ⟨by simp, by simp, by simp, by simp, by simp, by simp⟩
theorem SiteAt.size (h : SiteAt w base gs gw gc C M A n c m c' H H') : base ≤ w.heap.size := Nat.le_of_lt (Nat.lt_of_le_of_lt h.bs (blk_lt h.site))
theorem SiteAt.parts (h : SiteAt w base gs gw gc C M A n c m c' H H') : ∃ x hd, M.clients[C]? = some x ∧ H'[C]? = some hd ∧ clientAt M C = x := by
  have hl : C < M.clients.length := by rw [h.clients.1]; exact h.lt
  have hh : C < H'.length := by rw [h.clients.2.1]; exact h.lt
  exact ⟨M.clients[C], H'[C], List.getElem?_eq_getElem hl, List.getElem?_eq_getElem hh, by unfold clientAt; rw [List.getElem?_eq_getElem hl]; rfl⟩
/-- The cells of the site's client. -/
theorem SiteAt.cells (h : SiteAt w base gs gw gc C M A n c m c' H H') {x : MClient} {hd : Option Addr × Nat} (hx : M.clients[C]? = some x) (hh : H'[C]? = some hd) :
    w.cell? ⟨gc, C * 5, none⟩ = some (.int .i64 x.phase) ∧ w.cell? ⟨gc, C * 5 + 1, none⟩ = some (.int .i64 x.start) ∧ w.cell? ⟨gc, C * 5 + 2, none⟩ = some (.int .i64 x.commit) ∧ w.cell? ⟨gc, C * 5 + 3, none⟩ = some (.slice hd.1 x.writes.length hd.2) ∧ w.cell? ⟨gc, C * 5 + 4, none⟩ = some (.int .i64 x.at_) := by
  have hc : ∀ i u, (clientCells x hd.1 x.writes.length hd.2)[i]? = some u → w.cell? ⟨gc, C * 5 + i, none⟩ = some u := fun i u hu => by
    obtain ⟨g, e, _, hcell⟩ := own_cell h.clients.2.2.1 (clientsCells_at hx hh hu)
    injection e with e; injection e with e
    rw [e]; exact hcell
  exact ⟨hc 0 _ rfl, hc 1 _ rfl, hc 2 _ rfl, hc 3 _ rfl, hc 4 _ rfl⟩
theorem SiteAt.frozen (h : SiteAt w base gs gw gc C M A n c m c' H H') : (∀ i, w.frozen? ⟨gs, i, none⟩ = false) ∧ (∀ i, w.frozen? ⟨gw, i, none⟩ = false) ∧ (∀ i, w.frozen? ⟨gc, i, none⟩ = false) := by
  obtain ⟨cur, hg, _⟩ := own_blk h.clients.2.2.1
  exact ⟨(blk_read h.site).2, (blk_read h.world).2, (blk_read hg).2⟩
/-- The writes of the site's client. -/
theorem SiteAt.writes (h : SiteAt w base gs gw gc C M A n c m c' H H') {x : MClient} {hd : Option Addr × Nat} (hx : M.clients[C]? = some x) (hh : H'[C]? = some hd) : w.ownsRow base 96 2 (.slice hd.1 x.writes.length hd.2) x.writes.length (writeCells x.writes) := h.clients.2.2.2.1 C x hd hx hh
theorem Site.keep (h : Site w base gs gw gc C M) (hk : Keeps ts base w w') (ht : 108 ∉ ts ∧ 37 ∉ ts ∧ 27 ∉ ts ∧ 44 ∉ ts ∧ 92 ∉ ts ∧ 96 ∉ ts) : Site w' base gs gw gc C M := by
  obtain ⟨A, n, c, m, c', H, H', h⟩ := h
  exact ⟨A, n, c, m, c', H, H', h.keep hk ht⟩
theorem Site.below {B : Nat} (h : Site w base gs gw gc C M) (hb : Below B w w') (hB : w.heap.size ≤ B) : Site w' base gs gw gc C M := by
  obtain ⟨A, n, c, m, c', H, H', h⟩ := h
  exact ⟨A, n, c, m, c', H, H', h.below hb hB⟩
end
theorem Keeps.set5 {w : World} {base g : Nat} {ts : List TypeId} {t : TypeId} {cs : Array Value} (hg : w.heap[g]? = some (.cells cs t (0, 0))) (ht : t ∈ ts) (hb : base ≤ g) (i1 i2 i3 i4 i5 : Nat) (a b c d e : Value) :
    Keeps ts base w (((((w.setCell ⟨g, i1, none⟩ a).setCell ⟨g, i2, none⟩ b).setCell ⟨g, i3, none⟩ c).setCell ⟨g, i4, none⟩ d).setCell ⟨g, i5, none⟩ e) :=
  (((((Keeps.refl ts base w).set hg ht hb a).set (blk_set hg i1 a) ht hb b).set (blk_set (blk_set hg i1 a) i2 b) ht hb c).set (blk_set (blk_set (blk_set hg i1 a) i2 b) i3 c) ht hb d).set (blk_set (blk_set (blk_set (blk_set hg i1 a) i2 b) i3 c) i4 d) ht hb e
/-- A row put in the place of another. -/
theorem SiteAt.put5 {w : World} {base gs gw gc C n c m c' g k : Nat} {M : MWorld} {H H' : Heads} {q : MRow} {A2 : Option Addr} {c2 : Nat} (h : SiteAt w base gs gw gc C M (some ⟨g, 0, none⟩) n c m c' H H') (hk : k < n)
    (hrec : w.ownsRow base 44 3 (.slice A2 q.recs.length c2) q.recs.length (recCells q.recs)) :
    SiteAt (((((w.setCell ⟨g, k * 5, none⟩ (.string q.key)).setCell ⟨g, k * 5 + 1, none⟩ (.int .i64 q.ls)).setCell ⟨g, k * 5 + 2, none⟩ (.string q.lp)).setCell ⟨g, k * 5 + 3, none⟩ (.string q.value)).setCell ⟨g, k * 5 + 4, none⟩ (.slice A2 q.recs.length c2)) base gs gw gc C { M with rows := M.rows.set k q } (some ⟨g, 0, none⟩) n c m c' (H.set k (A2, c2)) H' ∧
    Keeps [27] base w (((((w.setCell ⟨g, k * 5, none⟩ (.string q.key)).setCell ⟨g, k * 5 + 1, none⟩ (.int .i64 q.ls)).setCell ⟨g, k * 5 + 2, none⟩ (.string q.lp)).setCell ⟨g, k * 5 + 3, none⟩ (.string q.value)).setCell ⟨g, k * 5 + 4, none⟩ (.slice A2 q.recs.length c2)) := by
  obtain ⟨cur, hg, hb⟩ := own_blk h.rows.2.2.1
  have hk5 := Keeps.set5 (ts := [27]) hg (by simp) hb (k * 5) (k * 5 + 1) (k * 5 + 2) (k * 5 + 3) (k * 5 + 4) (.string q.key) (.int .i64 q.ls) (.string q.lp) (.string q.value) (.slice A2 q.recs.length c2)
  exact ⟨⟨hk5.blk h.site (by decide), hk5.blk h.world (by decide), h.rows.put hk hrec, hk5.clients h.clients (by decide) (by decide), h.lt, h.bs, h.bw⟩, hk5⟩
/-- The site's client put in the place of another, without writes. -/
theorem SiteAt.putZero {w : World} {base gs gw gc C n c m c' : Nat} {M : MWorld} {A : Option Addr} {H H' : Heads} {x : MClient} (h : SiteAt w base gs gw gc C M A n c m c' H H') (hw : x.writes = []) :
    SiteAt (((((w.setCell ⟨gc, C * 5, none⟩ (.int .i64 x.phase)).setCell ⟨gc, C * 5 + 1, none⟩ (.int .i64 x.start)).setCell ⟨gc, C * 5 + 2, none⟩ (.int .i64 x.commit)).setCell ⟨gc, C * 5 + 3, none⟩ (.slice none 0 0)).setCell ⟨gc, C * 5 + 4, none⟩ (.int .i64 x.at_)) base gs gw gc C { M with clients := M.clients.set C x } A n c m c' H (H'.set C (none, 0)) ∧
    Keeps [92] base w (((((w.setCell ⟨gc, C * 5, none⟩ (.int .i64 x.phase)).setCell ⟨gc, C * 5 + 1, none⟩ (.int .i64 x.start)).setCell ⟨gc, C * 5 + 2, none⟩ (.int .i64 x.commit)).setCell ⟨gc, C * 5 + 3, none⟩ (.slice none 0 0)).setCell ⟨gc, C * 5 + 4, none⟩ (.int .i64 x.at_)) := by
  obtain ⟨cur, hg, hb⟩ := own_blk h.clients.2.2.1
  have hk5 := Keeps.set5 (ts := [92]) hg (by simp) hb (C * 5) (C * 5 + 1) (C * 5 + 2) (C * 5 + 3) (C * 5 + 4) (.int .i64 x.phase) (.int .i64 x.start) (.int .i64 x.commit) (.slice none 0 0) (.int .i64 x.at_)
  have hc := h.clients.put5 (x := x) (A' := none) (c' := 0) h.lt (by rw [hw]; exact World.ownsRow_nil _ _ _ _) (fun j q _ _ hn => hn)
  rw [hw] at hc
  exact ⟨⟨hk5.blk h.site (by decide), hk5.blk h.world (by decide), hk5.rows h.rows (by decide) (by decide), hc, h.lt, h.bs, h.bw⟩, hk5⟩
/-- One cell of the site's client turned. -/
theorem SiteAt.put1 {w : World} {base gs gw gc C n c m c' i : Nat} {M : MWorld} {A : Option Addr} {H H' : Heads} {x x' : MClient} {hd : Option Addr × Nat} {u : Value} (h : SiteAt w base gs gw gc C M A n c m c' H H') (hx : M.clients[C]? = some x) (hh : H'[C]? = some hd)
    (hc : (clientCells x hd.1 x.writes.length hd.2).set i u = clientCells x' hd.1 x'.writes.length hd.2) (hi : i < 5) (hw : x'.writes = x.writes) :
    SiteAt (w.setCell ⟨gc, C * 5 + i, none⟩ u) base gs gw gc C { M with clients := M.clients.set C x' } A n c m c' H H' ∧ Keeps [92] base w (w.setCell ⟨gc, C * 5 + i, none⟩ u) := by
  obtain ⟨cur, hg, hb⟩ := own_blk h.clients.2.2.1
  have hk : Keeps [92] base w (w.setCell ⟨gc, C * 5 + i, none⟩ u) := (Keeps.refl _ _ w).set hg (by simp) hb u
  exact ⟨⟨hk.blk h.site (by decide), hk.blk h.world (by decide), hk.rows h.rows (by decide) (by decide), h.clients.put1 hx hh hc hi hw, h.lt, h.bs, h.bw⟩, hk⟩
theorem SiteAt.drew {w : World} {base gs gw gc C n c m c' : Nat} {M : MWorld} {A : Option Addr} {H H' : Heads} (h : SiteAt w base gs gw gc C M A n c m c' H H') : SiteAt w.drew base gs gw gc C M A n c m c' H H' :=
  h.keep (ts := []) (Keeps.refl [] base w).drew ⟨by simp, by simp, by simp, by simp, by simp, by simp⟩
theorem SiteAt.any {w : World} {base gs gw gc C n c m c' : Nat} {M : MWorld} {A : Option Addr} {H H' : Heads} (h : SiteAt w base gs gw gc C M A n c m c' H H') : Site w base gs gw gc C M := ⟨A, n, c, m, c', H, H', h⟩
theorem rowsCells_append : ∀ {a : List MRow} {x : Heads} {b : List MRow} {y : Heads}, a.length = x.length → rowsCells (a ++ b) (x ++ y) = rowsCells a x ++ rowsCells b y
  | [], [], _, _, _ => rfl
  | r :: a, g :: x, b, y, h => by
    simp only [List.cons_append, rowsCells, List.append_assoc]
    rw [rowsCells_append (by simpa using h)]
  | [], _ :: _, _, _, h => by simp at h
  | _ :: _, [], _, _, h => by simp at h
theorem rowsCells_length : ∀ {l : List MRow} {hs : Heads}, l.length = hs.length → (rowsCells l hs).length = l.length * 5
  | [], [], _ => rfl
  | r :: a, g :: x, h => by
    rw [rowsCells, List.length_append, rowsCells_length (by simpa using h)]
    simp [rowCells]; omega
  | [], _ :: _, h => by simp at h
  | _ :: _, [], h => by simp at h
theorem rowsCells_split {l : List MRow} {hs : Heads} (i : Nat) (h : l.length = hs.length) (hi : i ≤ l.length) : (rowsCells l hs).take (i * 5) = rowsCells (l.take i) (hs.take i) ∧ (rowsCells l hs).drop (i * 5) = rowsCells (l.drop i) (hs.drop i) := by
  have e : rowsCells l hs = rowsCells (l.take i) (hs.take i) ++ rowsCells (l.drop i) (hs.drop i) := by
    rw [← rowsCells_append (by simp [h]), List.take_append_drop, List.take_append_drop]
  have hl : (rowsCells (l.take i) (hs.take i)).length = i * 5 := by
    rw [rowsCells_length (by simp [h]), List.length_take]; congr 1; omega
  rw [e]
  exact ⟨by rw [List.take_append_of_le_length (by omega), List.take_of_length_le (by omega)], by rw [List.drop_append_of_le_length (by omega), List.drop_of_length_le (by omega)]; rfl⟩
theorem rowsCells_insert {l : List MRow} {hs : Heads} {i : Nat} {q : MRow} {hd : Option Addr × Nat} (h : l.length = hs.length) (hi : i ≤ l.length) :
    rowsCells (l.take i ++ q :: l.drop i) (hs.take i ++ hd :: hs.drop i) = (rowsCells l hs).take (i * 5) ++ rowCells q hd.1 q.recs.length hd.2 ++ (rowsCells l hs).drop (i * 5) := by
  obtain ⟨e1, e2⟩ := rowsCells_split i h hi
  rw [rowsCells_append (by simp [h]), e1, e2, rowsCells, List.append_assoc]
theorem get_insert {α : Type} {l : List α} {i k : Nat} {q x : α} (hi : i ≤ l.length) (h : (l.take i ++ q :: l.drop i)[k]? = some x) : (k = i ∧ x = q) ∨ ∃ j, l[j]? = some x ∧ ((k < i ∧ j = k) ∨ (i < k ∧ j + 1 = k)) := by
  by_cases hk : k < i
  · rw [List.getElem?_append_left (by simp; omega), List.getElem?_take, if_pos hk] at h
    exact .inr ⟨k, h, .inl ⟨hk, rfl⟩⟩
  · rw [List.getElem?_append_right (by simp; omega), List.length_take, show min i l.length = i by omega] at h
    by_cases e : k = i
    · subst e
      rw [Nat.sub_self] at h
      exact .inl ⟨rfl, by simpa using h.symm⟩
    · obtain ⟨j, rfl⟩ : ∃ j, k = j + 1 := ⟨k - 1, by omega⟩
      rw [show j + 1 - i = (j - i) + 1 by omega, List.getElem?_cons_succ, List.getElem?_drop, show i + (j - i) = j by omega] at h
      exact .inr ⟨j, h, .inr ⟨by omega, rfl⟩⟩
/-- A row more, wherever. -/
theorem SiteAt.insert {w X w3 : World} {base gs gw gc C n c m c' i : Nat} {M : MWorld} {A : Option Addr} {H H' : Heads} {q : MRow} {A2 A3 : Option Addr} {c2 c3 : Nat} (h : SiteAt w base gs gw gc C M A n c m c' H H') (hx : Keeps [] base w X) (hi : i ≤ n)
    (hrec : w.ownsRow base 44 3 (.slice A2 q.recs.length c2) q.recs.length (recCells q.recs)) (hg : X.grownBy w3 (Value.slice A n c).ownBlock)
    (hown : w3.ownsRow base 27 5 (.slice A3 (n + 1) c3) (n + 1) ((rowsCells M.rows H).take (i * 5) ++ rowCells q A2 q.recs.length c2 ++ (rowsCells M.rows H).drop (i * 5))) :
    SiteAt (w3.setCell ⟨gw, 0, none⟩ (.slice A3 (n + 1) c3)) base gs gw gc C { M with rows := M.rows.take i ++ q :: M.rows.drop i } A3 (n + 1) c3 m c' (H.take i ++ (A2, c2) :: H.drop i) H' ∧
    Keeps [27, 37] base w (w3.setCell ⟨gw, 0, none⟩ (.slice A3 (n + 1) c3)) := by
  obtain ⟨h1, h2, h3, h4⟩ := h.rows
  have hX := h.keep hx ⟨by simp, by simp, by simp, by simp, by simp, by simp⟩
  have k3 : Keeps [27] base w w3 := (hx.wide (by simp)).grown hX.rows.2.2.1 (by simp) (.inl rfl) hg hX.size
  have hw3 := k3.blk h.world (by decide)
  have k4 : Keeps [27, 37] base w (w3.setCell ⟨gw, 0, none⟩ (.slice A3 (n + 1) c3)) := (k3.wide (by simp)).set hw3 (by simp) h.bw _
  refine ⟨⟨k4.blk h.site (by decide), by simpa using blk_set hw3 0 (.slice A3 (n + 1) c3), ⟨?_, ?_, ?_, fun k r g hr hh => ?_⟩, k4.clients h.clients (by decide) (by decide), h.lt, h.bs, h.bw⟩, k4⟩
  · simp; omega
  · simp; omega
  · rw [rowsCells_insert (by omega) (by omega)]
    exact own_far hown (own_ne hown hw3 (by decide)) _
  · rcases get_insert (by omega) hr with ⟨e, er⟩ | ⟨j, hj, hjk⟩
    · rcases get_insert (by omega) hh with ⟨_, eg⟩ | ⟨j, _, hjk⟩
      · subst er eg; exact k4.own hrec (by decide)
      · omega
    · rcases get_insert (by omega) hh with ⟨e, _⟩ | ⟨j', hj', hjk'⟩
      · omega
      · have e : j' = j := by omega
        subst e
        exact k4.own (h4 _ _ _ hj hj') (by decide)
/-- Rows that are valid are no larger than they may be. -/
theorem key_size {s : ByteArray} (h : keyB s = true) : s.size ≤ 6 := by
  unfold keyB at h
  simp only [Bool.and_eq_true, decide_eq_true_eq] at h
  exact h.2.1
theorem RowGood.small {r : MRow} (h : RowGood r) : r.recs.length * 32 ≤ 140737488351232 ∧ r.key.size ≤ maxLen ∧ r.lp.size ≤ maxLen := by
  have h1 := h.len
  have h2 := key_size h.key
  refine ⟨by omega, by unfold maxLen; omega, ?_⟩
  by_cases h0 : r.ls = 0
  · rw [(h.free h0).1]; exact Nat.zero_le _
  · have := key_size (h.lock h0).2.2.1
    unfold maxLen; omega
theorem RowsVal.sized {clock : Int} {l : List MRow} (h : RowsVal clock l) : RowsSized l :=
  ⟨by have := h.len; omega, fun r hr => (h.each r hr).1.small⟩
theorem writes_good {x : MClient} {clock : Int} (h : clientB x clock = true) : x.writes.length ≤ 6 ∧ WritesGood x.writes := by
  unfold clientB at h
  simp only [Bool.and_eq_true, decide_eq_true_eq] at h
  exact ⟨h.1, writesB_iff.1 h.2.1⟩
theorem WorldGood.sized {M : MWorld} (h : WorldGood M) : RowsSized M.rows ∧ ClientsSized M.clients :=
  ⟨h.rows.sized, by have := h.few; omega, fun x hx => by
    obtain ⟨h1, h2⟩ := writes_good (h.clients x hx)
    refine ⟨by omega, fun y hy => ?_⟩
    have := key_size (h2.1 y hy).1
    unfold maxLen; omega⟩
end Go.Proofs.YtniomgngiiiklabDoor
