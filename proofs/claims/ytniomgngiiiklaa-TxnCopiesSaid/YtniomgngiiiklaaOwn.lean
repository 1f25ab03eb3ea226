/- Owned rows and clients under what leaves their blocks alone: told by the blocks' types. No walk. -/
import Derived.Test.YtniomgngiiiklaaWorldRep
namespace Go.Proofs.Ytniomgngiiiklaa
open Go.RowKit

theorem ownBlock_any' (A : Option Addr) (n c m d : Nat) : (Value.slice A n c).ownBlock = (Value.slice A m d).ownBlock := by cases A <;> rfl
section
variable {w w' : World} {base n c size : Nat} {e : TypeId} {A : Option Addr}
theorem own_typed {v : Value} {xs : List Value} (h : w.ownsRow base e size v n xs) (hk : ∀ g cs, base ≤ g → w.heap[g]? = some (.cells cs e (0, 0)) → w'.heap[g]? = w.heap[g]?) : w'.ownsRow base e size v n xs := by
  refine ⟨h.1, ?_⟩
  rcases h.2 with h | ⟨g', cap, cur, rfl, hbg, hg, r⟩
  · exact .inl h
  · exact .inr ⟨g', cap, cur, rfl, hbg, (hk g' cur hbg hg).trans hg, r⟩
/-- Rows of two element types lie in two blocks. -/
theorem own_types {e' : TypeId} {m size' base' : Nat} {v v' : Value} {xs ys : List Value} (h : w.ownsRow base e size v n xs) (h' : w.ownsRow base' e' size' v' m ys) (hne : e ≠ e') : v.ownBlock = none ∨ v.ownBlock ≠ v'.ownBlock := by
  rcases h.2 with ⟨rfl, _⟩ | ⟨g, cap, cur, rfl, hbg, hg, r⟩
  · exact .inl rfl
  · refine .inr ?_
    rcases h'.2 with ⟨rfl, _⟩ | ⟨g', cap', cur', rfl, hbg', hg', r'⟩
    · simp [Value.ownBlock]
    · intro he
      simp only [Value.ownBlock, Option.some.injEq] at he
      have he' : g = g' := he
      subst he'
      exact blk_ne hg hg' hne rfl
theorem OwnRows.typed {l : List MRow} {hs : Heads} (h : OwnRows w base A n c l hs) (hk : ∀ g cs t, base ≤ g → w.heap[g]? = some (.cells cs t (0, 0)) → (t = 30 ∨ t = 56) → w'.heap[g]? = w.heap[g]?) : OwnRows w' base A n c l hs :=
  ⟨h.1, h.2.1, own_typed h.2.2.1 fun g cs hb hg => hk g cs _ hb hg (.inl rfl), fun k r g hr hh => own_typed (h.2.2.2 k r g hr hh) fun g cs hb hg => hk g cs _ hb hg (.inr rfl)⟩
theorem OwnClients.typed {l : List MClient} {hs : Heads} (h : OwnClients w base A n c l hs) (hk : ∀ g cs t, base ≤ g → w.heap[g]? = some (.cells cs t (0, 0)) → (t = 63 ∨ t = 66) → w'.heap[g]? = w.heap[g]?) : OwnClients w' base A n c l hs :=
  ⟨h.1, h.2.1, own_typed h.2.2.1 fun g cs hb hg => hk g cs _ hb hg (.inl rfl), fun k r g hr hh => own_typed (h.2.2.2.1 k r g hr hh) fun g cs hb hg => hk g cs _ hb hg (.inr rfl), h.2.2.2.2⟩
theorem OwnRows.below {l : List MRow} {hs : Heads} {B : Nat} (h : OwnRows w base A n c l hs) (hb : Below B w w') (hB : w.heap.size ≤ B) : OwnRows w' base A n c l hs :=
  h.typed fun g _ _ _ hg _ => hb.block g (Nat.lt_of_lt_of_le (blk_lt hg) hB)
theorem OwnClients.below {l : List MClient} {hs : Heads} {B : Nat} (h : OwnClients w base A n c l hs) (hb : Below B w w') (hB : w.heap.size ≤ B) : OwnClients w' base A n c l hs :=
  h.typed fun g _ _ _ hg _ => hb.block g (Nat.lt_of_lt_of_le (blk_lt hg) hB)
theorem OwnRows.set {l : List MRow} {hs : Heads} {g i : Nat} {cs : Array Value} {t : TypeId} (h : OwnRows w base A n c l hs) (hg : w.heap[g]? = some (.cells cs t (0, 0))) (ht : t ≠ 30 ∧ t ≠ 56) (u : Value) : OwnRows (w.setCell ⟨g, i, none⟩ u) base A n c l hs :=
  h.typed fun g' cs' t' _ hg' ht' => Below.heap_setCell w _ u g' (by
    rintro rfl
    rw [hg] at hg'
    injection hg' with hg'
    injection hg' with _ e
    subst e
    rcases ht' with e | e
    · exact ht.1 e
    · exact ht.2 e)
theorem OwnClients.set {l : List MClient} {hs : Heads} {g i : Nat} {cs : Array Value} {t : TypeId} (h : OwnClients w base A n c l hs) (hg : w.heap[g]? = some (.cells cs t (0, 0))) (ht : t ≠ 63 ∧ t ≠ 66) (u : Value) : OwnClients (w.setCell ⟨g, i, none⟩ u) base A n c l hs :=
  h.typed fun g' cs' t' _ hg' ht' => Below.heap_setCell w _ u g' (by
    rintro rfl
    rw [hg] at hg'
    injection hg' with hg'
    injection hg' with _ e
    subst e
    rcases ht' with e | e
    · exact ht.1 e
    · exact ht.2 e)
/-- A row more. -/
theorem OwnRows.add {w2 : World} {l : List MRow} {hs : Heads} {A2 A3 : Option Addr} {c2 c3 : Nat} {r : MRow} (h : OwnRows w base A n c l hs) (hrec : w.ownsRow base 56 3 (.slice A2 r.recs.length c2) r.recs.length (recCells r.recs))
    (hg : w.grownBy w2 (Value.slice A n c).ownBlock) (hnew : w2.ownsRow base 30 5 (.slice A3 (n + 1) c3) (n + 1) (rowsCells l hs ++ rowCells r A2 r.recs.length c2)) : OwnRows w2 base A3 (n + 1) c3 (l ++ [r]) (hs ++ [(A2, c2)]) := by
  obtain ⟨h1, h2, h3, h4⟩ := h
  refine ⟨by simp [h1], by simp [h2], ?_, fun k q g hq hh => ?_⟩
  · rw [rowsCells_snoc r (A2, c2) (by omega)]; exact hnew
  · have hkeep : ∀ {v : Value} {m : Nat} {xs : List Value}, w.ownsRow base 56 3 v m xs → w2.ownsRow base 56 3 v m xs := fun ho => ho.kept hg (own_types ho h3 (by decide))
    by_cases hk : k < n
    · rw [List.getElem?_append_left (by omega)] at hq hh
      exact hkeep (h4 k q g hq hh)
    · rw [List.getElem?_append_right (by omega)] at hq hh
      have hkn : k - l.length = 0 := by
        have := (List.getElem?_eq_some_iff.1 hq).1
        simp at this; omega
      rw [hkn] at hq
      rw [show k - hs.length = 0 by omega] at hh
      simp at hq hh
      subst hq hh
      exact hkeep hrec
theorem OwnClients.add {w2 : World} {l : List MClient} {hs : Heads} {A2 A3 : Option Addr} {c2 c3 : Nat} {r : MClient} (h : OwnClients w base A n c l hs) (hrec : w.ownsRow base 66 2 (.slice A2 r.writes.length c2) r.writes.length (writeCells r.writes))
    (hnew' : ∀ g ∈ hs, (Value.slice g.1 0 0).ownBlock ≠ none → (Value.slice g.1 0 0).ownBlock ≠ (Value.slice A2 0 0).ownBlock)
    (hg : w.grownBy w2 (Value.slice A n c).ownBlock) (hnew : w2.ownsRow base 63 5 (.slice A3 (n + 1) c3) (n + 1) (clientsCells l hs ++ clientCells r A2 r.writes.length c2)) : OwnClients w2 base A3 (n + 1) c3 (l ++ [r]) (hs ++ [(A2, c2)]) := by
  obtain ⟨h1, h2, h3, h4, h5⟩ := h
  refine ⟨by simp [h1], by simp [h2], ?_, fun k q g hq hh => ?_, fun i j g q hij hi hj hn => ?_⟩
  · rw [clientsCells_snoc r (A2, c2) (by omega)]; exact hnew
  · have hkeep : ∀ {v : Value} {m : Nat} {xs : List Value}, w.ownsRow base 66 2 v m xs → w2.ownsRow base 66 2 v m xs := fun ho => ho.kept hg (own_types ho h3 (by decide))
    by_cases hk : k < n
    · rw [List.getElem?_append_left (by omega)] at hq hh
      exact hkeep (h4 k q g hq hh)
    · rw [List.getElem?_append_right (by omega)] at hq hh
      have hkn : k - l.length = 0 := by
        have := (List.getElem?_eq_some_iff.1 hq).1
        simp at this; omega
      rw [hkn] at hq
      rw [show k - hs.length = 0 by omega] at hh
      simp at hq hh
      subst hq hh
      exact hkeep hrec
  · have hlen : ∀ (i : Nat) (g : Option Addr × Nat), (hs ++ [(A2, c2)])[i]? = some g → (i < n ∧ hs[i]? = some g) ∨ (i = n ∧ g = (A2, c2)) := fun i g hi => by
      by_cases hin : i < n
      · rw [List.getElem?_append_left (by omega)] at hi; exact .inl ⟨hin, hi⟩
      · rw [List.getElem?_append_right (by omega)] at hi
        have hl := (List.getElem?_eq_some_iff.1 hi).1
        simp at hl
        rw [show i - hs.length = 0 by omega] at hi
        simp at hi
        exact .inr ⟨by omega, hi.symm⟩
    rcases hlen i g hi with ⟨_, hi⟩ | ⟨ei, eg⟩
    · rcases hlen j q hj with ⟨_, hj⟩ | ⟨ej, eq⟩
      · exact h5 i j g q hij hi hj hn
      · subst eq; exact hnew' g (List.mem_of_getElem? hi) hn
    · rcases hlen j q hj with ⟨_, hj⟩ | ⟨ej, eq⟩
      · subst eg
        intro e
        exact hnew' q (List.mem_of_getElem? hj) (by rw [← e]; exact hn) e.symm
      · exact absurd (ei.trans ej.symm) hij
theorem OwnRows.nil (w : World) (base : Nat) : OwnRows w base none 0 0 [] [] := ⟨rfl, rfl, World.ownsRow_nil _ _ _ _, fun k r h hr => by simp at hr⟩
theorem OwnClients.nil (w : World) (base : Nat) : OwnClients w base none 0 0 [] [] := ⟨rfl, rfl, World.ownsRow_nil _ _ _ _, fun k r h hr => by simp at hr, fun i j g h _ hi => by simp at hi⟩
/-- The blocks of the writes lie below the heap's end. -/
theorem OwnClients.heads_lt {l : List MClient} {hs : Heads} (h : OwnClients w base A n c l hs) : ∀ g ∈ hs, ∀ b, (Value.slice g.1 0 0).ownBlock = some b → base ≤ b ∧ b < w.heap.size := by
  intro g hg b hb
  obtain ⟨k, hk, rfl⟩ := List.mem_iff_getElem.1 hg
  obtain ⟨h1, h2, _, h4, _⟩ := h
  have hkl : k < l.length := by omega
  have ho := h4 k l[k] hs[k] (List.getElem?_eq_getElem hkl) (List.getElem?_eq_getElem hk)
  rw [ownBlock_any' hs[k].1 0 0 l[k].writes.length hs[k].2] at hb
  rcases ho.2 with ⟨e, _⟩ | ⟨g', cap, cur, e, hbg, hgg, _⟩
  · rw [e] at hb; simp [Value.ownBlock] at hb
  · rw [e] at hb; simp [Value.ownBlock] at hb; subst hb; exact ⟨hbg, blk_lt hgg⟩
end
/-- A row's reading where the old blocks are as they were. -/
theorem RowOk.keepAt {w w' : World} {B C n c : Nat} {A : Option Addr} {r : MRow} (h : RowOk w B r A n c) (hk : ∀ g, g < B → w'.heap[g]? = w.heap[g]?) (hC : B ≤ C) : RowOk w' C r A n c :=
  ⟨⟨(h.recs.at_.keep (fun p hp => World.cell?_of_block (hk p.block hp))).more hC, h.recs.le, h.recs.small, h.recs.nil⟩, h.key, h.lp⟩
theorem WritesOk.keepAt {w w' : World} {B C n c : Nat} {A : Option Addr} {r : List MWrite} (h : WritesOk w B A n c r) (hk : ∀ g, g < B → w'.heap[g]? = w.heap[g]?) (hC : B ≤ C) : WritesOk w' C A n c r :=
  ⟨(h.at_.keep (fun p hp => World.cell?_of_block (hk p.block hp))).more hC, h.le, h.small, h.nil, h.keys⟩
theorem OwnRows.more {w : World} {base base' n c : Nat} {A : Option Addr} {l : List MRow} {hs : Heads} (h : OwnRows w base A n c l hs) (hb : base' ≤ base) : OwnRows w base' A n c l hs :=
  ⟨h.1, h.2.1, own_more h.2.2.1 hb, fun k r g hr hh => own_more (h.2.2.2 k r g hr hh) hb⟩
theorem OwnClients.more {w : World} {base base' n c : Nat} {A : Option Addr} {l : List MClient} {hs : Heads} (h : OwnClients w base A n c l hs) (hb : base' ≤ base) : OwnClients w base' A n c l hs :=
  ⟨h.1, h.2.1, own_more h.2.2.1 hb, fun k r g hr hh => own_more (h.2.2.2.1 k r g hr hh) hb, h.2.2.2.2⟩
end Go.Proofs.Ytniomgngiiiklaa
