/- Worlds in memory: what it means that slices read as rows, as clients; owned rows and clients. No walk. -/
import Derived.Test.YtniomgngiiiklaaOpen
import Derived.Test.YtniomgngiiiklaaRep
import Derived.Test.YtniomgngiiiklaaModel
namespace Go.Proofs.Ytniomgngiiiklaa
open Go.RowKit

def clientCells (x : MClient) (A : Option Addr) (n c : Nat) : List Value := [.int .i64 x.phase, .int .i64 x.start, .int .i64 x.commit, .slice A n c, .int .i64 x.at_]
/-- A client's own words, and its writes in memory below B. -/
structure ClientOk (w : World) (B : Nat) (x : MClient) (A : Option Addr) (n c : Nat) : Prop where
  writes : WritesOk w B A n c x.writes

/-- The slice (A, n) reads as rows, in blocks below B. -/
structure RowsOk (w : World) (B : Nat) (A : Option Addr) (n c : Nat) (rows : List MRow) : Prop where
  len : rows.length = n
  at_ : ∀ (k : Nat) (r : MRow), rows[k]? = some r → ∃ b off A' n' c', A = some ⟨b, off, none⟩ ∧ b < B ∧ (∀ i u, (rowCells r A' n' c')[i]? = some u → w.cell? ⟨b, off + k * 5 + i, none⟩ = some u) ∧ RowOk w B r A' n' c'
  le : n ≤ c
  small : n * 80 ≤ 140737488351232
  nil : A = none → c = 0
structure ClientsOk (w : World) (B : Nat) (A : Option Addr) (n c : Nat) (cs : List MClient) : Prop where
  len : cs.length = n
  at_ : ∀ (k : Nat) (x : MClient), cs[k]? = some x → ∃ b off A' n' c', A = some ⟨b, off, none⟩ ∧ b < B ∧ (∀ i u, (clientCells x A' n' c')[i]? = some u → w.cell? ⟨b, off + k * 5 + i, none⟩ = some u) ∧ ClientOk w B x A' n' c'
  le : n ≤ c
  small : n * 56 ≤ 140737488351232
  nil : A = none → c = 0

section
variable {w w' : World} {B C n c : Nat} {A : Option Addr}
theorem ClientOk.below {x : MClient} (h : ClientOk w B x A n c) (hb : Below C w w') (hC : B ≤ C) : ClientOk w' B x A n c := ⟨h.writes.below hb hC⟩
theorem ClientOk.more {x : MClient} (h : ClientOk w B x A n c) (hC : B ≤ C) : ClientOk w C x A n c := ⟨h.writes.more hC⟩
theorem RowsOk.below {l : List MRow} (h : RowsOk w B A n c l) (hb : Below C w w') (hC : B ≤ C) : RowsOk w' B A n c l :=
  ⟨h.len, fun k r hr => by
    obtain ⟨b, off, A', n', c', e, hlt, hcell, hok⟩ := h.at_ k r hr
    exact ⟨b, off, A', n', c', e, hlt, fun i u hu => ((hb.mono hC).cell (p := ⟨b, off + k * 5 + i, none⟩) hlt).trans (hcell i u hu), hok.below hb hC⟩, h.le, h.small, h.nil⟩
theorem RowsOk.more {l : List MRow} (h : RowsOk w B A n c l) (hC : B ≤ C) : RowsOk w C A n c l :=
  ⟨h.len, fun k r hr => by
    obtain ⟨b, off, A', n', c', e, hlt, hcell, hok⟩ := h.at_ k r hr
    exact ⟨b, off, A', n', c', e, Nat.lt_of_lt_of_le hlt hC, hcell, hok.more hC⟩, h.le, h.small, h.nil⟩
theorem ClientsOk.below {l : List MClient} (h : ClientsOk w B A n c l) (hb : Below C w w') (hC : B ≤ C) : ClientsOk w' B A n c l :=
  ⟨h.len, fun k r hr => by
    obtain ⟨b, off, A', n', c', e, hlt, hcell, hok⟩ := h.at_ k r hr
    exact ⟨b, off, A', n', c', e, hlt, fun i u hu => ((hb.mono hC).cell (p := ⟨b, off + k * 5 + i, none⟩) hlt).trans (hcell i u hu), hok.below hb hC⟩, h.le, h.small, h.nil⟩
theorem ClientsOk.more {l : List MClient} (h : ClientsOk w B A n c l) (hC : B ≤ C) : ClientsOk w C A n c l :=
  ⟨h.len, fun k r hr => by
    obtain ⟨b, off, A', n', c', e, hlt, hcell, hok⟩ := h.at_ k r hr
    exact ⟨b, off, A', n', c', e, Nat.lt_of_lt_of_le hlt hC, hcell, hok.more hC⟩, h.le, h.small, h.nil⟩
theorem RowsOk.row {l : List MRow} (h : RowsOk w B A n c l) {k : Nat} (hk : k < n) : ∃ r b off A' n' c', l[k]? = some r ∧ A = some ⟨b, off, none⟩ ∧ b < B ∧ RowOk w B r A' n' c' ∧
    w.cell? ⟨b, off + k * 5, none⟩ = some (.string r.key) ∧ w.cell? ⟨b, off + k * 5 + 1, none⟩ = some (.int .i64 r.ls) ∧ w.cell? ⟨b, off + k * 5 + 2, none⟩ = some (.string r.lp) ∧ w.cell? ⟨b, off + k * 5 + 3, none⟩ = some (.string r.value) ∧ w.cell? ⟨b, off + k * 5 + 4, none⟩ = some (.slice A' n' c') := by
  have hl : k < l.length := by rw [h.len]; exact hk
  obtain ⟨b, off, A', n', c', e, hlt, hcell, hok⟩ := h.at_ k l[k] (List.getElem?_eq_getElem hl)
  exact ⟨l[k], b, off, A', n', c', List.getElem?_eq_getElem hl, e, hlt, hok, hcell 0 _ rfl, hcell 1 _ rfl, hcell 2 _ rfl, hcell 3 _ rfl, hcell 4 _ rfl⟩
theorem ClientsOk.client {l : List MClient} (h : ClientsOk w B A n c l) {k : Nat} (hk : k < n) : ∃ x b off A' n' c', l[k]? = some x ∧ A = some ⟨b, off, none⟩ ∧ b < B ∧ ClientOk w B x A' n' c' ∧
    w.cell? ⟨b, off + k * 5, none⟩ = some (.int .i64 x.phase) ∧ w.cell? ⟨b, off + k * 5 + 1, none⟩ = some (.int .i64 x.start) ∧ w.cell? ⟨b, off + k * 5 + 2, none⟩ = some (.int .i64 x.commit) ∧ w.cell? ⟨b, off + k * 5 + 3, none⟩ = some (.slice A' n' c') ∧ w.cell? ⟨b, off + k * 5 + 4, none⟩ = some (.int .i64 x.at_) := by
  have hl : k < l.length := by rw [h.len]; exact hk
  obtain ⟨b, off, A', n', c', e, hlt, hcell, hok⟩ := h.at_ k l[k] (List.getElem?_eq_getElem hl)
  exact ⟨l[k], b, off, A', n', c', List.getElem?_eq_getElem hl, e, hlt, hok, hcell 0 _ rfl, hcell 1 _ rfl, hcell 2 _ rfl, hcell 3 _ rfl, hcell 4 _ rfl⟩
end

/-! ### memory of the call's own -/
/-- Slice headers: an address and a capacity each. -/
abbrev Heads := List (Option Addr × Nat)
def rowsCells : List MRow → Heads → List Value
  | r :: l, h :: hs => rowCells r h.1 r.recs.length h.2 ++ rowsCells l hs
  | _, _ => []
def clientsCells : List MClient → Heads → List Value
  | x :: l, h :: hs => clientCells x h.1 x.writes.length h.2 ++ clientsCells l hs
  | _, _ => []
/-- A slice value that owns its rows, and the rows their records. -/
def OwnRows (w : World) (base : Nat) (A : Option Addr) (n c : Nat) (l : List MRow) (hs : Heads) : Prop :=
  l.length = n ∧ hs.length = n ∧ w.ownsRow base 30 5 (.slice A n c) n (rowsCells l hs) ∧
    ∀ (k : Nat) (r : MRow) (h : Option Addr × Nat), l[k]? = some r → hs[k]? = some h → w.ownsRow base 56 3 (.slice h.1 r.recs.length h.2) r.recs.length (recCells r.recs)
def OwnClients (w : World) (base : Nat) (A : Option Addr) (n c : Nat) (l : List MClient) (hs : Heads) : Prop :=
  l.length = n ∧ hs.length = n ∧ w.ownsRow base 63 5 (.slice A n c) n (clientsCells l hs) ∧
    (∀ (k : Nat) (x : MClient) (h : Option Addr × Nat), l[k]? = some x → hs[k]? = some h → w.ownsRow base 66 2 (.slice h.1 x.writes.length h.2) x.writes.length (writeCells x.writes)) ∧
    (∀ (i j : Nat) (g h : Option Addr × Nat), i ≠ j → hs[i]? = some g → hs[j]? = some h → (Value.slice g.1 0 0).ownBlock ≠ none → (Value.slice g.1 0 0).ownBlock ≠ (Value.slice h.1 0 0).ownBlock)

theorem rowsCells_snoc : ∀ {l : List MRow} {hs : Heads} (r : MRow) (h : Option Addr × Nat), l.length = hs.length → rowsCells (l ++ [r]) (hs ++ [h]) = rowsCells l hs ++ rowCells r h.1 r.recs.length h.2
  | [], [], r, h, _ => by simp [rowsCells]
  | x :: l, g :: hs, r, h, e => by
    simp only [List.cons_append, rowsCells, List.append_assoc]
    rw [rowsCells_snoc r h (by simpa using e)]
  | [], _ :: _, _, _, e => by simp at e
  | _ :: _, [], _, _, e => by simp at e
theorem clientsCells_snoc : ∀ {l : List MClient} {hs : Heads} (r : MClient) (h : Option Addr × Nat), l.length = hs.length → clientsCells (l ++ [r]) (hs ++ [h]) = clientsCells l hs ++ clientCells r h.1 r.writes.length h.2
  | [], [], r, h, _ => by simp [clientsCells]
  | x :: l, g :: hs, r, h, e => by
    simp only [List.cons_append, clientsCells, List.append_assoc]
    rw [clientsCells_snoc r h (by simpa using e)]
  | [], _ :: _, _, _, e => by simp at e
  | _ :: _, [], _, _, e => by simp at e
theorem rowsCells_at : ∀ {l : List MRow} {hs : Heads} {k : Nat} {r : MRow} {h : Option Addr × Nat} {i : Nat} {u : Value}, l[k]? = some r → hs[k]? = some h → (rowCells r h.1 r.recs.length h.2)[i]? = some u → (rowsCells l hs)[k * 5 + i]? = some u
  | [], _, k, r, h, i, u, hr, _, _ => by simp at hr
  | _ :: _, [], k, r, h, i, u, _, hh, _ => by simp at hh
  | x :: l, g :: hs, k, r, h, i, u, hr, hh, hu => by
    have hi : i < 5 := (List.getElem?_eq_some_iff.1 hu).1
    unfold rowsCells
    match k, hr, hh with
    | 0, hr, hh =>
      simp at hr hh; subst hr hh
      rw [List.getElem?_append_left (by simp [rowCells]; omega)]
      simpa using hu
    | k + 1, hr, hh =>
      rw [List.getElem?_append_right (by simp [rowCells]; omega)]
      have := rowsCells_at (l := l) (hs := hs) (k := k) (by simpa using hr) (by simpa using hh) hu
      rw [← this]; congr 1; simp [rowCells]; omega
theorem clientsCells_at : ∀ {l : List MClient} {hs : Heads} {k : Nat} {r : MClient} {h : Option Addr × Nat} {i : Nat} {u : Value}, l[k]? = some r → hs[k]? = some h → (clientCells r h.1 r.writes.length h.2)[i]? = some u → (clientsCells l hs)[k * 5 + i]? = some u
  | [], _, k, r, h, i, u, hr, _, _ => by simp at hr
  | _ :: _, [], k, r, h, i, u, _, hh, _ => by simp at hh
  | x :: l, g :: hs, k, r, h, i, u, hr, hh, hu => by
    have hi : i < 5 := (List.getElem?_eq_some_iff.1 hu).1
    unfold clientsCells
    match k, hr, hh with
    | 0, hr, hh =>
      simp at hr hh; subst hr hh
      rw [List.getElem?_append_left (by simp [clientCells]; omega)]
      simpa using hu
    | k + 1, hr, hh =>
      rw [List.getElem?_append_right (by simp [clientCells]; omega)]
      have := clientsCells_at (l := l) (hs := hs) (k := k) (by simpa using hr) (by simpa using hh) hu
      rw [← this]; congr 1; simp [clientCells]; omega
theorem rowCells_one {r : MRow} {A : Option Addr} {n c : Nat} : ∀ u ∈ rowCells r A n c, u.oneCell' = true := by
  intro u hu; simp [rowCells] at hu; rcases hu with rfl | rfl | rfl | rfl | rfl <;> rfl
theorem clientCells_one {r : MClient} {A : Option Addr} {n c : Nat} : ∀ u ∈ clientCells r A n c, u.oneCell' = true := by
  intro u hu; simp [clientCells] at hu; rcases hu with rfl | rfl | rfl | rfl | rfl <;> rfl
theorem rowsCells_one : ∀ {l : List MRow} {hs : Heads}, ∀ u ∈ rowsCells l hs, u.oneCell' = true
  | [], _, u, hu => by simp [rowsCells] at hu
  | _ :: _, [], u, hu => by simp [rowsCells] at hu
  | x :: l, g :: hs, u, hu => by
    unfold rowsCells at hu
    rcases List.mem_append.1 hu with h | h
    · exact rowCells_one u h
    · exact rowsCells_one u h
theorem clientsCells_one : ∀ {l : List MClient} {hs : Heads}, ∀ u ∈ clientsCells l hs, u.oneCell' = true
  | [], _, u, hu => by simp [clientsCells] at hu
  | _ :: _, [], u, hu => by simp [clientsCells] at hu
  | x :: l, g :: hs, u, hu => by
    unfold clientsCells at hu
    rcases List.mem_append.1 hu with h | h
    · exact clientCells_one u h
    · exact clientsCells_one u h
theorem own_facts {w : World} {base n c size : Nat} {e : TypeId} {A : Option Addr} {xs : List Value} (h : w.ownsRow base e size (.slice A n c) n xs) : n ≤ c ∧ (A = none → c = 0) := by
  rcases h.2 with ⟨hv, rfl⟩ | ⟨g, cap, cur, hv, _, _, hn, _⟩
  · injection hv with e1 _ e3; exact ⟨by omega, fun _ => e3⟩
  · injection hv with e1 _ e3
    exact ⟨by omega, fun e => by rw [e] at e1; cases e1⟩
theorem own_cell {w : World} {base n c size : Nat} {e : TypeId} {A : Option Addr} {xs : List Value} (h : w.ownsRow base e size (.slice A n c) n xs) {j : Nat} {u : Value} (hu : xs[j]? = some u) : ∃ g, A = some ⟨g, 0, none⟩ ∧ g < w.heap.size ∧ w.cell? ⟨g, j, none⟩ = some u := by
  have hl := h.1
  rcases h.2 with ⟨hv, hn⟩ | ⟨g, cap, cur, hv, _⟩
  · have := (List.getElem?_eq_some_iff.1 hu).1
    rw [hn] at hl; omega
  · injection hv with e1 e2 e3
    subst e1 e3
    have hlt := h.lt g rfl
    have := h.cells (g := g) rfl j u hu
    rw [addr_add] at this
    exact ⟨g, rfl, hlt.2, by simpa using this⟩
theorem RecsOk.own {w : World} {base n c : Nat} {A : Option Addr} {rs : List MRec} (h : w.ownsRow base 56 3 (.slice A n c) n (recCells rs)) (hs : n * 32 ≤ 140737488351232) : RecsOk w w.heap.size A n c rs :=
  ⟨RecsAt.of_own h, (own_facts h).1, hs, (own_facts h).2⟩
theorem WritesOk.own {w : World} {base n c : Nat} {A : Option Addr} {rs : List MWrite} (h : w.ownsRow base 66 2 (.slice A n c) n (writeCells rs)) (hs : n * 32 ≤ 140737488351232) (hk : ∀ x ∈ rs, x.key.size ≤ maxLen) : WritesOk w w.heap.size A n c rs :=
  ⟨WritesAt.of_own h, (own_facts h).1, hs, (own_facts h).2, hk⟩
/-- What the sizes of rows must be, to be read. -/
structure RowsSized (l : List MRow) : Prop where
  many : l.length * 80 ≤ 140737488351232
  each : ∀ r ∈ l, r.recs.length * 32 ≤ 140737488351232 ∧ r.key.size ≤ maxLen ∧ r.lp.size ≤ maxLen
structure ClientsSized (l : List MClient) : Prop where
  many : l.length * 56 ≤ 140737488351232
  each : ∀ x ∈ l, x.writes.length * 32 ≤ 140737488351232 ∧ ∀ y ∈ x.writes, y.key.size ≤ maxLen
theorem RowsOk.sized {w : World} {B n c : Nat} {A : Option Addr} {l : List MRow} (h : RowsOk w B A n c l) : RowsSized l :=
  ⟨by rw [h.len]; exact h.small, fun r hr => by
    obtain ⟨k, hk, rfl⟩ := List.mem_iff_getElem.1 hr
    obtain ⟨b, off, A', n', c', _, _, _, hok⟩ := h.at_ k _ (List.getElem?_eq_getElem hk)
    have h1 := hok.recs.small
    rw [← hok.recs.at_.1] at h1
    exact ⟨h1, hok.key, hok.lp⟩⟩
theorem ClientsOk.sized {w : World} {B n c : Nat} {A : Option Addr} {l : List MClient} (h : ClientsOk w B A n c l) : ClientsSized l :=
  ⟨by rw [h.len]; exact h.small, fun r hr => by
    obtain ⟨k, hk, rfl⟩ := List.mem_iff_getElem.1 hr
    obtain ⟨b, off, A', n', c', _, _, _, hok⟩ := h.at_ k _ (List.getElem?_eq_getElem hk)
    have h1 := hok.writes.small
    rw [← hok.writes.at_.1] at h1
    exact ⟨h1, hok.writes.keys⟩⟩
theorem OwnRows.ok {w : World} {base n c : Nat} {A : Option Addr} {l : List MRow} {hs : Heads} (h : OwnRows w base A n c l hs) (hz : RowsSized l) : RowsOk w w.heap.size A n c l := by
  obtain ⟨h1, h2, h3, h4⟩ := h
  refine ⟨h1, fun k r hr => ?_, (own_facts h3).1, by rw [← h1]; exact hz.many, (own_facts h3).2⟩
  have hk : k < l.length := (List.getElem?_eq_some_iff.1 hr).1
  have hh : hs[k]? = some hs[k] := List.getElem?_eq_getElem (by omega)
  have hzr := hz.each r (List.mem_of_getElem? hr)
  obtain ⟨g, hA, hg, _⟩ := own_cell h3 (rowsCells_at hr hh (i := 0) rfl)
  refine ⟨g, 0, hs[k].1, r.recs.length, hs[k].2, hA, hg, fun i u hu => ?_, ⟨RecsOk.own (h4 k r _ hr hh) hzr.1, hzr.2.1, hzr.2.2⟩⟩
  obtain ⟨g', hA', _, hc⟩ := own_cell h3 (rowsCells_at hr hh hu)
  rw [hA] at hA'; injection hA' with hA'; injection hA' with hA'
  rw [← hA'] at hc
  simpa using hc
theorem OwnClients.ok {w : World} {base n c : Nat} {A : Option Addr} {l : List MClient} {hs : Heads} (h : OwnClients w base A n c l hs) (hz : ClientsSized l) : ClientsOk w w.heap.size A n c l := by
  obtain ⟨h1, h2, h3, h4, _⟩ := h
  refine ⟨h1, fun k r hr => ?_, (own_facts h3).1, by rw [← h1]; exact hz.many, (own_facts h3).2⟩
  have hk : k < l.length := (List.getElem?_eq_some_iff.1 hr).1
  have hh : hs[k]? = some hs[k] := List.getElem?_eq_getElem (by omega)
  have hzr := hz.each r (List.mem_of_getElem? hr)
  obtain ⟨g, hA, hg, _⟩ := own_cell h3 (clientsCells_at hr hh (i := 0) rfl)
  refine ⟨g, 0, hs[k].1, r.writes.length, hs[k].2, hA, hg, fun i u hu => ?_, ⟨WritesOk.own (h4 k r _ hr hh) hzr.1 hzr.2⟩⟩
  obtain ⟨g', hA', _, hc⟩ := own_cell h3 (clientsCells_at hr hh hu)
  rw [hA] at hA'; injection hA' with hA'; injection hA' with hA'
  rw [← hA'] at hc
  simpa using hc
end Go.Proofs.Ytniomgngiiiklaa

/- Owned rows and clients under what leaves their blocks alone: told by the blocks' types. No walk. -/
namespace Go.Proofs.Ytniomgngiiiklaa
open Go.RowKit

theorem ownBlock_any' (A : Option Addr) (n c m d : Nat) : (Value.slice A n c).ownBlock = (Value.slice A m d).ownBlock := by cases A <;> rfl
section
variable {w w' : World} {base n c size : Nat} {e : TypeId} {A : Option Addr}
theorem own_typed {v : Value} {xs : List Value} (h : w.ownsRow base e size v n xs) (hk : ∀ g cs, base ≤ g → w.heap[g]? = some (.cells cs e (0, 0)) → w'.heap[g]? = w.heap[g]?) : w'.ownsRow base e size v n xs := by
  refine ⟨h.1, ?_⟩
  rcases h.2 with h | ⟨g', cap, cur, rfl, hbg, hg, r⟩
  · exact .inl h
  · exact .inr ⟨g', cap, cur, rfl, hbg, (hk g' cur hbg hg).trans hg, r⟩
/-- Rows of two element types lie in two blocks. -/
theorem own_types {e' : TypeId} {m size' base' : Nat} {v v' : Value} {xs ys : List Value} (h : w.ownsRow base e size v n xs) (h' : w.ownsRow base' e' size' v' m ys) (hne : e ≠ e') : v.ownBlock = none ∨ v.ownBlock ≠ v'.ownBlock := by
  rcases h.2 with ⟨rfl, _⟩ | ⟨g, cap, cur, rfl, hbg, hg, r⟩
  · exact .inl rfl
  · refine .inr ?_
    rcases h'.2 with ⟨rfl, _⟩ | ⟨g', cap', cur', rfl, hbg', hg', r'⟩
    · simp [Value.ownBlock]
    · intro he
      simp only [Value.ownBlock, Option.some.injEq] at he
      have he' : g = g' := he
      subst he'
      exact blk_ne hg hg' hne rfl
theorem OwnRows.typed {l : List MRow} {hs : Heads} (h : OwnRows w base A n c l hs) (hk : ∀ g cs t, base ≤ g → w.heap[g]? = some (.cells cs t (0, 0)) → (t = 30 ∨ t = 56) → w'.heap[g]? = w.heap[g]?) : OwnRows w' base A n c l hs :=
  ⟨h.1, h.2.1, own_typed h.2.2.1 fun g cs hb hg => hk g cs _ hb hg (.inl rfl), fun k r g hr hh => own_typed (h.2.2.2 k r g hr hh) fun g cs hb hg => hk g cs _ hb hg (.inr rfl)⟩
theorem OwnClients.typed {l : List MClient} {hs : Heads} (h : OwnClients w base A n c l hs) (hk : ∀ g cs t, base ≤ g → w.heap[g]? = some (.cells cs t (0, 0)) → (t = 63 ∨ t = 66) → w'.heap[g]? = w.heap[g]?) : OwnClients w' base A n c l hs :=
  ⟨h.1, h.2.1, own_typed h.2.2.1 fun g cs hb hg => hk g cs _ hb hg (.inl rfl), fun k r g hr hh => own_typed (h.2.2.2.1 k r g hr hh) fun g cs hb hg => hk g cs _ hb hg (.inr rfl), h.2.2.2.2⟩
theorem OwnRows.below {l : List MRow} {hs : Heads} {B : Nat} (h : OwnRows w base A n c l hs) (hb : Below B w w') (hB : w.heap.size ≤ B) : OwnRows w' base A n c l hs :=
  h.typed fun g _ _ _ hg _ => hb.block g (Nat.lt_of_lt_of_le (blk_lt hg) hB)
theorem OwnClients.below {l : List MClient} {hs : Heads} {B : Nat} (h : OwnClients w base A n c l hs) (hb : Below B w w') (hB : w.heap.size ≤ B) : OwnClients w' base A n c l hs :=
  h.typed fun g _ _ _ hg _ => hb.block g (Nat.lt_of_lt_of_le (blk_lt hg) hB)
theorem OwnRows.set {l : List MRow} {hs : Heads} {g i : Nat} {cs : Array Value} {t : TypeId} (h : OwnRows w base A n c l hs) (hg : w.heap[g]? = some (.cells cs t (0, 0))) (ht : t ≠ 30 ∧ t ≠ 56) (u : Value) : OwnRows (w.setCell ⟨g, i, none⟩ u) base A n c l hs :=
  h.typed fun g' cs' t' _ hg' ht' => Below.heap_setCell w _ u g' (by
    rintro rfl
    rw [hg] at hg'
    injection hg' with hg'
    injection hg' with _ e
    subst e
    rcases ht' with e | e
    · exact ht.1 e
    · exact ht.2 e)
theorem OwnClients.set {l : List MClient} {hs : Heads} {g i : Nat} {cs : Array Value} {t : TypeId} (h : OwnClients w base A n c l hs) (hg : w.heap[g]? = some (.cells cs t (0, 0))) (ht : t ≠ 63 ∧ t ≠ 66) (u : Value) : OwnClients (w.setCell ⟨g, i, none⟩ u) base A n c l hs :=
  h.typed fun g' cs' t' _ hg' ht' => Below.heap_setCell w _ u g' (by
    rintro rfl
    rw [hg] at hg'
    injection hg' with hg'
    injection hg' with _ e
    subst e
    rcases ht' with e | e
    · exact ht.1 e
    · exact ht.2 e)
/-- A row more. -/
theorem OwnRows.add {w2 : World} {l : List MRow} {hs : Heads} {A2 A3 : Option Addr} {c2 c3 : Nat} {r : MRow} (h : OwnRows w base A n c l hs) (hrec : w.ownsRow base 56 3 (.slice A2 r.recs.length c2) r.recs.length (recCells r.recs))
    (hg : w.grownBy w2 (Value.slice A n c).ownBlock) (hnew : w2.ownsRow base 30 5 (.slice A3 (n + 1) c3) (n + 1) (rowsCells l hs ++ rowCells r A2 r.recs.length c2)) : OwnRows w2 base A3 (n + 1) c3 (l ++ [r]) (hs ++ [(A2, c2)]) := by
  obtain ⟨h1, h2, h3, h4⟩ := h
  refine ⟨by simp [h1], by simp [h2], ?_, fun k q g hq hh => ?_⟩
  · rw [rowsCells_snoc r (A2, c2) (by omega)]; exact hnew
  · have hkeep : ∀ {v : Value} {m : Nat} {xs : List Value}, w.ownsRow base 56 3 v m xs → w2.ownsRow base 56 3 v m xs := fun ho => ho.kept hg (own_types ho h3 (by decide))
    by_cases hk : k < n
    · rw [List.getElem?_append_left (by omega)] at hq hh
      exact hkeep (h4 k q g hq hh)
    · rw [List.getElem?_append_right (by omega)] at hq hh
      have hkn : k - l.length = 0 := by
        have := (List.getElem?_eq_some_iff.1 hq).1
        simp at this; omega
      rw [hkn] at hq
      rw [show k - hs.length = 0 by omega] at hh
      simp at hq hh
      subst hq hh
      exact hkeep hrec
theorem OwnClients.add {w2 : World} {l : List MClient} {hs : Heads} {A2 A3 : Option Addr} {c2 c3 : Nat} {r : MClient} (h : OwnClients w base A n c l hs) (hrec : w.ownsRow base 66 2 (.slice A2 r.writes.length c2) r.writes.length (writeCells r.writes))
    (hnew' : ∀ g ∈ hs, (Value.slice g.1 0 0).ownBlock ≠ none → (Value.slice g.1 0 0).ownBlock ≠ (Value.slice A2 0 0).ownBlock)
    (hg : w.grownBy w2 (Value.slice A n c).ownBlock) (hnew : w2.ownsRow base 63 5 (.slice A3 (n + 1) c3) (n + 1) (clientsCells l hs ++ clientCells r A2 r.writes.length c2)) : OwnClients w2 base A3 (n + 1) c3 (l ++ [r]) (hs ++ [(A2, c2)]) := by
  obtain ⟨h1, h2, h3, h4, h5⟩ := h
  refine ⟨by simp [h1], by simp [h2], ?_, fun k q g hq hh => ?_, fun i j g q hij hi hj hn => ?_⟩
  · rw [clientsCells_snoc r (A2, c2) (by omega)]; exact hnew
  · have hkeep : ∀ {v : Value} {m : Nat} {xs : List Value}, w.ownsRow base 66 2 v m xs → w2.ownsRow base 66 2 v m xs := fun ho => ho.kept hg (own_types ho h3 (by decide))
    by_cases hk : k < n
    · rw [List.getElem?_append_left (by omega)] at hq hh
      exact hkeep (h4 k q g hq hh)
    · rw [List.getElem?_append_right (by omega)] at hq hh
      have hkn : k - l.length = 0 := by
        have := (List.getElem?_eq_some_iff.1 hq).1
        simp at this; omega
      rw [hkn] at hq
      rw [show k - hs.length = 0 by omega] at hh
      simp at hq hh
      subst hq hh
      exact hkeep hrec
  · have hlen : ∀ (i : Nat) (g : Option Addr × Nat), (hs ++ [(A2, c2)])[i]? = some g → (i < n ∧ hs[i]? = some g) ∨ (i = n ∧ g = (A2, c2)) := fun i g hi => by
      by_cases hin : i < n
      · rw [List.getElem?_append_left (by omega)] at hi; exact .inl ⟨hin, hi⟩
      · rw [List.getElem?_append_right (by omega)] at hi
        have hl := (List.getElem?_eq_some_iff.1 hi).1
        simp at hl
        rw [show i - hs.length = 0 by omega] at hi
        simp at hi
        exact .inr ⟨by omega, hi.symm⟩
    rcases hlen i g hi with ⟨_, hi⟩ | ⟨ei, eg⟩
    · rcases hlen j q hj with ⟨_, hj⟩ | ⟨ej, eq⟩
      · exact h5 i j g q hij hi hj hn
      · subst eq; exact hnew' g (List.mem_of_getElem? hi) hn
    · rcases hlen j q hj with ⟨_, hj⟩ | ⟨ej, eq⟩
      · subst eg
        intro e
        exact hnew' q (List.mem_of_getElem? hj) (by rw [← e]; exact hn) e.symm
      · exact absurd (ei.trans ej.symm) hij
theorem OwnRows.nil (w : World) (base : Nat) : OwnRows w base none 0 0 [] [] := ⟨rfl, rfl, World.ownsRow_nil _ _ _ _, fun k r h hr => by simp at hr⟩
theorem OwnClients.nil (w : World) (base : Nat) : OwnClients w base none 0 0 [] [] := ⟨rfl, rfl, World.ownsRow_nil _ _ _ _, fun k r h hr => by simp at hr, fun i j g h _ hi => by simp at hi⟩
/-- The blocks of the writes lie below the heap's end. -/
theorem OwnClients.heads_lt {l : List MClient} {hs : Heads} (h : OwnClients w base A n c l hs) : ∀ g ∈ hs, ∀ b, (Value.slice g.1 0 0).ownBlock = some b → base ≤ b ∧ b < w.heap.size := by
  intro g hg b hb
  obtain ⟨k, hk, rfl⟩ := List.mem_iff_getElem.1 hg
  obtain ⟨h1, h2, _, h4, _⟩ := h
  have hkl : k < l.length := by omega
  have ho := h4 k l[k] hs[k] (List.getElem?_eq_getElem hkl) (List.getElem?_eq_getElem hk)
  rw [ownBlock_any' hs[k].1 0 0 l[k].writes.length hs[k].2] at hb
  rcases ho.2 with ⟨e, _⟩ | ⟨g', cap, cur, e, hbg, hgg, _⟩
  · rw [e] at hb; simp [Value.ownBlock] at hb
  · rw [e] at hb; simp [Value.ownBlock] at hb; subst hb; exact ⟨hbg, blk_lt hgg⟩
end
/-- A row's reading where the old blocks are as they were. -/
theorem RowOk.keepAt {w w' : World} {B C n c : Nat} {A : Option Addr} {r : MRow} (h : RowOk w B r A n c) (hk : ∀ g, g < B → w'.heap[g]? = w.heap[g]?) (hC : B ≤ C) : RowOk w' C r A n c :=
  ⟨⟨(h.recs.at_.keep (fun p hp => World.cell?_of_block (hk p.block hp))).more hC, h.recs.le, h.recs.small, h.recs.nil⟩, h.key, h.lp⟩
theorem WritesOk.keepAt {w w' : World} {B C n c : Nat} {A : Option Addr} {r : List MWrite} (h : WritesOk w B A n c r) (hk : ∀ g, g < B → w'.heap[g]? = w.heap[g]?) (hC : B ≤ C) : WritesOk w' C A n c r :=
  ⟨(h.at_.keep (fun p hp => World.cell?_of_block (hk p.block hp))).more hC, h.le, h.small, h.nil, h.keys⟩
theorem OwnRows.more {w : World} {base base' n c : Nat} {A : Option Addr} {l : List MRow} {hs : Heads} (h : OwnRows w base A n c l hs) (hb : base' ≤ base) : OwnRows w base' A n c l hs :=
  ⟨h.1, h.2.1, own_more h.2.2.1 hb, fun k r g hr hh => own_more (h.2.2.2 k r g hr hh) hb⟩
theorem OwnClients.more {w : World} {base base' n c : Nat} {A : Option Addr} {l : List MClient} {hs : Heads} (h : OwnClients w base A n c l hs) (hb : base' ≤ base) : OwnClients w base' A n c l hs :=
  ⟨h.1, h.2.1, own_more h.2.2.1 hb, fun k r g hr hh => own_more (h.2.2.2.1 k r g hr hh) hb, h.2.2.2.2⟩
end Go.Proofs.Ytniomgngiiiklaa

/- Acts and answers in memory. No walk. -/
namespace Go.Proofs.Ytniomgngiiiklaa
open Go.RowKit

/-! ### cells of a list, a fixed number for each -/
section
variable {α : Type} {f : α → List Value} {s : Nat}
theorem flat_length (hf : ∀ x, (f x).length = s) : ∀ l : List α, (l.flatMap f).length = l.length * s
  | [] => by simp
  | x :: l => by
    rw [List.flatMap_cons, List.length_append, hf, flat_length hf l, List.length_cons, Nat.add_mul, Nat.one_mul, Nat.add_comm]
theorem flat_at (hf : ∀ x, (f x).length = s) : ∀ {l : List α} {k i : Nat} {x : α} {u : Value}, l[k]? = some x → (f x)[i]? = some u → (l.flatMap f)[k * s + i]? = some u
  | [], k, i, x, u, h, _ => by simp at h
  | y :: l, 0, i, x, u, h, hu => by
    have e : y = x := by simpa using h
    subst e
    have hi := (List.getElem?_eq_some_iff.1 hu).1
    rw [List.flatMap_cons, List.getElem?_append_left (by omega)]
    simpa using hu
  | y :: l, k + 1, i, x, u, h, hu => by
    rw [List.flatMap_cons, List.getElem?_append_right (by rw [hf, Nat.add_mul]; omega), hf]
    have := flat_at hf (l := l) (k := k) (by simpa using h) hu
    rw [← this]; congr 1; rw [Nat.add_mul]; omega
theorem flat_snoc {l : List α} {x : α} : (l ++ [x]).flatMap f = l.flatMap f ++ f x := by simp
theorem flat_one (hf : ∀ x, ∀ u ∈ f x, u.oneCell' = true) {l : List α} : ∀ u ∈ l.flatMap f, u.oneCell' = true := fun u hu => by
  obtain ⟨x, _, h⟩ := List.mem_flatMap.1 hu
  exact hf x u h
theorem flat_own {w : World} {base n c : Nat} {e : TypeId} {A : Option Addr} {l : List α} (hf : ∀ x, (f x).length = s) (hs : 0 < s) (h : w.ownsRow base e s (.slice A n c) n (l.flatMap f)) {k : Nat} {x : α} (hx : l[k]? = some x) :
    ∃ g, A = some ⟨g, 0, none⟩ ∧ g < w.heap.size ∧ ∀ i u, (f x)[i]? = some u → w.cell? ⟨g, k * s + i, none⟩ = some u := by
  have h0 : f x ≠ [] := fun e => by have := hf x; rw [e] at this; simp at this; omega
  obtain ⟨u0, hu0⟩ : ∃ u0, (f x)[0]? = some u0 := by
    cases hfx : f x with
    | nil => exact absurd hfx h0
    | cons a t => exact ⟨a, rfl⟩
  obtain ⟨g, e, hg, _⟩ := own_cell h (flat_at hf hx hu0)
  refine ⟨g, e, hg, fun i u hu => ?_⟩
  obtain ⟨g', e', _, hc⟩ := own_cell h (flat_at hf hx hu)
  rw [e] at e'; injection e' with e'; injection e' with e'
  rw [e']; exact hc
end

/-! ### acts -/
def MAct.cells (a : MAct) : List Value := [.int .i64 a.kind, .int .i64 a.c, .string a.key, .string a.value]
def actCells (l : List MAct) : List Value := l.flatMap MAct.cells
/-- The slice (A, n) reads as acts, in blocks below B. -/
structure ActsOk (w : World) (B : Nat) (A : Option Addr) (n : Nat) (l : List MAct) : Prop where
  len : l.length = n
  at_ : ∀ (k : Nat) (a : MAct), l[k]? = some a → ∃ b off, A = some ⟨b, off, none⟩ ∧ b < B ∧ w.cell? ⟨b, off + k * 4, none⟩ = some (.int .i64 a.kind) ∧ w.cell? ⟨b, off + k * 4 + 1, none⟩ = some (.int .i64 a.c) ∧
    w.cell? ⟨b, off + k * 4 + 2, none⟩ = some (.string a.key) ∧ w.cell? ⟨b, off + k * 4 + 3, none⟩ = some (.string a.value)
theorem actCells_one {l : List MAct} : ∀ u ∈ actCells l, u.oneCell' = true := flat_one fun x u hu => by
  simp [MAct.cells] at hu; rcases hu with rfl | rfl | rfl | rfl <;> rfl
theorem ActsOk.of_own {w : World} {base n c : Nat} {e : TypeId} {A : Option Addr} {l : List MAct} (h : w.ownsRow base e 4 (.slice A n c) n (actCells l)) : ActsOk w w.heap.size A n l := by
  have hl : l.length = n := by have := h.1; have h2 := flat_length (f := MAct.cells) (s := 4) (fun _ => rfl) l; unfold actCells at this; omega
  refine ⟨hl, fun k a ha => ?_⟩
  obtain ⟨g, e, hg, hc⟩ := flat_own (f := MAct.cells) (s := 4) (fun _ => rfl) (by omega) h ha
  have h0 := hc 0 _ rfl
  have h1 := hc 1 _ rfl
  have h2 := hc 2 _ rfl
  have h3 := hc 3 _ rfl
  exact ⟨g, 0, e, hg, by simpa using h0, by simpa using h1, by simpa using h2, by simpa using h3⟩
section
variable {w w' : World} {B C n : Nat} {A : Option Addr} {l : List MAct}
theorem ActsOk.below (h : ActsOk w B A n l) (hb : Below C w w') (hC : B ≤ C) : ActsOk w' B A n l :=
  ⟨h.len, fun k a ha => by
    obtain ⟨b, off, e, hlt, h0, h1, h2, h3⟩ := h.at_ k a ha
    have hk : ∀ i, w'.cell? ⟨b, i, none⟩ = w.cell? ⟨b, i, none⟩ := fun i => (hb.mono hC).cell (p := ⟨b, i, none⟩) hlt
    exact ⟨b, off, e, hlt, (hk _).trans h0, (hk _).trans h1, (hk _).trans h2, (hk _).trans h3⟩⟩
theorem ActsOk.more (h : ActsOk w B A n l) (hC : B ≤ C) : ActsOk w C A n l :=
  ⟨h.len, fun k a ha => by
    obtain ⟨b, off, e, hlt, hc⟩ := h.at_ k a ha
    exact ⟨b, off, e, Nat.lt_of_lt_of_le hlt hC, hc⟩⟩
theorem ActsOk.act (h : ActsOk w B A n l) {k : Nat} (hk : k < n) : ∃ a b off, l[k]? = some a ∧ A = some ⟨b, off, none⟩ ∧ b < B ∧ w.cell? ⟨b, off + k * 4, none⟩ = some (.int .i64 a.kind) ∧ w.cell? ⟨b, off + k * 4 + 1, none⟩ = some (.int .i64 a.c) ∧
    w.cell? ⟨b, off + k * 4 + 2, none⟩ = some (.string a.key) ∧ w.cell? ⟨b, off + k * 4 + 3, none⟩ = some (.string a.value) := by
  have hl : k < l.length := by rw [h.len]; exact hk
  obtain ⟨b, off, hc⟩ := h.at_ k l[k] (List.getElem?_eq_getElem hl)
  exact ⟨l[k], b, off, List.getElem?_eq_getElem hl, hc⟩
/-- A part of a script, as a slice of its memory. -/
theorem ActsOk.take (h : ActsOk w B A n l) {m : Nat} (hm : m ≤ n) : ActsOk w B A m (l.take m) :=
  ⟨by rw [List.length_take, h.len]; omega, fun k a ha => h.at_ k a (by
    rw [List.getElem?_take] at ha
    split at ha
    · exact ha
    · cases ha)⟩
end

/-! ### answers -/
def MAns.cells (a : MAns) : List Value := [.int .i64 a.code, .bool a.is, .string a.value, .int .i64 a.phase, .int .i64 a.time]
def ansList (l : List MAns) : List Value := l.flatMap MAns.cells
theorem ans_one {a : MAns} : ∀ u ∈ a.cells, u.oneCell' = true := fun u hu => by
  simp [MAns.cells] at hu; rcases hu with rfl | rfl | rfl | rfl | rfl <;> rfl
theorem ansList_one {l : List MAns} : ∀ u ∈ ansList l, u.oneCell' = true := flat_one fun _ => ans_one
/-- The cells of answer k. -/
theorem ans_at {w : World} {base n c : Nat} {e : TypeId} {A : Option Addr} {l : List MAns} (h : w.ownsRow base e 5 (.slice A n c) n (ansList l)) {k : Nat} (hk : k < n) :
    ∃ a g, l[k]? = some a ∧ A = some ⟨g, 0, none⟩ ∧ g < w.heap.size ∧ base ≤ g ∧ w.cell? ⟨g, k * 5, none⟩ = some (.int .i64 a.code) ∧ w.cell? ⟨g, k * 5 + 1, none⟩ = some (.bool a.is) ∧ w.cell? ⟨g, k * 5 + 2, none⟩ = some (.string a.value) ∧ w.cell? ⟨g, k * 5 + 3, none⟩ = some (.int .i64 a.phase) ∧ w.cell? ⟨g, k * 5 + 4, none⟩ = some (.int .i64 a.time) := by
  have hl : l.length = n := by have := h.1; have h2 := flat_length (f := MAns.cells) (s := 5) (fun _ => rfl) l; unfold ansList at this; omega
  have hx : l[k]? = some (l[k]'(by omega)) := List.getElem?_eq_getElem _
  obtain ⟨g, e, hg, hc⟩ := flat_own (f := MAns.cells) (s := 5) (fun _ => rfl) (by omega) h hx
  have hb := own_base h g (by rw [e]; rfl)
  have h0 := hc 0 _ rfl
  have h1 := hc 1 _ rfl
  have h2 := hc 2 _ rfl
  have h3 := hc 3 _ rfl
  have h4 := hc 4 _ rfl
  exact ⟨_, g, hx, e, hg, hb, by simpa using h0, h1, h2, h3, h4⟩
end Go.Proofs.Ytniomgngiiiklaa
