/- Worlds in memory: what it means that slices read as rows, as clients; owned rows and clients. No walk. -/
import Derived.Test.YtniomgngiiiklabGroundM
import Derived.Test.YtniomgngiiiklabPlainM
namespace Go.Proofs.Ytniomgngiiiklab
open Go.RowKit

def clientCells (x : MClient) (A : Option Addr) (n c : Nat) : List Value := [.int .i64 x.phase, .int .i64 x.start, .int .i64 x.commit, .slice A n c, .int .i64 x.at_]
/-- A client's own words, and its writes in memory below B. -/
structure ClientOk (w : World) (B : Nat) (x : MClient) (A : Option Addr) (n c : Nat) : Prop where
  writes : WritesOk w B A n c x.writes

/-- The slice (A, n) reads as rows, in blocks below B. -/
structure RowsOk (w : World) (B : Nat) (A : Option Addr) (n c : Nat) (rows : List MRow) : Prop where
  len : rows.length = n
  at_ : ∀ (k : Nat) (r : MRow), rows[k]? = some r → ∃ b off A' n' c', A = some ⟨b, off, none⟩ ∧ b < B ∧ (∀ i u, (rowCells r A' n' c')[i]? = some u → w.cell? ⟨b, off + k * 5 + i, none⟩ = some u) ∧ RowOk w B r A' n' c'
  le : n ≤ c
  small : n * 80 ≤ 140737488351232
  nil : A = none → c = 0
structure ClientsOk (w : World) (B : Nat) (A : Option Addr) (n c : Nat) (cs : List MClient) : Prop where
  len : cs.length = n
  at_ : ∀ (k : Nat) (x : MClient), cs[k]? = some x → ∃ b off A' n' c', A = some ⟨b, off, none⟩ ∧ b < B ∧ (∀ i u, (clientCells x A' n' c')[i]? = some u → w.cell? ⟨b, off + k * 5 + i, none⟩ = some u) ∧ ClientOk w B x A' n' c'
  le : n ≤ c
  small : n * 56 ≤ 140737488351232
  nil : A = none → c = 0

section
variable {w w' : World} {B C n c : Nat} {A : Option Addr}
theorem ClientOk.below {x : MClient} (h : ClientOk w B x A n c) (hb : Below C w w') (hC : B ≤ C) : ClientOk w' B x A n c := ⟨h.writes.below hb hC⟩
theorem ClientOk.more {x : MClient} (h : ClientOk w B x A n c) (hC : B ≤ C) : ClientOk w C x A n c := ⟨h.writes.more hC⟩
theorem RowsOk.below {l : List MRow} (h : RowsOk w B A n c l) (hb : Below C w w') (hC : B ≤ C) : RowsOk w' B A n c l :=
  ⟨h.len, fun k r hr => by
    obtain ⟨b, off, A', n', c', e, hlt, hcell, hok⟩ := h.at_ k r hr
    exact ⟨b, off, A', n', c', e, hlt, fun i u hu => ((hb.mono hC).cell (p := ⟨b, off + k * 5 + i, none⟩) hlt).trans (hcell i u hu), hok.below hb hC⟩, h.le, h.small, h.nil⟩
theorem RowsOk.more {l : List MRow} (h : RowsOk w B A n c l) (hC : B ≤ C) : RowsOk w C A n c l :=
  ⟨h.len, fun k r hr => by
    obtain ⟨b, off, A', n', c', e, hlt, hcell, hok⟩ := h.at_ k r hr
    exact ⟨b, off, A', n', c', e, Nat.lt_of_lt_of_le hlt hC, hcell, hok.more hC⟩, h.le, h.small, h.nil⟩
theorem ClientsOk.below {l : List MClient} (h : ClientsOk w B A n c l) (hb : Below C w w') (hC : B ≤ C) : ClientsOk w' B A n c l :=
  ⟨h.len, fun k r hr => by
    obtain ⟨b, off, A', n', c', e, hlt, hcell, hok⟩ := h.at_ k r hr
    exact ⟨b, off, A', n', c', e, hlt, fun i u hu => ((hb.mono hC).cell (p := ⟨b, off + k * 5 + i, none⟩) hlt).trans (hcell i u hu), hok.below hb hC⟩, h.le, h.small, h.nil⟩
theorem ClientsOk.more {l : List MClient} (h : ClientsOk w B A n c l) (hC : B ≤ C) : ClientsOk w C A n c l :=
  ⟨h.len, fun k r hr => by
    obtain ⟨b, off, A', n', c', e, hlt, hcell, hok⟩ := h.at_ k r hr
    exact ⟨b, off, A', n', c', e, Nat.lt_of_lt_of_le hlt hC, hcell, hok.more hC⟩, h.le, h.small, h.nil⟩
theorem RowsOk.row {l : List MRow} (h : RowsOk w B A n c l) {k : Nat} (hk : k < n) : ∃ r b off A' n' c', l[k]? = some r ∧ A = some ⟨b, off, none⟩ ∧ b < B ∧ RowOk w B r A' n' c' ∧
    w.cell? ⟨b, off + k * 5, none⟩ = some (.string r.key) ∧ w.cell? ⟨b, off + k * 5 + 1, none⟩ = some (.int .i64 r.ls) ∧ w.cell? ⟨b, off + k * 5 + 2, none⟩ = some (.string r.lp) ∧ w.cell? ⟨b, off + k * 5 + 3, none⟩ = some (.string r.value) ∧ w.cell? ⟨b, off + k * 5 + 4, none⟩ = some (.slice A' n' c') := by
  have hl : k < l.length := by rw [h.len]; exact hk
  obtain ⟨b, off, A', n', c', e, hlt, hcell, hok⟩ := h.at_ k l[k] (List.getElem?_eq_getElem hl)
  exact ⟨l[k], b, off, A', n', c', List.getElem?_eq_getElem hl, e, hlt, hok, hcell 0 _ rfl, hcell 1 _ rfl, hcell 2 _ rfl, hcell 3 _ rfl, hcell 4 _ rfl⟩
theorem ClientsOk.client {l : List MClient} (h : ClientsOk w B A n c l) {k : Nat} (hk : k < n) : ∃ x b off A' n' c', l[k]? = some x ∧ A = some ⟨b, off, none⟩ ∧ b < B ∧ ClientOk w B x A' n' c' ∧
    w.cell? ⟨b, off + k * 5, none⟩ = some (.int .i64 x.phase) ∧ w.cell? ⟨b, off + k * 5 + 1, none⟩ = some (.int .i64 x.start) ∧ w.cell? ⟨b, off + k * 5 + 2, none⟩ = some (.int .i64 x.commit) ∧ w.cell? ⟨b, off + k * 5 + 3, none⟩ = some (.slice A' n' c') ∧ w.cell? ⟨b, off + k * 5 + 4, none⟩ = some (.int .i64 x.at_) := by
  have hl : k < l.length := by rw [h.len]; exact hk
  obtain ⟨b, off, A', n', c', e, hlt, hcell, hok⟩ := h.at_ k l[k] (List.getElem?_eq_getElem hl)
  exact ⟨l[k], b, off, A', n', c', List.getElem?_eq_getElem hl, e, hlt, hok, hcell 0 _ rfl, hcell 1 _ rfl, hcell 2 _ rfl, hcell 3 _ rfl, hcell 4 _ rfl⟩
end

/-! ### memory of the call's own -/
/-- Slice headers: an address and a capacity each. -/
abbrev Heads := List (Option Addr × Nat)
def rowsCells : List MRow → Heads → List Value
  | r :: l, h :: hs => rowCells r h.1 r.recs.length h.2 ++ rowsCells l hs
  | _, _ => []
def clientsCells : List MClient → Heads → List Value
  | x :: l, h :: hs => clientCells x h.1 x.writes.length h.2 ++ clientsCells l hs
  | _, _ => []
/-- A slice value that owns its rows, and the rows their records. -/
def OwnRows (w : World) (base : Nat) (A : Option Addr) (n c : Nat) (l : List MRow) (hs : Heads) : Prop :=
  l.length = n ∧ hs.length = n ∧ w.ownsRow base 26 5 (.slice A n c) n (rowsCells l hs) ∧
    ∀ (k : Nat) (r : MRow) (h : Option Addr × Nat), l[k]? = some r → hs[k]? = some h → w.ownsRow base 55 3 (.slice h.1 r.recs.length h.2) r.recs.length (recCells r.recs)
def OwnClients (w : World) (base : Nat) (A : Option Addr) (n c : Nat) (l : List MClient) (hs : Heads) : Prop :=
  l.length = n ∧ hs.length = n ∧ w.ownsRow base 58 5 (.slice A n c) n (clientsCells l hs) ∧
    (∀ (k : Nat) (x : MClient) (h : Option Addr × Nat), l[k]? = some x → hs[k]? = some h → w.ownsRow base 76 2 (.slice h.1 x.writes.length h.2) x.writes.length (writeCells x.writes)) ∧
    (∀ (i j : Nat) (g h : Option Addr × Nat), i ≠ j → hs[i]? = some g → hs[j]? = some h → (Value.slice g.1 0 0).ownBlock ≠ none → (Value.slice g.1 0 0).ownBlock ≠ (Value.slice h.1 0 0).ownBlock)

theorem rowsCells_snoc : ∀ {l : List MRow} {hs : Heads} (r : MRow) (h : Option Addr × Nat), l.length = hs.length → rowsCells (l ++ [r]) (hs ++ [h]) = rowsCells l hs ++ rowCells r h.1 r.recs.length h.2
  | [], [], r, h, _ => by simp [rowsCells]
  | x :: l, g :: hs, r, h, e => by
    simp only [List.cons_append, rowsCells, List.append_assoc]
    rw [rowsCells_snoc r h (by simpa using e)]
  | [], _ :: _, _, _, e => by simp at e
  | _ :: _, [], _, _, e => by simp at e
theorem clientsCells_snoc : ∀ {l : List MClient} {hs : Heads} (r : MClient) (h : Option Addr × Nat), l.length = hs.length → clientsCells (l ++ [r]) (hs ++ [h]) = clientsCells l hs ++ clientCells r h.1 r.writes.length h.2
  | [], [], r, h, _ => by simp [clientsCells]
  | x :: l, g :: hs, r, h, e => by
    simp only [List.cons_append, clientsCells, List.append_assoc]
    rw [clientsCells_snoc r h (by simpa using e)]
  | [], _ :: _, _, _, e => by simp at e
  | _ :: _, [], _, _, e => by simp at e
theorem rowsCells_at : ∀ {l : List MRow} {hs : Heads} {k : Nat} {r : MRow} {h : Option Addr × Nat} {i : Nat} {u : Value}, l[k]? = some r → hs[k]? = some h → (rowCells r h.1 r.recs.length h.2)[i]? = some u → (rowsCells l hs)[k * 5 + i]? = some u
  | [], _, k, r, h, i, u, hr, _, _ => by simp at hr
  | _ :: _, [], k, r, h, i, u, _, hh, _ => by simp at hh
  | x :: l, g :: hs, k, r, h, i, u, hr, hh, hu => by
    have hi : i < 5 := (List.getElem?_eq_some_iff.1 hu).1
    unfold rowsCells
    match k, hr, hh with
    | 0, hr, hh =>
      simp at hr hh; subst hr hh
      rw [List.getElem?_append_left (by simp [rowCells]; omega)]
      simpa using hu
    | k + 1, hr, hh =>
      rw [List.getElem?_append_right (by simp [rowCells]; omega)]
      have := rowsCells_at (l := l) (hs := hs) (k := k) (by simpa using hr) (by simpa using hh) hu
      rw [← this]; congr 1; simp [rowCells]; omega
theorem clientsCells_at : ∀ {l : List MClient} {hs : Heads} {k : Nat} {r : MClient} {h : Option Addr × Nat} {i : Nat} {u : Value}, l[k]? = some r → hs[k]? = some h → (clientCells r h.1 r.writes.length h.2)[i]? = some u → (clientsCells l hs)[k * 5 + i]? = some u
  | [], _, k, r, h, i, u, hr, _, _ => by simp at hr
  | _ :: _, [], k, r, h, i, u, _, hh, _ => by simp at hh
  | x :: l, g :: hs, k, r, h, i, u, hr, hh, hu => by
    have hi : i < 5 := (List.getElem?_eq_some_iff.1 hu).1
    unfold clientsCells
    match k, hr, hh with
    | 0, hr, hh =>
      simp at hr hh; subst hr hh
      rw [List.getElem?_append_left (by simp [clientCells]; omega)]
      simpa using hu
    | k + 1, hr, hh =>
      rw [List.getElem?_append_right (by simp [clientCells]; omega)]
      have := clientsCells_at (l := l) (hs := hs) (k := k) (by simpa using hr) (by simpa using hh) hu
      rw [← this]; congr 1; simp [clientCells]; omega
theorem rowCells_one {r : MRow} {A : Option Addr} {n c : Nat} : ∀ u ∈ rowCells r A n c, u.oneCell' = true := by
  intro u hu; simp [rowCells] at hu; rcases hu with rfl | rfl | rfl | rfl | rfl <;> rfl
theorem clientCells_one {r : MClient} {A : Option Addr} {n c : Nat} : ∀ u ∈ clientCells r A n c, u.oneCell' = true := by
  intro u hu; simp [clientCells] at hu; rcases hu with rfl | rfl | rfl | rfl | rfl <;> rfl
theorem rowsCells_one : ∀ {l : List MRow} {hs : Heads}, ∀ u ∈ rowsCells l hs, u.oneCell' = true
  | [], _, u, hu => by simp [rowsCells] at hu
  | _ :: _, [], u, hu => by simp [rowsCells] at hu
  | x :: l, g :: hs, u, hu => by
    unfold rowsCells at hu
    rcases List.mem_append.1 hu with h | h
    · exact rowCells_one u h
    · exact rowsCells_one u h
theorem clientsCells_one : ∀ {l : List MClient} {hs : Heads}, ∀ u ∈ clientsCells l hs, u.oneCell' = true
  | [], _, u, hu => by simp [clientsCells] at hu
  | _ :: _, [], u, hu => by simp [clientsCells] at hu
  | x :: l, g :: hs, u, hu => by
    unfold clientsCells at hu
    rcases List.mem_append.1 hu with h | h
    · exact clientCells_one u h
    · exact clientsCells_one u h
theorem own_facts {w : World} {base n c size : Nat} {e : TypeId} {A : Option Addr} {xs : List Value} (h : w.ownsRow base e size (.slice A n c) n xs) : n ≤ c ∧ (A = none → c = 0) := by
  rcases h.2 with ⟨hv, rfl⟩ | ⟨g, cap, cur, hv, _, _, hn, _⟩
  · injection hv with e1 _ e3; exact ⟨by omega, fun _ => e3⟩
  · injection hv with e1 _ e3
    exact ⟨by omega, fun e => by rw [e] at e1; cases e1⟩
theorem own_cell {w : World} {base n c size : Nat} {e : TypeId} {A : Option Addr} {xs : List Value} (h : w.ownsRow base e size (.slice A n c) n xs) {j : Nat} {u : Value} (hu : xs[j]? = some u) : ∃ g, A = some ⟨g, 0, none⟩ ∧ g < w.heap.size ∧ w.cell? ⟨g, j, none⟩ = some u := by
  have hl := h.1
  rcases h.2 with ⟨hv, hn⟩ | ⟨g, cap, cur, hv, _⟩
  · have := (List.getElem?_eq_some_iff.1 hu).1
    rw [hn] at hl; omega
  · injection hv with e1 e2 e3
    subst e1 e3
    have hlt := h.lt g rfl
    have := h.cells (g := g) rfl j u hu
    rw [addr_add] at this
    exact ⟨g, rfl, hlt.2, by simpa using this⟩
theorem RecsOk.own {w : World} {base n c : Nat} {A : Option Addr} {rs : List MRec} (h : w.ownsRow base 55 3 (.slice A n c) n (recCells rs)) (hs : n * 32 ≤ 140737488351232) : RecsOk w w.heap.size A n c rs :=
  ⟨RecsAt.of_own h, (own_facts h).1, hs, (own_facts h).2⟩
theorem WritesOk.own {w : World} {base n c : Nat} {A : Option Addr} {rs : List MWrite} (h : w.ownsRow base 76 2 (.slice A n c) n (writeCells rs)) (hs : n * 32 ≤ 140737488351232) (hk : ∀ x ∈ rs, x.key.size ≤ maxLen) : WritesOk w w.heap.size A n c rs :=
  ⟨WritesAt.of_own h, (own_facts h).1, hs, (own_facts h).2, hk⟩
/-- What the sizes of rows must be, to be read. -/
structure RowsSized (l : List MRow) : Prop where
  many : l.length * 80 ≤ 140737488351232
  each : ∀ r ∈ l, r.recs.length * 32 ≤ 140737488351232 ∧ r.key.size ≤ maxLen ∧ r.lp.size ≤ maxLen
structure ClientsSized (l : List MClient) : Prop where
  many : l.length * 56 ≤ 140737488351232
  each : ∀ x ∈ l, x.writes.length * 32 ≤ 140737488351232 ∧ ∀ y ∈ x.writes, y.key.size ≤ maxLen
theorem RowsOk.sized {w : World} {B n c : Nat} {A : Option Addr} {l : List MRow} (h : RowsOk w B A n c l) : RowsSized l :=
  ⟨by rw [h.len]; exact h.small, fun r hr => by
    obtain ⟨k, hk, rfl⟩ := List.mem_iff_getElem.1 hr
    obtain ⟨b, off, A', n', c', _, _, _, hok⟩ := h.at_ k _ (List.getElem?_eq_getElem hk)
    have h1 := hok.recs.small
    rw [← hok.recs.at_.1] at h1
    exact ⟨h1, hok.key, hok.lp⟩⟩
theorem ClientsOk.sized {w : World} {B n c : Nat} {A : Option Addr} {l : List MClient} (h : ClientsOk w B A n c l) : ClientsSized l :=
  ⟨by rw [h.len]; exact h.small, fun r hr => by
    obtain ⟨k, hk, rfl⟩ := List.mem_iff_getElem.1 hr
    obtain ⟨b, off, A', n', c', _, _, _, hok⟩ := h.at_ k _ (List.getElem?_eq_getElem hk)
    have h1 := hok.writes.small
    rw [← hok.writes.at_.1] at h1
    exact ⟨h1, hok.writes.keys⟩⟩
theorem OwnRows.ok {w : World} {base n c : Nat} {A : Option Addr} {l : List MRow} {hs : Heads} (h : OwnRows w base A n c l hs) (hz : RowsSized l) : RowsOk w w.heap.size A n c l := by
  obtain ⟨h1, h2, h3, h4⟩ := h
  refine ⟨h1, fun k r hr => ?_, (own_facts h3).1, by rw [← h1]; exact hz.many, (own_facts h3).2⟩
  have hk : k < l.length := (List.getElem?_eq_some_iff.1 hr).1
  have hh : hs[k]? = some hs[k] := List.getElem?_eq_getElem (by omega)
  have hzr := hz.each r (List.mem_of_getElem? hr)
  obtain ⟨g, hA, hg, _⟩ := own_cell h3 (rowsCells_at hr hh (i := 0) rfl)
  refine ⟨g, 0, hs[k].1, r.recs.length, hs[k].2, hA, hg, fun i u hu => ?_, ⟨RecsOk.own (h4 k r _ hr hh) hzr.1, hzr.2.1, hzr.2.2⟩⟩
  obtain ⟨g', hA', _, hc⟩ := own_cell h3 (rowsCells_at hr hh hu)
  rw [hA] at hA'; injection hA' with hA'; injection hA' with hA'
  rw [← hA'] at hc
  simpa using hc
theorem OwnClients.ok {w : World} {base n c : Nat} {A : Option Addr} {l : List MClient} {hs : Heads} (h : OwnClients w base A n c l hs) (hz : ClientsSized l) : ClientsOk w w.heap.size A n c l := by
  obtain ⟨h1, h2, h3, h4, _⟩ := h
  refine ⟨h1, fun k r hr => ?_, (own_facts h3).1, by rw [← h1]; exact hz.many, (own_facts h3).2⟩
  have hk : k < l.length := (List.getElem?_eq_some_iff.1 hr).1
  have hh : hs[k]? = some hs[k] := List.getElem?_eq_getElem (by omega)
  have hzr := hz.each r (List.mem_of_getElem? hr)
  obtain ⟨g, hA, hg, _⟩ := own_cell h3 (clientsCells_at hr hh (i := 0) rfl)
  refine ⟨g, 0, hs[k].1, r.writes.length, hs[k].2, hA, hg, fun i u hu => ?_, ⟨WritesOk.own (h4 k r _ hr hh) hzr.1 hzr.2⟩⟩
  obtain ⟨g', hA', _, hc⟩ := own_cell h3 (clientsCells_at hr hh hu)
  rw [hA] at hA'; injection hA' with hA'; injection hA' with hA'
  rw [← hA'] at hc
  simpa using hc
end Go.Proofs.Ytniomgngiiiklab

/- Owned rows and clients under what leaves their blocks alone: told by the blocks' types. No walk. -/
namespace Go.Proofs.Ytniomgngiiiklab
open Go.RowKit

theorem ownBlock_any' (A : Option Addr) (n c m d : Nat) : (Value.slice A n c).ownBlock = (Value.slice A m d).ownBlock := by cases A <;> rfl
section
variable {w w' : World} {base n c size : Nat} {e : TypeId} {A : Option Addr}
theorem own_typed {v : Value} {xs : List Value} (h : w.ownsRow base e size v n xs) (hk : ∀ g cs, base ≤ g → w.heap[g]? = some (.cells cs e (0, 0)) → w'.heap[g]? = w.heap[g]?) : w'.ownsRow base e size v n xs := by
  refine ⟨h.1, ?_⟩
  rcases h.2 with h | ⟨g', cap, cur, rfl, hbg, hg, r⟩
  · exact .inl h
  · exact .inr ⟨g', cap, cur, rfl, hbg, (hk g' cur hbg hg).trans hg, r⟩
/-- Rows of two element types lie in two blocks. -/
theorem own_types {e' : TypeId} {m size' base' : Nat} {v v' : Value} {xs ys : List Value} (h : w.ownsRow base e size v n xs) (h' : w.ownsRow base' e' size' v' m ys) (hne : e ≠ e') : v.ownBlock = none ∨ v.ownBlock ≠ v'.ownBlock := by
  rcases h.2 with ⟨rfl, _⟩ | ⟨g, cap, cur, rfl, hbg, hg, r⟩
  · exact .inl rfl
  · refine .inr ?_
    rcases h'.2 with ⟨rfl, _⟩ | ⟨g', cap', cur', rfl, hbg', hg', r'⟩
    · simp [Value.ownBlock]
    · intro he
      simp only [Value.ownBlock, Option.some.injEq] at he
      have he' : g = g' := he
      subst he'
      exact blk_ne hg hg' hne rfl
theorem OwnRows.typed {l : List MRow} {hs : Heads} (h : OwnRows w base A n c l hs) (hk : ∀ g cs t, base ≤ g → w.heap[g]? = some (.cells cs t (0, 0)) → (t = 26 ∨ t = 55) → w'.heap[g]? = w.heap[g]?) : OwnRows w' base A n c l hs :=
  ⟨h.1, h.2.1, own_typed h.2.2.1 fun g cs hb hg => hk g cs _ hb hg (.inl rfl), fun k r g hr hh => own_typed (h.2.2.2 k r g hr hh) fun g cs hb hg => hk g cs _ hb hg (.inr rfl)⟩
theorem OwnClients.typed {l : List MClient} {hs : Heads} (h : OwnClients w base A n c l hs) (hk : ∀ g cs t, base ≤ g → w.heap[g]? = some (.cells cs t (0, 0)) → (t = 58 ∨ t = 76) → w'.heap[g]? = w.heap[g]?) : OwnClients w' base A n c l hs :=
  ⟨h.1, h.2.1, own_typed h.2.2.1 fun g cs hb hg => hk g cs _ hb hg (.inl rfl), fun k r g hr hh => own_typed (h.2.2.2.1 k r g hr hh) fun g cs hb hg => hk g cs _ hb hg (.inr rfl), h.2.2.2.2⟩
theorem OwnRows.below {l : List MRow} {hs : Heads} {B : Nat} (h : OwnRows w base A n c l hs) (hb : Below B w w') (hB : w.heap.size ≤ B) : OwnRows w' base A n c l hs :=
  h.typed fun g _ _ _ hg _ => hb.block g (Nat.lt_of_lt_of_le (blk_lt hg) hB)
theorem OwnClients.below {l : List MClient} {hs : Heads} {B : Nat} (h : OwnClients w base A n c l hs) (hb : Below B w w') (hB : w.heap.size ≤ B) : OwnClients w' base A n c l hs :=
  h.typed fun g _ _ _ hg _ => hb.block g (Nat.lt_of_lt_of_le (blk_lt hg) hB)
theorem OwnRows.set {l : List MRow} {hs : Heads} {g i : Nat} {cs : Array Value} {t : TypeId} (h : OwnRows w base A n c l hs) (hg : w.heap[g]? = some (.cells cs t (0, 0))) (ht : t ≠ 26 ∧ t ≠ 55) (u : Value) : OwnRows (w.setCell ⟨g, i, none⟩ u) base A n c l hs :=
  h.typed fun g' cs' t' _ hg' ht' => Below.heap_setCell w _ u g' (by
    rintro rfl
    rw [hg] at hg'
    injection hg' with hg'
    injection hg' with _ e
    subst e
    rcases ht' with e | e
    · exact ht.1 e
    · exact ht.2 e)
theorem OwnClients.set {l : List MClient} {hs : Heads} {g i : Nat} {cs : Array Value} {t : TypeId} (h : OwnClients w base A n c l hs) (hg : w.heap[g]? = some (.cells cs t (0, 0))) (ht : t ≠ 58 ∧ t ≠ 76) (u : Value) : OwnClients (w.setCell ⟨g, i, none⟩ u) base A n c l hs :=
  h.typed fun g' cs' t' _ hg' ht' => Below.heap_setCell w _ u g' (by
    rintro rfl
    rw [hg] at hg'
    injection hg' with hg'
    injection hg' with _ e
    subst e
    rcases ht' with e | e
    · exact ht.1 e
    · exact ht.2 e)
/-- A row more. -/
theorem OwnRows.add {w2 : World} {l : List MRow} {hs : Heads} {A2 A3 : Option Addr} {c2 c3 : Nat} {r : MRow} (h : OwnRows w base A n c l hs) (hrec : w.ownsRow base 55 3 (.slice A2 r.recs.length c2) r.recs.length (recCells r.recs))
    (hg : w.grownBy w2 (Value.slice A n c).ownBlock) (hnew : w2.ownsRow base 26 5 (.slice A3 (n + 1) c3) (n + 1) (rowsCells l hs ++ rowCells r A2 r.recs.length c2)) : OwnRows w2 base A3 (n + 1) c3 (l ++ [r]) (hs ++ [(A2, c2)]) := by
  obtain ⟨h1, h2, h3, h4⟩ := h
  refine ⟨by simp [h1], by simp [h2], ?_, fun k q g hq hh => ?_⟩
  · rw [rowsCells_snoc r (A2, c2) (by omega)]; exact hnew
  · have hkeep : ∀ {v : Value} {m : Nat} {xs : List Value}, w.ownsRow base 55 3 v m xs → w2.ownsRow base 55 3 v m xs := fun ho => ho.kept hg (own_types ho h3 (by decide))
    by_cases hk : k < n
    · rw [List.getElem?_append_left (by omega)] at hq hh
      exact hkeep (h4 k q g hq hh)
    · rw [List.getElem?_append_right (by omega)] at hq hh
      have hkn : k - l.length = 0 := by
        have := (List.getElem?_eq_some_iff.1 hq).1
        simp at this; omega
      rw [hkn] at hq
      rw [show k - hs.length = 0 by omega] at hh
      simp at hq hh
      subst hq hh
      exact hkeep hrec
theorem OwnClients.add {w2 : World} {l : List MClient} {hs : Heads} {A2 A3 : Option Addr} {c2 c3 : Nat} {r : MClient} (h : OwnClients w base A n c l hs) (hrec : w.ownsRow base 76 2 (.slice A2 r.writes.length c2) r.writes.length (writeCells r.writes))
    (hnew' : ∀ g ∈ hs, (Value.slice g.1 0 0).ownBlock ≠ none → (Value.slice g.1 0 0).ownBlock ≠ (Value.slice A2 0 0).ownBlock)
    (hg : w.grownBy w2 (Value.slice A n c).ownBlock) (hnew : w2.ownsRow base 58 5 (.slice A3 (n + 1) c3) (n + 1) (clientsCells l hs ++ clientCells r A2 r.writes.length c2)) : OwnClients w2 base A3 (n + 1) c3 (l ++ [r]) (hs ++ [(A2, c2)]) := by
  obtain ⟨h1, h2, h3, h4, h5⟩ := h
  refine ⟨by simp [h1], by simp [h2], ?_, fun k q g hq hh => ?_, fun i j g q hij hi hj hn => ?_⟩
  · rw [clientsCells_snoc r (A2, c2) (by omega)]; exact hnew
  · have hkeep : ∀ {v : Value} {m : Nat} {xs : List Value}, w.ownsRow base 76 2 v m xs → w2.ownsRow base 76 2 v m xs := fun ho => ho.kept hg (own_types ho h3 (by decide))
    by_cases hk : k < n
    · rw [List.getElem?_append_left (by omega)] at hq hh
      exact hkeep (h4 k q g hq hh)
    · rw [List.getElem?_append_right (by omega)] at hq hh
      have hkn : k - l.length = 0 := by
        have := (List.getElem?_eq_some_iff.1 hq).1
        simp at this; omega
      rw [hkn] at hq
      rw [show k - hs.length = 0 by omega] at hh
      simp at hq hh
      subst hq hh
      exact hkeep hrec
  · have hlen : ∀ (i : Nat) (g : Option Addr × Nat), (hs ++ [(A2, c2)])[i]? = some g → (i < n ∧ hs[i]? = some g) ∨ (i = n ∧ g = (A2, c2)) := fun i g hi => by
      by_cases hin : i < n
      · rw [List.getElem?_append_left (by omega)] at hi; exact .inl ⟨hin, hi⟩
      · rw [List.getElem?_append_right (by omega)] at hi
        have hl := (List.getElem?_eq_some_iff.1 hi).1
        simp at hl
        rw [show i - hs.length = 0 by omega] at hi
        simp at hi
        exact .inr ⟨by omega, hi.symm⟩
    rcases hlen i g hi with ⟨_, hi⟩ | ⟨ei, eg⟩
    · rcases hlen j q hj with ⟨_, hj⟩ | ⟨ej, eq⟩
      · exact h5 i j g q hij hi hj hn
      · subst eq; exact hnew' g (List.mem_of_getElem? hi) hn
    · rcases hlen j q hj with ⟨_, hj⟩ | ⟨ej, eq⟩
      · subst eg
        intro e
        exact hnew' q (List.mem_of_getElem? hj) (by rw [← e]; exact hn) e.symm
      · exact absurd (ei.trans ej.symm) hij
theorem OwnRows.nil (w : World) (base : Nat) : OwnRows w base none 0 0 [] [] := ⟨rfl, rfl, World.ownsRow_nil _ _ _ _, fun k r h hr => by simp at hr⟩
theorem OwnClients.nil (w : World) (base : Nat) : OwnClients w base none 0 0 [] [] := ⟨rfl, rfl, World.ownsRow_nil _ _ _ _, fun k r h hr => by simp at hr, fun i j g h _ hi => by simp at hi⟩
/-- The blocks of the writes lie below the heap's end. -/
theorem OwnClients.heads_lt {l : List MClient} {hs : Heads} (h : OwnClients w base A n c l hs) : ∀ g ∈ hs, ∀ b, (Value.slice g.1 0 0).ownBlock = some b → base ≤ b ∧ b < w.heap.size := by
  intro g hg b hb
  obtain ⟨k, hk, rfl⟩ := List.mem_iff_getElem.1 hg
  obtain ⟨h1, h2, _, h4, _⟩ := h
  have hkl : k < l.length := by omega
  have ho := h4 k l[k] hs[k] (List.getElem?_eq_getElem hkl) (List.getElem?_eq_getElem hk)
  rw [ownBlock_any' hs[k].1 0 0 l[k].writes.length hs[k].2] at hb
  rcases ho.2 with ⟨e, _⟩ | ⟨g', cap, cur, e, hbg, hgg, _⟩
  · rw [e] at hb; simp [Value.ownBlock] at hb
  · rw [e] at hb; simp [Value.ownBlock] at hb; subst hb; exact ⟨hbg, blk_lt hgg⟩
end
/-- A row's reading where the old blocks are as they were. -/
theorem RowOk.keepAt {w w' : World} {B C n c : Nat} {A : Option Addr} {r : MRow} (h : RowOk w B r A n c) (hk : ∀ g, g < B → w'.heap[g]? = w.heap[g]?) (hC : B ≤ C) : RowOk w' C r A n c :=
  ⟨⟨(h.recs.at_.keep (fun p hp => World.cell?_of_block (hk p.block hp))).more hC, h.recs.le, h.recs.small, h.recs.nil⟩, h.key, h.lp⟩
theorem WritesOk.keepAt {w w' : World} {B C n c : Nat} {A : Option Addr} {r : List MWrite} (h : WritesOk w B A n c r) (hk : ∀ g, g < B → w'.heap[g]? = w.heap[g]?) (hC : B ≤ C) : WritesOk w' C A n c r :=
  ⟨(h.at_.keep (fun p hp => World.cell?_of_block (hk p.block hp))).more hC, h.le, h.small, h.nil, h.keys⟩
theorem OwnRows.more {w : World} {base base' n c : Nat} {A : Option Addr} {l : List MRow} {hs : Heads} (h : OwnRows w base A n c l hs) (hb : base' ≤ base) : OwnRows w base' A n c l hs :=
  ⟨h.1, h.2.1, own_more h.2.2.1 hb, fun k r g hr hh => own_more (h.2.2.2 k r g hr hh) hb⟩
theorem OwnClients.more {w : World} {base base' n c : Nat} {A : Option Addr} {l : List MClient} {hs : Heads} (h : OwnClients w base A n c l hs) (hb : base' ≤ base) : OwnClients w base' A n c l hs :=
  ⟨h.1, h.2.1, own_more h.2.2.1 hb, fun k r g hr hh => own_more (h.2.2.2.1 k r g hr hh) hb, h.2.2.2.2⟩
end Go.Proofs.Ytniomgngiiiklab

/- Acts and answers in memory. No walk. -/
namespace Go.Proofs.Ytniomgngiiiklab
open Go.RowKit

/-! ### cells of a list, a fixed number for each -/
section
variable {α : Type} {f : α → List Value} {s : Nat}
theorem flat_length (hf : ∀ x, (f x).length = s) : ∀ l : List α, (l.flatMap f).length = l.length * s
  | [] => by simp
  | x :: l => by
    rw [List.flatMap_cons, List.length_append, hf, flat_length hf l, List.length_cons, Nat.add_mul, Nat.one_mul, Nat.add_comm]
theorem flat_at (hf : ∀ x, (f x).length = s) : ∀ {l : List α} {k i : Nat} {x : α} {u : Value}, l[k]? = some x → (f x)[i]? = some u → (l.flatMap f)[k * s + i]? = some u
  | [], k, i, x, u, h, _ => by simp at h
  | y :: l, 0, i, x, u, h, hu => by
    have e : y = x := by simpa using h
    subst e
    have hi := (List.getElem?_eq_some_iff.1 hu).1
    rw [List.flatMap_cons, List.getElem?_append_left (by omega)]
    simpa using hu
  | y :: l, k + 1, i, x, u, h, hu => by
    rw [List.flatMap_cons, List.getElem?_append_right (by rw [hf, Nat.add_mul]; omega), hf]
    have := flat_at hf (l := l) (k := k) (by simpa using h) hu
    rw [← this]; congr 1; rw [Nat.add_mul]; omega
theorem flat_snoc {l : List α} {x : α} : (l ++ [x]).flatMap f = l.flatMap f ++ f x := by simp
theorem flat_one (hf : ∀ x, ∀ u ∈ f x, u.oneCell' = true) {l : List α} : ∀ u ∈ l.flatMap f, u.oneCell' = true := fun u hu => by
  obtain ⟨x, _, h⟩ := List.mem_flatMap.1 hu
  exact hf x u h
theorem flat_own {w : World} {base n c : Nat} {e : TypeId} {A : Option Addr} {l : List α} (hf : ∀ x, (f x).length = s) (hs : 0 < s) (h : w.ownsRow base e s (.slice A n c) n (l.flatMap f)) {k : Nat} {x : α} (hx : l[k]? = some x) :
    ∃ g, A = some ⟨g, 0, none⟩ ∧ g < w.heap.size ∧ ∀ i u, (f x)[i]? = some u → w.cell? ⟨g, k * s + i, none⟩ = some u := by
  have h0 : f x ≠ [] := fun e => by have := hf x; rw [e] at this; simp at this; omega
  obtain ⟨u0, hu0⟩ : ∃ u0, (f x)[0]? = some u0 := by
    cases hfx : f x with
    | nil => exact absurd hfx h0
    | cons a t => exact ⟨a, rfl⟩
  obtain ⟨g, e, hg, _⟩ := own_cell h (flat_at hf hx hu0)
  refine ⟨g, e, hg, fun i u hu => ?_⟩
  obtain ⟨g', e', _, hc⟩ := own_cell h (flat_at hf hx hu)
  rw [e] at e'; injection e' with e'; injection e' with e'
  rw [e']; exact hc
end

/-! ### acts -/
def MAct.cells (a : MAct) : List Value := [.int .i64 a.kind, .int .i64 a.c, .string a.key, .string a.value]
def actCells (l : List MAct) : List Value := l.flatMap MAct.cells
/-- The slice (A, n) reads as acts, in blocks below B. -/
structure ActsOk (w : World) (B : Nat) (A : Option Addr) (n : Nat) (l : List MAct) : Prop where
  len : l.length = n
  at_ : ∀ (k : Nat) (a : MAct), l[k]? = some a → ∃ b off, A = some ⟨b, off, none⟩ ∧ b < B ∧ w.cell? ⟨b, off + k * 4, none⟩ = some (.int .i64 a.kind) ∧ w.cell? ⟨b, off + k * 4 + 1, none⟩ = some (.int .i64 a.c) ∧
    w.cell? ⟨b, off + k * 4 + 2, none⟩ = some (.string a.key) ∧ w.cell? ⟨b, off + k * 4 + 3, none⟩ = some (.string a.value)
theorem actCells_one {l : List MAct} : ∀ u ∈ actCells l, u.oneCell' = true := flat_one fun x u hu => by
  simp [MAct.cells] at hu; rcases hu with rfl | rfl | rfl | rfl <;> rfl
theorem ActsOk.of_own {w : World} {base n c : Nat} {e : TypeId} {A : Option Addr} {l : List MAct} (h : w.ownsRow base e 4 (.slice A n c) n (actCells l)) : ActsOk w w.heap.size A n l := by
  have hl : l.length = n := by have := h.1; have h2 := flat_length (f := MAct.cells) (s := 4) (fun _ => rfl) l; unfold actCells at this; omega
  refine ⟨hl, fun k a ha => ?_⟩
  obtain ⟨g, e, hg, hc⟩ := flat_own (f := MAct.cells) (s := 4) (fun _ => rfl) (by omega) h ha
  have h0 := hc 0 _ rfl
  have h1 := hc 1 _ rfl
  have h2 := hc 2 _ rfl
  have h3 := hc 3 _ rfl
  exact ⟨g, 0, e, hg, by simpa using h0, by simpa using h1, by simpa using h2, by simpa using h3⟩
section
variable {w w' : World} {B C n : Nat} {A : Option Addr} {l : List MAct}
theorem ActsOk.below (h : ActsOk w B A n l) (hb : Below C w w') (hC : B ≤ C) : ActsOk w' B A n l :=
  ⟨h.len, fun k a ha => by
    obtain ⟨b, off, e, hlt, h0, h1, h2, h3⟩ := h.at_ k a ha
    have hk : ∀ i, w'.cell? ⟨b, i, none⟩ = w.cell? ⟨b, i, none⟩ := fun i => (hb.mono hC).cell (p := ⟨b, i, none⟩) hlt
    exact ⟨b, off, e, hlt, (hk _).trans h0, (hk _).trans h1, (hk _).trans h2, (hk _).trans h3⟩⟩
theorem ActsOk.more (h : ActsOk w B A n l) (hC : B ≤ C) : ActsOk w C A n l :=
  ⟨h.len, fun k a ha => by
    obtain ⟨b, off, e, hlt, hc⟩ := h.at_ k a ha
    exact ⟨b, off, e, Nat.lt_of_lt_of_le hlt hC, hc⟩⟩
theorem ActsOk.act (h : ActsOk w B A n l) {k : Nat} (hk : k < n) : ∃ a b off, l[k]? = some a ∧ A = some ⟨b, off, none⟩ ∧ b < B ∧ w.cell? ⟨b, off + k * 4, none⟩ = some (.int .i64 a.kind) ∧ w.cell? ⟨b, off + k * 4 + 1, none⟩ = some (.int .i64 a.c) ∧
    w.cell? ⟨b, off + k * 4 + 2, none⟩ = some (.string a.key) ∧ w.cell? ⟨b, off + k * 4 + 3, none⟩ = some (.string a.value) := by
  have hl : k < l.length := by rw [h.len]; exact hk
  obtain ⟨b, off, hc⟩ := h.at_ k l[k] (List.getElem?_eq_getElem hl)
  exact ⟨l[k], b, off, List.getElem?_eq_getElem hl, hc⟩
/-- A part of a script, as a slice of its memory. -/
theorem ActsOk.take (h : ActsOk w B A n l) {m : Nat} (hm : m ≤ n) : ActsOk w B A m (l.take m) :=
  ⟨by rw [List.length_take, h.len]; omega, fun k a ha => h.at_ k a (by
    rw [List.getElem?_take] at ha
    split at ha
    · exact ha
    · cases ha)⟩
end

/-! ### answers -/
def MAns.cells (a : MAns) : List Value := [.int .i64 a.code, .bool a.is, .string a.value, .int .i64 a.phase, .int .i64 a.time]
def ansList (l : List MAns) : List Value := l.flatMap MAns.cells
theorem ans_one {a : MAns} : ∀ u ∈ a.cells, u.oneCell' = true := fun u hu => by
  simp [MAns.cells] at hu; rcases hu with rfl | rfl | rfl | rfl | rfl <;> rfl
theorem ansList_one {l : List MAns} : ∀ u ∈ ansList l, u.oneCell' = true := flat_one fun _ => ans_one
/-- The cells of answer k. -/
theorem ans_at {w : World} {base n c : Nat} {e : TypeId} {A : Option Addr} {l : List MAns} (h : w.ownsRow base e 5 (.slice A n c) n (ansList l)) {k : Nat} (hk : k < n) :
    ∃ a g, l[k]? = some a ∧ A = some ⟨g, 0, none⟩ ∧ g < w.heap.size ∧ base ≤ g ∧ w.cell? ⟨g, k * 5, none⟩ = some (.int .i64 a.code) ∧ w.cell? ⟨g, k * 5 + 1, none⟩ = some (.bool a.is) ∧ w.cell? ⟨g, k * 5 + 2, none⟩ = some (.string a.value) ∧ w.cell? ⟨g, k * 5 + 3, none⟩ = some (.int .i64 a.phase) ∧ w.cell? ⟨g, k * 5 + 4, none⟩ = some (.int .i64 a.time) := by
  have hl : l.length = n := by have := h.1; have h2 := flat_length (f := MAns.cells) (s := 5) (fun _ => rfl) l; unfold ansList at this; omega
  have hx : l[k]? = some (l[k]'(by omega)) := List.getElem?_eq_getElem _
  obtain ⟨g, e, hg, hc⟩ := flat_own (f := MAns.cells) (s := 5) (fun _ => rfl) (by omega) h hx
  have hb := own_base h g (by rw [e]; rfl)
  have h0 := hc 0 _ rfl
  have h1 := hc 1 _ rfl
  have h2 := hc 2 _ rfl
  have h3 := hc 3 _ rfl
  have h4 := hc 4 _ rfl
  exact ⟨_, g, hx, e, hg, hb, by simpa using h0, h1, h2, h3, h4⟩
end Go.Proofs.Ytniomgngiiiklab

/- The memory of a world that is being changed: what a site reads as, what a step leaves alone, told by the blocks' types. No walk. -/
namespace Go.Proofs.Ytniomgngiiiklab
open Go.RowKit

/-! ### what is left alone -/
/-- Old blocks below base are as they were, so is every block of a type that is not among ts; and blocks of other types than rows and writes keep their type and their size. -/
structure Keeps (ts : List TypeId) (base : Nat) (w w' : World) : Prop where
  below : Below base w w'
  block : ∀ (g : Nat) (cs : Array Value) (t : TypeId), w.heap[g]? = some (.cells cs t (0, 0)) → t ∉ ts → w'.heap[g]? = w.heap[g]?
  shape : ∀ (g : Nat) (cs : Array Value) (t : TypeId), w.heap[g]? = some (.cells cs t (0, 0)) → t ≠ 26 → t ≠ 76 → ∃ cs' : Array Value, w'.heap[g]? = some (.cells cs' t (0, 0)) ∧ cs'.size = cs.size
section
variable {ts ts' : List TypeId} {base B g i : Nat} {w w' w'' : World} {cs : Array Value} {t : TypeId}
theorem Keeps.refl (ts : List TypeId) (base : Nat) (w : World) : Keeps ts base w w := ⟨Below.refl _ _, fun _ _ _ _ _ => rfl, fun _ cs _ h _ _ => ⟨cs, h, rfl⟩⟩
theorem Keeps.trans (h : Keeps ts base w w') (k : Keeps ts base w' w'') : Keeps ts base w w'' :=
  ⟨h.below.trans k.below, fun g cs t hg ht => by
    have h1 := h.block g cs t hg ht
    exact (k.block g cs t (h1.trans hg) ht).trans h1, fun g cs t hg h1 h2 => by
    obtain ⟨c1, e1, s1⟩ := h.shape g cs t hg h1 h2
    obtain ⟨c2, e2, s2⟩ := k.shape g c1 t e1 h1 h2
    exact ⟨c2, e2, s2.trans s1⟩⟩
theorem Keeps.wide (h : Keeps ts base w w') (hs : ∀ t ∈ ts, t ∈ ts') : Keeps ts' base w w' := ⟨h.below, fun g cs t hg ht => h.block g cs t hg fun hm => ht (hs t hm), h.shape⟩
theorem Keeps.of_below (h : Below B w w') (hB : w.heap.size ≤ B) (hb : base ≤ w.heap.size) : Keeps ts base w w' :=
  ⟨h.mono (Nat.le_trans hb hB), fun g _ _ hg _ => h.block g (Nat.lt_of_lt_of_le (blk_lt hg) hB), fun g cs _ hg _ _ => ⟨cs, (h.block g (Nat.lt_of_lt_of_le (blk_lt hg) hB)).trans hg, rfl⟩⟩
theorem Keeps.alloc (h : Keeps ts base w w') (o : Obj) (hb : base ≤ w'.heap.size) : Keeps ts base w (w'.alloc o) :=
  h.trans ⟨(Below.refl base w').alloc hb o, fun g _ _ hg _ => Below.heap_alloc _ _ g (blk_lt hg), fun g cs _ hg _ _ => ⟨cs, (Below.heap_alloc _ _ g (blk_lt hg)).trans hg, rfl⟩⟩
theorem Keeps.drew (h : Keeps ts base w w') : Keeps ts base w w'.drew := ⟨h.below.drew, h.block, h.shape⟩
theorem Keeps.drewN (h : Keeps ts base w w') (n : Nat) : Keeps ts base w (w'.drewN n) := ⟨below_drewN h.below n, h.block, h.shape⟩
theorem Keeps.set (h : Keeps ts base w w') (hg : w'.heap[g]? = some (.cells cs t (0, 0))) (ht : t ∈ ts) (hb : base ≤ g) (u : Value) : Keeps ts base w (w'.setCell ⟨g, i, none⟩ u) :=
  h.trans ⟨(Below.refl base w').setCell (p := ⟨g, i, none⟩) hb u, fun g' cs' t' hg' ht' => Below.heap_setCell _ _ _ g' (by
    rintro rfl
    rw [hg] at hg'
    injection hg' with hg'
    injection hg' with _ e
    subst e
    exact ht' ht), fun g' cs' t' hg' _ _ => by
    by_cases e : g' = g
    · subst e
      exact ⟨_, blk_set hg' i u, by simp⟩
    · exact ⟨cs', blk_far hg' (p := ⟨g, i, none⟩) e u, rfl⟩⟩
/-- A step that grew or turned one owned row. -/
theorem Keeps.grown {e : TypeId} {size n : Nat} {v : Value} {xs : List Value} (h : Keeps ts base w w') (ho : w'.ownsRow base e size v n xs) (he : e ∈ ts) (he' : e = 26 ∨ e = 76) (hg : w'.grownBy w'' v.ownBlock) (hb : base ≤ w'.heap.size) : Keeps ts base w w'' :=
  h.trans ⟨(Below.refl base w').grown hg hb (fun k hk => (ho.lt k hk).1), fun g _ _ hh ht => hg.block g (blk_lt hh) (own_ne ho hh (fun e' => ht (e' ▸ he))), fun g cs t hh h1 h2 =>
    ⟨cs, (hg.block g (blk_lt hh) (own_ne ho hh (fun e' => by rcases he' with e1 | e1; (· exact h1 (e'.symm.trans e1)); (· exact h2 (e'.symm.trans e1))))).trans hh, rfl⟩⟩
theorem Keeps.blk (h : Keeps ts base w w') (hg : w.heap[g]? = some (.cells cs t (0, 0))) (ht : t ∉ ts) : w'.heap[g]? = some (.cells cs t (0, 0)) := (h.block g cs t hg ht).trans hg
theorem Keeps.old (h : Keeps ts base w w') (hg : w.heap[g]? = some (.cells cs t (0, 0))) (hb : g < base) : w'.heap[g]? = some (.cells cs t (0, 0)) := (h.below.block g hb).trans hg
theorem Keeps.own {e : TypeId} {size n base' : Nat} {v : Value} {xs : List Value} (h : Keeps ts base w w') (ho : w.ownsRow base' e size v n xs) (he : e ∉ ts) : w'.ownsRow base' e size v n xs :=
  own_typed ho fun g cs _ hg => h.block g cs e hg he
theorem Keeps.rows {A : Option Addr} {n c : Nat} {l : List MRow} {hs : Heads} (h : Keeps ts base w w') (ho : OwnRows w base A n c l hs) (h1 : 26 ∉ ts) (h2 : 55 ∉ ts) : OwnRows w' base A n c l hs :=
  ho.typed fun g cs t _ hg ht => h.block g cs t hg (by rcases ht with rfl | rfl <;> assumption)
theorem Keeps.clients {A : Option Addr} {n c : Nat} {l : List MClient} {hs : Heads} (h : Keeps ts base w w') (ho : OwnClients w base A n c l hs) (h1 : 58 ∉ ts) (h2 : 76 ∉ ts) : OwnClients w' base A n c l hs :=
  ho.typed fun g cs t _ hg ht => h.block g cs t hg (by rcases ht with rfl | rfl <;> assumption)
end

/-! ### one element turned -/
theorem set_pass {α : Type} {a b : List α} {j : Nat} {u : α} {m : Nat} (hm : a.length = m) : (a ++ b).set (m + j) u = a ++ b.set j u := by
  subst hm
  rw [List.set_append_right _ _ (by omega)]
  congr 2
  omega
theorem rowsCells_set : ∀ {l : List MRow} {hs : Heads} {k : Nat} (r : MRow) (h : Option Addr × Nat), k < l.length → k < hs.length →
    ((((((rowsCells l hs).set (k * 5) (.string r.key)).set (k * 5 + 1) (.int .i64 r.ls)).set (k * 5 + 2) (.string r.lp)).set (k * 5 + 3) (.string r.value)).set (k * 5 + 4) (.slice h.1 r.recs.length h.2)) = rowsCells (l.set k r) (hs.set k h)
  | [], _, _, _, _, h, _ => by simp at h
  | _ :: _, [], _, _, _, _, h => by simp at h
  | x :: l, g :: hs, 0, r, h, _, _ => by simp [rowsCells, rowCells]
  | x :: l, g :: hs, k + 1, r, h, h1, h2 => by
    have ih := rowsCells_set (l := l) (hs := hs) (k := k) r h (by simpa using h1) (by simpa using h2)
    rw [List.set_cons_succ, List.set_cons_succ]
    unfold rowsCells
    have e : ∀ i, (k + 1) * 5 + i = 5 + (k * 5 + i) := fun i => by omega
    have e0 : (k + 1) * 5 = 5 + (k * 5) := by omega
    rw [e, e, e, e, e0, set_pass (by rfl), set_pass (by rfl), set_pass (by rfl), set_pass (by rfl), set_pass (by rfl), ih]
theorem clientsCells_set1 : ∀ {l : List MClient} {hs : Heads} {k : Nat} {x x' : MClient} {h h' : Option Addr × Nat} {i : Nat} {u : Value}, l[k]? = some x → hs[k]? = some h →
    (clientCells x h.1 x.writes.length h.2).set i u = clientCells x' h'.1 x'.writes.length h'.2 → i < 5 → (clientsCells l hs).set (k * 5 + i) u = clientsCells (l.set k x') (hs.set k h')
  | [], _, _, _, _, _, _, _, _, h, _, _, _ => by simp at h
  | _ :: _, [], _, _, _, _, _, _, _, _, h, _, _ => by simp at h
  | y :: l, g :: hs, 0, x, x', h, h', i, u, h1, h2, h3, h4 => by
    have e1 : y = x := by simpa using h1
    have e2 : g = h := by simpa using h2
    subst e1 e2
    rw [List.set_cons_zero, List.set_cons_zero]
    unfold clientsCells
    rw [← h3, Nat.zero_mul, Nat.zero_add, List.set_append_left _ _ (by simpa [clientCells] using h4)]
  | y :: l, g :: hs, k + 1, x, x', h, h', i, u, h1, h2, h3, h4 => by
    have ih := clientsCells_set1 (l := l) (hs := hs) (k := k) (x' := x') (h' := h') (by simpa using h1) (by simpa using h2) h3 h4
    rw [List.set_cons_succ, List.set_cons_succ]
    unfold clientsCells
    rw [show (k + 1) * 5 + i = 5 + (k * 5 + i) by omega, set_pass (by rfl), ih]

section
variable {w : World} {base g n c : Nat}
theorem own_set {e : TypeId} {size : Nat} {xs : List Value} (h : w.ownsRow base e size (.slice (some ⟨g, 0, none⟩) n c) n xs) (j : Nat) (u : Value) : (w.setCell ⟨g, j, none⟩ u).ownsRow base e size (.slice (some ⟨g, 0, none⟩) n c) n (xs.set j u) := (h.stored j u).1
theorem own_blk {e : TypeId} {size : Nat} {xs : List Value} (h : w.ownsRow base e size (.slice (some ⟨g, 0, none⟩) n c) n xs) : ∃ cur, w.heap[g]? = some (.cells cur e (0, 0)) ∧ base ≤ g := by
  rcases h.2 with ⟨h', _⟩ | ⟨g', cap', cur, h', hb, hg, _⟩
  · simp at h'
  · simp only [Value.slice.injEq, Option.some.injEq, Addr.mk.injEq, and_true, true_and] at h'
    obtain ⟨rfl, rfl⟩ := h'
    exact ⟨cur, hg, hb⟩
/-- A row put in the place of another. -/
theorem OwnRows.put {l : List MRow} {hs : Heads} {k : Nat} {r : MRow} {A' : Option Addr} {c' : Nat} (h : OwnRows w base (some ⟨g, 0, none⟩) n c l hs) (hk : k < n) (hrec : w.ownsRow base 55 3 (.slice A' r.recs.length c') r.recs.length (recCells r.recs)) :
    OwnRows (((((w.setCell ⟨g, k * 5, none⟩ (.string r.key)).setCell ⟨g, k * 5 + 1, none⟩ (.int .i64 r.ls)).setCell ⟨g, k * 5 + 2, none⟩ (.string r.lp)).setCell ⟨g, k * 5 + 3, none⟩ (.string r.value)).setCell ⟨g, k * 5 + 4, none⟩ (.slice A' r.recs.length c')) base (some ⟨g, 0, none⟩) n c (l.set k r) (hs.set k (A', c')) := by
  obtain ⟨h1, h2, h3, h4⟩ := h
  obtain ⟨cur, hg, _⟩ := own_blk h3
  have hkeep : ∀ {v : Value} {m : Nat} {xs : List Value} (a b c d e : Value), w.ownsRow base 55 3 v m xs → (((((w.setCell ⟨g, k * 5, none⟩ a).setCell ⟨g, k * 5 + 1, none⟩ b).setCell ⟨g, k * 5 + 2, none⟩ c).setCell ⟨g, k * 5 + 3, none⟩ d).setCell ⟨g, k * 5 + 4, none⟩ e).ownsRow base 55 3 v m xs := fun a b c d e ho => by
    have hne := own_ne ho hg (by decide)
    exact own_far (own_far (own_far (own_far (own_far ho hne a) hne b) hne c) hne d) hne e
  refine ⟨by simp [h1], by simp [h2], ?_, fun j q x hq hx => ?_⟩
  · have := own_set (own_set (own_set (own_set (own_set h3 (k * 5) (.string r.key)) (k * 5 + 1) (.int .i64 r.ls)) (k * 5 + 2) (.string r.lp)) (k * 5 + 3) (.string r.value)) (k * 5 + 4) (.slice A' r.recs.length c')
    rwa [rowsCells_set r (A', c') (by omega) (by omega)] at this
  · by_cases e : j = k
    · subst e
      rw [List.getElem?_set_self (by omega)] at hq hx
      have hq' := Option.some.inj hq
      have hx' := Option.some.inj hx
      rw [← hq', ← hx']
      exact hkeep _ _ _ _ _ hrec
    · rw [List.getElem?_set_ne (fun e' => e e'.symm)] at hq hx
      exact hkeep _ _ _ _ _ (h4 j q x hq hx)
/-- One cell of a client turned. -/
theorem OwnClients.put1 {l : List MClient} {hs : Heads} {k i : Nat} {x x' : MClient} {hd : Option Addr × Nat} {u : Value} (h : OwnClients w base (some ⟨g, 0, none⟩) n c l hs) (hx : l[k]? = some x) (hh : hs[k]? = some hd)
    (hc : (clientCells x hd.1 x.writes.length hd.2).set i u = clientCells x' hd.1 x'.writes.length hd.2) (hi : i < 5) (hw : x'.writes = x.writes) : OwnClients (w.setCell ⟨g, k * 5 + i, none⟩ u) base (some ⟨g, 0, none⟩) n c (l.set k x') hs := by
  obtain ⟨h1, h2, h3, h4, h5⟩ := h
  obtain ⟨cur, hg, _⟩ := own_blk h3
  have hset : hs.set k hd = hs := by
    obtain ⟨hk, rfl⟩ := List.getElem?_eq_some_iff.1 hh
    exact List.set_getElem_self hk
  refine ⟨by simp [h1], h2, ?_, fun j q y hq hy => ?_, h5⟩
  · have := own_set h3 (k * 5 + i) u
    rwa [clientsCells_set1 (h' := hd) hx hh hc hi, hset] at this
  · have hkeep : ∀ {v : Value} {m : Nat} {xs : List Value}, w.ownsRow base 76 2 v m xs → (w.setCell ⟨g, k * 5 + i, none⟩ u).ownsRow base 76 2 v m xs := fun ho => own_far ho (own_ne ho hg (by decide)) u
    by_cases e : j = k
    · subst e
      rw [List.getElem?_set_self (List.getElem?_eq_some_iff.1 hx).1] at hq
      injection hq with hq
      subst hq
      rw [hw]
      exact hkeep (h4 j x y hx hy)
    · rw [List.getElem?_set_ne (fun e' => e e'.symm)] at hq
      exact hkeep (h4 j q y hq hy)
end

theorem clientsCells_set : ∀ {l : List MClient} {hs : Heads} {k : Nat} (x : MClient) (h : Option Addr × Nat), k < l.length → k < hs.length →
    ((((((clientsCells l hs).set (k * 5) (.int .i64 x.phase)).set (k * 5 + 1) (.int .i64 x.start)).set (k * 5 + 2) (.int .i64 x.commit)).set (k * 5 + 3) (.slice h.1 x.writes.length h.2)).set (k * 5 + 4) (.int .i64 x.at_)) = clientsCells (l.set k x) (hs.set k h)
  | [], _, _, _, _, h, _ => by simp at h
  | _ :: _, [], _, _, _, _, h => by simp at h
  | x :: l, g :: hs, 0, r, h, _, _ => by simp [clientsCells, clientCells]
  | x :: l, g :: hs, k + 1, r, h, h1, h2 => by
    have ih := clientsCells_set (l := l) (hs := hs) (k := k) r h (by simpa using h1) (by simpa using h2)
    rw [List.set_cons_succ, List.set_cons_succ]
    unfold clientsCells
    have e : ∀ i, (k + 1) * 5 + i = 5 + (k * 5 + i) := fun i => by omega
    have e0 : (k + 1) * 5 = 5 + (k * 5) := by omega
    rw [e, e, e, e, e0, set_pass (by rfl), set_pass (by rfl), set_pass (by rfl), set_pass (by rfl), set_pass (by rfl), ih]
/-- A client put in the place of another. -/
theorem OwnClients.put5 {w : World} {base g n c : Nat} {l : List MClient} {hs : Heads} {k : Nat} {x : MClient} {A' : Option Addr} {c' : Nat} (h : OwnClients w base (some ⟨g, 0, none⟩) n c l hs) (hk : k < n) (hrec : w.ownsRow base 76 2 (.slice A' x.writes.length c') x.writes.length (writeCells x.writes))
    (hd : ∀ (j : Nat) (q : Option Addr × Nat), j ≠ k → hs[j]? = some q → (Value.slice q.1 0 0).ownBlock ≠ none → (Value.slice q.1 0 0).ownBlock ≠ (Value.slice A' 0 0).ownBlock) :
    OwnClients (((((w.setCell ⟨g, k * 5, none⟩ (.int .i64 x.phase)).setCell ⟨g, k * 5 + 1, none⟩ (.int .i64 x.start)).setCell ⟨g, k * 5 + 2, none⟩ (.int .i64 x.commit)).setCell ⟨g, k * 5 + 3, none⟩ (.slice A' x.writes.length c')).setCell ⟨g, k * 5 + 4, none⟩ (.int .i64 x.at_)) base (some ⟨g, 0, none⟩) n c (l.set k x) (hs.set k (A', c')) := by
  obtain ⟨h1, h2, h3, h4, h5⟩ := h
  obtain ⟨cur, hg, _⟩ := own_blk h3
  have hkeep : ∀ {v : Value} {m : Nat} {xs : List Value} (a b c d e : Value), w.ownsRow base 76 2 v m xs → (((((w.setCell ⟨g, k * 5, none⟩ a).setCell ⟨g, k * 5 + 1, none⟩ b).setCell ⟨g, k * 5 + 2, none⟩ c).setCell ⟨g, k * 5 + 3, none⟩ d).setCell ⟨g, k * 5 + 4, none⟩ e).ownsRow base 76 2 v m xs := fun a b c d e ho => by
    have hne := own_ne ho hg (by decide)
    exact own_far (own_far (own_far (own_far (own_far ho hne a) hne b) hne c) hne d) hne e
  refine ⟨by simp [h1], by simp [h2], ?_, fun j q x' hq hx => ?_, fun i j p q hij hi hj hn => ?_⟩
  · have := own_set (own_set (own_set (own_set (own_set h3 (k * 5) (.int .i64 x.phase)) (k * 5 + 1) (.int .i64 x.start)) (k * 5 + 2) (.int .i64 x.commit)) (k * 5 + 3) (.slice A' x.writes.length c')) (k * 5 + 4) (.int .i64 x.at_)
    rwa [clientsCells_set x (A', c') (by omega) (by omega)] at this
  · by_cases e : j = k
    · subst e
      rw [List.getElem?_set_self (by omega)] at hq hx
      have hq' := Option.some.inj hq
      have hx' := Option.some.inj hx
      rw [← hq', ← hx']
      exact hkeep _ _ _ _ _ hrec
    · rw [List.getElem?_set_ne (fun e' => e e'.symm)] at hq hx
      exact hkeep _ _ _ _ _ (h4 j q x' hq hx)
  · have hget : ∀ (i : Nat) (p : Option Addr × Nat), (hs.set k (A', c'))[i]? = some p → (i = k ∧ p = (A', c')) ∨ (i ≠ k ∧ hs[i]? = some p) := fun i p hi => by
      by_cases e : i = k
      · subst e
        rw [List.getElem?_set_self (by omega)] at hi
        exact .inl ⟨rfl, (Option.some.inj hi).symm⟩
      · rw [List.getElem?_set_ne (fun e' => e e'.symm)] at hi
        exact .inr ⟨e, hi⟩
    rcases hget i p hi with ⟨ei, ep⟩ | ⟨ei, hi⟩
    · rcases hget j q hj with ⟨ej, _⟩ | ⟨ej, hj⟩
      · exact absurd (ei.trans ej.symm) hij
      · subst ep
        intro e
        exact hd j q ej hj (by rw [← e]; exact hn) e.symm
    · rcases hget j q hj with ⟨_, eq⟩ | ⟨_, hj⟩
      · subst eq; exact hd i p ei hi hn
      · exact h5 i j p q hij hi hj hn
/-! ### a site -/
structure SiteAt (w : World) (base gs gw gc C : Nat) (M : MWorld) (A : Option Addr) (n c m c' : Nat) (H H' : Heads) : Prop where
  site : w.heap[gs]? = some (.cells #[.pointer (some ⟨gw, 0, none⟩), .pointer (some ⟨gc, C * 5, none⟩)] 64 (0, 0))
  world : w.heap[gw]? = some (.cells #[.slice A n c, .int .i64 M.clock, .slice (some ⟨gc, 0, none⟩) m c'] 36 (0, 0))
  rows : OwnRows w base A n c M.rows H
  clients : OwnClients w base (some ⟨gc, 0, none⟩) m c' M.clients H'
  lt : C < m
  bs : base ≤ gs
  bw : base ≤ gw
def Site (w : World) (base gs gw gc C : Nat) (M : MWorld) : Prop := ∃ A n c m c' H H', SiteAt w base gs gw gc C M A n c m c' H H'
section
variable {w w' : World} {base gs gw gc C n c m c' : Nat} {M : MWorld} {A : Option Addr} {H H' : Heads} {ts : List TypeId}
theorem SiteAt.keep (h : SiteAt w base gs gw gc C M A n c m c' H H') (hk : Keeps ts base w w') (ht : 64 ∉ ts ∧ 36 ∉ ts ∧ 26 ∉ ts ∧ 55 ∉ ts ∧ 58 ∉ ts ∧ 76 ∉ ts) : SiteAt w' base gs gw gc C M A n c m c' H H' :=
  ⟨hk.blk h.site ht.1, hk.blk h.world ht.2.1, hk.rows h.rows ht.2.2.1 ht.2.2.2.1, hk.clients h.clients ht.2.2.2.2.1 ht.2.2.2.2.2, h.lt, h.bs, h.bw⟩
theorem SiteAt.below {B : Nat} (h : SiteAt w base gs gw gc C M A n c m c' H H') (hb : Below B w w') (hB : w.heap.size ≤ B) : SiteAt w' base gs gw gc C M A n c m c' H H' :=
  h.keep (ts := []) (Keeps.of_below hb hB (Nat.le_of_lt (Nat.lt_of_le_of_lt h.bs (blk_lt h.site)))) ⟨by simp, by simp, by simp, by simp, by simp, by simp⟩
theorem SiteAt.size (h : SiteAt w base gs gw gc C M A n c m c' H H') : base ≤ w.heap.size := Nat.le_of_lt (Nat.lt_of_le_of_lt h.bs (blk_lt h.site))
theorem SiteAt.parts (h : SiteAt w base gs gw gc C M A n c m c' H H') : ∃ x hd, M.clients[C]? = some x ∧ H'[C]? = some hd ∧ clientAt M C = x := by
  have hl : C < M.clients.length := by rw [h.clients.1]; exact h.lt
  have hh : C < H'.length := by rw [h.clients.2.1]; exact h.lt
  exact ⟨M.clients[C], H'[C], List.getElem?_eq_getElem hl, List.getElem?_eq_getElem hh, by unfold clientAt; rw [List.getElem?_eq_getElem hl]; rfl⟩
/-- The cells of the site's client. -/
theorem SiteAt.cells (h : SiteAt w base gs gw gc C M A n c m c' H H') {x : MClient} {hd : Option Addr × Nat} (hx : M.clients[C]? = some x) (hh : H'[C]? = some hd) :
    w.cell? ⟨gc, C * 5, none⟩ = some (.int .i64 x.phase) ∧ w.cell? ⟨gc, C * 5 + 1, none⟩ = some (.int .i64 x.start) ∧ w.cell? ⟨gc, C * 5 + 2, none⟩ = some (.int .i64 x.commit) ∧ w.cell? ⟨gc, C * 5 + 3, none⟩ = some (.slice hd.1 x.writes.length hd.2) ∧ w.cell? ⟨gc, C * 5 + 4, none⟩ = some (.int .i64 x.at_) := by
  have hc : ∀ i u, (clientCells x hd.1 x.writes.length hd.2)[i]? = some u → w.cell? ⟨gc, C * 5 + i, none⟩ = some u := fun i u hu => by
    obtain ⟨g, e, _, hcell⟩ := own_cell h.clients.2.2.1 (clientsCells_at hx hh hu)
    injection e with e; injection e with e
    rw [e]; exact hcell
  exact ⟨hc 0 _ rfl, hc 1 _ rfl, hc 2 _ rfl, hc 3 _ rfl, hc 4 _ rfl⟩
theorem SiteAt.frozen (h : SiteAt w base gs gw gc C M A n c m c' H H') : (∀ i, w.frozen? ⟨gs, i, none⟩ = false) ∧ (∀ i, w.frozen? ⟨gw, i, none⟩ = false) ∧ (∀ i, w.frozen? ⟨gc, i, none⟩ = false) := by
  obtain ⟨cur, hg, _⟩ := own_blk h.clients.2.2.1
  exact ⟨(blk_read h.site).2, (blk_read h.world).2, (blk_read hg).2⟩
/-- The writes of the site's client. -/
theorem SiteAt.writes (h : SiteAt w base gs gw gc C M A n c m c' H H') {x : MClient} {hd : Option Addr × Nat} (hx : M.clients[C]? = some x) (hh : H'[C]? = some hd) : w.ownsRow base 76 2 (.slice hd.1 x.writes.length hd.2) x.writes.length (writeCells x.writes) := h.clients.2.2.2.1 C x hd hx hh
theorem Site.keep (h : Site w base gs gw gc C M) (hk : Keeps ts base w w') (ht : 64 ∉ ts ∧ 36 ∉ ts ∧ 26 ∉ ts ∧ 55 ∉ ts ∧ 58 ∉ ts ∧ 76 ∉ ts) : Site w' base gs gw gc C M := by
  obtain ⟨A, n, c, m, c', H, H', h⟩ := h
  exact ⟨A, n, c, m, c', H, H', h.keep hk ht⟩
theorem Site.below {B : Nat} (h : Site w base gs gw gc C M) (hb : Below B w w') (hB : w.heap.size ≤ B) : Site w' base gs gw gc C M := by
  obtain ⟨A, n, c, m, c', H, H', h⟩ := h
  exact ⟨A, n, c, m, c', H, H', h.below hb hB⟩
end
theorem Keeps.set5 {w : World} {base g : Nat} {ts : List TypeId} {t : TypeId} {cs : Array Value} (hg : w.heap[g]? = some (.cells cs t (0, 0))) (ht : t ∈ ts) (hb : base ≤ g) (i1 i2 i3 i4 i5 : Nat) (a b c d e : Value) :
    Keeps ts base w (((((w.setCell ⟨g, i1, none⟩ a).setCell ⟨g, i2, none⟩ b).setCell ⟨g, i3, none⟩ c).setCell ⟨g, i4, none⟩ d).setCell ⟨g, i5, none⟩ e) :=
  (((((Keeps.refl ts base w).set hg ht hb a).set (blk_set hg i1 a) ht hb b).set (blk_set (blk_set hg i1 a) i2 b) ht hb c).set (blk_set (blk_set (blk_set hg i1 a) i2 b) i3 c) ht hb d).set (blk_set (blk_set (blk_set (blk_set hg i1 a) i2 b) i3 c) i4 d) ht hb e
/-- A row put in the place of another. -/
theorem SiteAt.put5 {w : World} {base gs gw gc C n c m c' g k : Nat} {M : MWorld} {H H' : Heads} {q : MRow} {A2 : Option Addr} {c2 : Nat} (h : SiteAt w base gs gw gc C M (some ⟨g, 0, none⟩) n c m c' H H') (hk : k < n)
    (hrec : w.ownsRow base 55 3 (.slice A2 q.recs.length c2) q.recs.length (recCells q.recs)) :
    SiteAt (((((w.setCell ⟨g, k * 5, none⟩ (.string q.key)).setCell ⟨g, k * 5 + 1, none⟩ (.int .i64 q.ls)).setCell ⟨g, k * 5 + 2, none⟩ (.string q.lp)).setCell ⟨g, k * 5 + 3, none⟩ (.string q.value)).setCell ⟨g, k * 5 + 4, none⟩ (.slice A2 q.recs.length c2)) base gs gw gc C { M with rows := M.rows.set k q } (some ⟨g, 0, none⟩) n c m c' (H.set k (A2, c2)) H' ∧
    Keeps [26] base w (((((w.setCell ⟨g, k * 5, none⟩ (.string q.key)).setCell ⟨g, k * 5 + 1, none⟩ (.int .i64 q.ls)).setCell ⟨g, k * 5 + 2, none⟩ (.string q.lp)).setCell ⟨g, k * 5 + 3, none⟩ (.string q.value)).setCell ⟨g, k * 5 + 4, none⟩ (.slice A2 q.recs.length c2)) := by
  obtain ⟨cur, hg, hb⟩ := own_blk h.rows.2.2.1
  have hk5 := Keeps.set5 (ts := [26]) hg (by simp) hb (k * 5) (k * 5 + 1) (k * 5 + 2) (k * 5 + 3) (k * 5 + 4) (.string q.key) (.int .i64 q.ls) (.string q.lp) (.string q.value) (.slice A2 q.recs.length c2)
  exact ⟨⟨hk5.blk h.site (by decide), hk5.blk h.world (by decide), h.rows.put hk hrec, hk5.clients h.clients (by decide) (by decide), h.lt, h.bs, h.bw⟩, hk5⟩
/-- The site's client put in the place of another, without writes. -/
theorem SiteAt.putZero {w : World} {base gs gw gc C n c m c' : Nat} {M : MWorld} {A : Option Addr} {H H' : Heads} {x : MClient} (h : SiteAt w base gs gw gc C M A n c m c' H H') (hw : x.writes = []) :
    SiteAt (((((w.setCell ⟨gc, C * 5, none⟩ (.int .i64 x.phase)).setCell ⟨gc, C * 5 + 1, none⟩ (.int .i64 x.start)).setCell ⟨gc, C * 5 + 2, none⟩ (.int .i64 x.commit)).setCell ⟨gc, C * 5 + 3, none⟩ (.slice none 0 0)).setCell ⟨gc, C * 5 + 4, none⟩ (.int .i64 x.at_)) base gs gw gc C { M with clients := M.clients.set C x } A n c m c' H (H'.set C (none, 0)) ∧
    Keeps [58] base w (((((w.setCell ⟨gc, C * 5, none⟩ (.int .i64 x.phase)).setCell ⟨gc, C * 5 + 1, none⟩ (.int .i64 x.start)).setCell ⟨gc, C * 5 + 2, none⟩ (.int .i64 x.commit)).setCell ⟨gc, C * 5 + 3, none⟩ (.slice none 0 0)).setCell ⟨gc, C * 5 + 4, none⟩ (.int .i64 x.at_)) := by
  obtain ⟨cur, hg, hb⟩ := own_blk h.clients.2.2.1
  have hk5 := Keeps.set5 (ts := [58]) hg (by simp) hb (C * 5) (C * 5 + 1) (C * 5 + 2) (C * 5 + 3) (C * 5 + 4) (.int .i64 x.phase) (.int .i64 x.start) (.int .i64 x.commit) (.slice none 0 0) (.int .i64 x.at_)
  have hc := h.clients.put5 (x := x) (A' := none) (c' := 0) h.lt (by rw [hw]; exact World.ownsRow_nil _ _ _ _) (fun j q _ _ hn => hn)
  rw [hw] at hc
  exact ⟨⟨hk5.blk h.site (by decide), hk5.blk h.world (by decide), hk5.rows h.rows (by decide) (by decide), hc, h.lt, h.bs, h.bw⟩, hk5⟩
/-- One cell of the site's client turned. -/
theorem SiteAt.put1 {w : World} {base gs gw gc C n c m c' i : Nat} {M : MWorld} {A : Option Addr} {H H' : Heads} {x x' : MClient} {hd : Option Addr × Nat} {u : Value} (h : SiteAt w base gs gw gc C M A n c m c' H H') (hx : M.clients[C]? = some x) (hh : H'[C]? = some hd)
    (hc : (clientCells x hd.1 x.writes.length hd.2).set i u = clientCells x' hd.1 x'.writes.length hd.2) (hi : i < 5) (hw : x'.writes = x.writes) :
    SiteAt (w.setCell ⟨gc, C * 5 + i, none⟩ u) base gs gw gc C { M with clients := M.clients.set C x' } A n c m c' H H' ∧ Keeps [58] base w (w.setCell ⟨gc, C * 5 + i, none⟩ u) := by
  obtain ⟨cur, hg, hb⟩ := own_blk h.clients.2.2.1
  have hk : Keeps [58] base w (w.setCell ⟨gc, C * 5 + i, none⟩ u) := (Keeps.refl _ _ w).set hg (by simp) hb u
  exact ⟨⟨hk.blk h.site (by decide), hk.blk h.world (by decide), hk.rows h.rows (by decide) (by decide), h.clients.put1 hx hh hc hi hw, h.lt, h.bs, h.bw⟩, hk⟩
theorem SiteAt.drew {w : World} {base gs gw gc C n c m c' : Nat} {M : MWorld} {A : Option Addr} {H H' : Heads} (h : SiteAt w base gs gw gc C M A n c m c' H H') : SiteAt w.drew base gs gw gc C M A n c m c' H H' :=
  h.keep (ts := []) (Keeps.refl [] base w).drew ⟨by simp, by simp, by simp, by simp, by simp, by simp⟩
theorem SiteAt.any {w : World} {base gs gw gc C n c m c' : Nat} {M : MWorld} {A : Option Addr} {H H' : Heads} (h : SiteAt w base gs gw gc C M A n c m c' H H') : Site w base gs gw gc C M := ⟨A, n, c, m, c', H, H', h⟩
theorem rowsCells_append : ∀ {a : List MRow} {x : Heads} {b : List MRow} {y : Heads}, a.length = x.length → rowsCells (a ++ b) (x ++ y) = rowsCells a x ++ rowsCells b y
  | [], [], _, _, _ => rfl
  | r :: a, g :: x, b, y, h => by
    simp only [List.cons_append, rowsCells, List.append_assoc]
    rw [rowsCells_append (by simpa using h)]
  | [], _ :: _, _, _, h => by simp at h
  | _ :: _, [], _, _, h => by simp at h
theorem rowsCells_length : ∀ {l : List MRow} {hs : Heads}, l.length = hs.length → (rowsCells l hs).length = l.length * 5
  | [], [], _ => rfl
  | r :: a, g :: x, h => by
    rw [rowsCells, List.length_append, rowsCells_length (by simpa using h)]
    simp [rowCells]; omega
  | [], _ :: _, h => by simp at h
  | _ :: _, [], h => by simp at h
theorem rowsCells_split {l : List MRow} {hs : Heads} (i : Nat) (h : l.length = hs.length) (hi : i ≤ l.length) : (rowsCells l hs).take (i * 5) = rowsCells (l.take i) (hs.take i) ∧ (rowsCells l hs).drop (i * 5) = rowsCells (l.drop i) (hs.drop i) := by
  have e : rowsCells l hs = rowsCells (l.take i) (hs.take i) ++ rowsCells (l.drop i) (hs.drop i) := by
    rw [← rowsCells_append (by simp [h]), List.take_append_drop, List.take_append_drop]
  have hl : (rowsCells (l.take i) (hs.take i)).length = i * 5 := by
    rw [rowsCells_length (by simp [h]), List.length_take]; congr 1; omega
  rw [e]
  exact ⟨by rw [List.take_append_of_le_length (by omega), List.take_of_length_le (by omega)], by rw [List.drop_append_of_le_length (by omega), List.drop_of_length_le (by omega)]; rfl⟩
theorem rowsCells_insert {l : List MRow} {hs : Heads} {i : Nat} {q : MRow} {hd : Option Addr × Nat} (h : l.length = hs.length) (hi : i ≤ l.length) :
    rowsCells (l.take i ++ q :: l.drop i) (hs.take i ++ hd :: hs.drop i) = (rowsCells l hs).take (i * 5) ++ rowCells q hd.1 q.recs.length hd.2 ++ (rowsCells l hs).drop (i * 5) := by
  obtain ⟨e1, e2⟩ := rowsCells_split i h hi
  rw [rowsCells_append (by simp [h]), e1, e2, rowsCells, List.append_assoc]
theorem get_insert {α : Type} {l : List α} {i k : Nat} {q x : α} (hi : i ≤ l.length) (h : (l.take i ++ q :: l.drop i)[k]? = some x) : (k = i ∧ x = q) ∨ ∃ j, l[j]? = some x ∧ ((k < i ∧ j = k) ∨ (i < k ∧ j + 1 = k)) := by
  by_cases hk : k < i
  · rw [List.getElem?_append_left (by simp; omega), List.getElem?_take, if_pos hk] at h
    exact .inr ⟨k, h, .inl ⟨hk, rfl⟩⟩
  · rw [List.getElem?_append_right (by simp; omega), List.length_take, show min i l.length = i by omega] at h
    by_cases e : k = i
    · subst e
      rw [Nat.sub_self] at h
      exact .inl ⟨rfl, by simpa using h.symm⟩
    · obtain ⟨j, rfl⟩ : ∃ j, k = j + 1 := ⟨k - 1, by omega⟩
      rw [show j + 1 - i = (j - i) + 1 by omega, List.getElem?_cons_succ, List.getElem?_drop, show i + (j - i) = j by omega] at h
      exact .inr ⟨j, h, .inr ⟨by omega, rfl⟩⟩
/-- A row more, wherever. -/
theorem SiteAt.insert {w X w3 : World} {base gs gw gc C n c m c' i : Nat} {M : MWorld} {A : Option Addr} {H H' : Heads} {q : MRow} {A2 A3 : Option Addr} {c2 c3 : Nat} (h : SiteAt w base gs gw gc C M A n c m c' H H') (hx : Keeps [] base w X) (hi : i ≤ n)
    (hrec : w.ownsRow base 55 3 (.slice A2 q.recs.length c2) q.recs.length (recCells q.recs)) (hg : X.grownBy w3 (Value.slice A n c).ownBlock)
    (hown : w3.ownsRow base 26 5 (.slice A3 (n + 1) c3) (n + 1) ((rowsCells M.rows H).take (i * 5) ++ rowCells q A2 q.recs.length c2 ++ (rowsCells M.rows H).drop (i * 5))) :
    SiteAt (w3.setCell ⟨gw, 0, none⟩ (.slice A3 (n + 1) c3)) base gs gw gc C { M with rows := M.rows.take i ++ q :: M.rows.drop i } A3 (n + 1) c3 m c' (H.take i ++ (A2, c2) :: H.drop i) H' ∧
    Keeps [26, 36] base w (w3.setCell ⟨gw, 0, none⟩ (.slice A3 (n + 1) c3)) := by
  obtain ⟨h1, h2, h3, h4⟩ := h.rows
  have hX := h.keep hx ⟨by simp, by simp, by simp, by simp, by simp, by simp⟩
  have k3 : Keeps [26] base w w3 := (hx.wide (by simp)).grown hX.rows.2.2.1 (by simp) (.inl rfl) hg hX.size
  have hw3 := k3.blk h.world (by decide)
  have k4 : Keeps [26, 36] base w (w3.setCell ⟨gw, 0, none⟩ (.slice A3 (n + 1) c3)) := (k3.wide (by simp)).set hw3 (by simp) h.bw _
  refine ⟨⟨k4.blk h.site (by decide), by simpa using blk_set hw3 0 (.slice A3 (n + 1) c3), ⟨?_, ?_, ?_, fun k r g hr hh => ?_⟩, k4.clients h.clients (by decide) (by decide), h.lt, h.bs, h.bw⟩, k4⟩
  · simp; omega
  · simp; omega
  · rw [rowsCells_insert (by omega) (by omega)]
    exact own_far hown (own_ne hown hw3 (by decide)) _
  · rcases get_insert (by omega) hr with ⟨e, er⟩ | ⟨j, hj, hjk⟩
    · rcases get_insert (by omega) hh with ⟨_, eg⟩ | ⟨j, _, hjk⟩
      · subst er eg; exact k4.own hrec (by decide)
      · omega
    · rcases get_insert (by omega) hh with ⟨e, _⟩ | ⟨j', hj', hjk'⟩
      · omega
      · have e : j' = j := by omega
        subst e
        exact k4.own (h4 _ _ _ hj hj') (by decide)
/-- Rows that are valid are no larger than they may be. -/
theorem key_size {s : ByteArray} (h : keyB s = true) : s.size ≤ 6 := by
  unfold keyB at h
  simp only [Bool.and_eq_true, decide_eq_true_eq] at h
  exact h.2.1
theorem RowGood.small {r : MRow} (h : RowGood r) : r.recs.length * 32 ≤ 140737488351232 ∧ r.key.size ≤ maxLen ∧ r.lp.size ≤ maxLen := by
  have h1 := h.len
  have h2 := key_size h.key
  refine ⟨by omega, by unfold maxLen; omega, ?_⟩
  by_cases h0 : r.ls = 0
  · rw [(h.free h0).1]; exact Nat.zero_le _
  · have := key_size (h.lock h0).2.2.1
    unfold maxLen; omega
theorem RowsVal.sized {clock : Int} {l : List MRow} (h : RowsVal clock l) : RowsSized l :=
  ⟨by have := h.len; omega, fun r hr => (h.each r hr).1.small⟩
theorem writes_good {x : MClient} {clock : Int} (h : clientB x clock = true) : x.writes.length ≤ 6 ∧ WritesGood x.writes := by
  unfold clientB at h
  simp only [Bool.and_eq_true, decide_eq_true_eq] at h
  exact ⟨h.1, writesB_iff.1 h.2.1⟩
theorem WorldGood.sized {M : MWorld} (h : WorldGood M) : RowsSized M.rows ∧ ClientsSized M.clients :=
  ⟨h.rows.sized, by have := h.few; omega, fun x hx => by
    obtain ⟨h1, h2⟩ := writes_good (h.clients x hx)
    refine ⟨by omega, fun y hy => ?_⟩
    have := key_size (h2.1 y hy).1
    unfold maxLen; omega⟩
end Go.Proofs.Ytniomgngiiiklab

/- What Do hands back. No walk. -/
namespace Go.Proofs.Ytniomgngiiiklab
open Go.RowKit

/-- What Do hands back: a world in memory of its own, an answer, an error number. -/
def DoRet (w : World) (p : MWorld × MAns × Int) (e : Ending) (w' : World) : Prop :=
  ∃ A n c hs A' n' c' hs', e = .returned (.tuple #[.agg #[.slice A n c, .int .i64 p.1.clock, .slice A' n' c'], .agg #[.int .i64 p.2.1.code, .bool p.2.1.is, .string p.2.1.value, .int .i64 p.2.1.phase, .int .i64 p.2.1.time], .int .i64 p.2.2]) ∧
    OwnRows w' w.heap.size A n c p.1.rows hs ∧ OwnClients w' w.heap.size A' n' c' p.1.clients hs' ∧ Below w.heap.size w w'
theorem doRet_bad {w w' : World} {M : MWorld} {a : MAct} {c : Int} (h : doCode M a = c) (h0 : c ≠ 0) (hb : Below w.heap.size w w') :
    DoRet w (doM M a) (.returned (.tuple #[.agg #[.slice none 0 0, .int .i64 0, .slice none 0 0], .agg #[.int .i64 0, .bool false, .string ⟨#[]⟩, .int .i64 0, .int .i64 0], .int .i64 c])) w' := by
  have e : doM M a = (zeroWorld, zeroAns, c) := by unfold doM; rw [h, if_neg h0]
  rw [e]
  exact ⟨none, 0, 0, [], none, 0, 0, [], rfl, OwnRows.nil _ _, OwnClients.nil _ _, hb⟩
end Go.Proofs.Ytniomgngiiiklab

/- A slice that reads as a list, so many cells for each; answers so read. No walk. -/
namespace Go.Proofs.Ytniomgngiiiklab
open Go.RowKit

/-- The slice (A, n) reads as l, s cells for each, in a block below B. -/
structure Reads {α : Type} (f : α → List Value) (s : Nat) (w : World) (B : Nat) (A : Option Addr) (n : Nat) (l : List α) : Prop where
  len : l.length = n
  at_ : ∀ (k : Nat) (x : α), l[k]? = some x → ∃ b off, A = some ⟨b, off, none⟩ ∧ b < B ∧ ∀ i u, (f x)[i]? = some u → w.cell? ⟨b, off + k * s + i, none⟩ = some u
section
variable {α : Type} {f : α → List Value} {s : Nat} {w w' : World} {B C n : Nat} {A : Option Addr} {l : List α}
theorem Reads.nil (f : α → List Value) (s : Nat) (w : World) (B : Nat) : Reads f s w B none 0 [] := ⟨rfl, fun k x h => by simp at h⟩
theorem Reads.of_own {base c : Nat} {e : TypeId} (hf : ∀ x, (f x).length = s) (hs : 0 < s) (h : w.ownsRow base e s (.slice A n c) n (l.flatMap f)) : Reads f s w w.heap.size A n l := by
  have hl : l.length = n := by
    have h1 := h.1
    rw [flat_length hf l] at h1
    exact Nat.eq_of_mul_eq_mul_right hs h1
  refine ⟨hl, fun k x hx => ?_⟩
  obtain ⟨g, e, hg, hc⟩ := flat_own hf hs h hx
  exact ⟨g, 0, e, hg, fun i u hu => by simpa using hc i u hu⟩
theorem Reads.keep (h : Reads f s w B A n l) (hk : ∀ g, g < B → w'.heap[g]? = w.heap[g]?) (hC : B ≤ C) : Reads f s w' C A n l :=
  ⟨h.len, fun k x hx => by
    obtain ⟨b, off, e, hlt, hc⟩ := h.at_ k x hx
    exact ⟨b, off, e, Nat.lt_of_lt_of_le hlt hC, fun i u hu => (World.cell?_of_block (a := ⟨b, _, none⟩) (hk b hlt)).trans (hc i u hu)⟩⟩
theorem Reads.below (h : Reads f s w B A n l) (hb : Below C w w') (hC : B ≤ C) : Reads f s w' B A n l := h.keep (fun g hg => hb.block g (Nat.lt_of_lt_of_le hg hC)) (Nat.le_refl _)
theorem Reads.more (h : Reads f s w B A n l) (hC : B ≤ C) : Reads f s w C A n l := h.keep (fun _ _ => rfl) hC
theorem Reads.take (h : Reads f s w B A n l) {m : Nat} (hm : m ≤ n) : Reads f s w B A m (l.take m) :=
  ⟨by rw [List.length_take, h.len]; omega, fun k a ha => h.at_ k a (by
    rw [List.getElem?_take] at ha
    split at ha
    · exact ha
    · cases ha)⟩
theorem Reads.get (h : Reads f s w B A n l) {k : Nat} (hk : k < n) : ∃ x b off, l[k]? = some x ∧ A = some ⟨b, off, none⟩ ∧ b < B ∧ ∀ i u, (f x)[i]? = some u → w.cell? ⟨b, off + k * s + i, none⟩ = some u := by
  have hl : k < l.length := by rw [h.len]; exact hk
  obtain ⟨b, off, hc⟩ := h.at_ k l[k] (List.getElem?_eq_getElem hl)
  exact ⟨l[k], b, off, List.getElem?_eq_getElem hl, hc⟩
end
abbrev AnsOk (w : World) (B : Nat) (A : Option Addr) (n : Nat) (l : List MAns) : Prop := Reads MAns.cells 5 w B A n l
theorem AnsOk.of_own {w : World} {base n c : Nat} {e : TypeId} {A : Option Addr} {l : List MAns} (h : w.ownsRow base e 5 (.slice A n c) n (ansList l)) : AnsOk w w.heap.size A n l := Reads.of_own (fun _ => rfl) (by omega) h
theorem AnsOk.ans {w : World} {B n : Nat} {A : Option Addr} {l : List MAns} (h : AnsOk w B A n l) {k : Nat} (hk : k < n) :
    ∃ a b off, l[k]? = some a ∧ A = some ⟨b, off, none⟩ ∧ b < B ∧ w.cell? ⟨b, off + k * 5, none⟩ = some (.int .i64 a.code) ∧ w.cell? ⟨b, off + k * 5 + 1, none⟩ = some (.bool a.is) ∧ w.cell? ⟨b, off + k * 5 + 2, none⟩ = some (.string a.value) ∧
      w.cell? ⟨b, off + k * 5 + 3, none⟩ = some (.int .i64 a.phase) ∧ w.cell? ⟨b, off + k * 5 + 4, none⟩ = some (.int .i64 a.time) := by
  obtain ⟨a, b, off, h1, h2, h3, hc⟩ := h.get hk
  exact ⟨a, b, off, h1, h2, h3, by simpa using hc 0 _ rfl, hc 1 _ rfl, hc 2 _ rfl, hc 3 _ rfl, hc 4 _ rfl⟩
theorem ActsOk.of_reads {w : World} {B n : Nat} {A : Option Addr} {l : List MAct} (h : Reads MAct.cells 4 w B A n l) : ActsOk w B A n l :=
  ⟨h.len, fun k a ha => by
    obtain ⟨b, off, e, hlt, hc⟩ := h.at_ k a ha
    exact ⟨b, off, e, hlt, by simpa using hc 0 _ rfl, hc 1 _ rfl, hc 2 _ rfl, hc 3 _ rfl⟩⟩
theorem ActsOk.reads {w : World} {B n : Nat} {A : Option Addr} {l : List MAct} (h : ActsOk w B A n l) : Reads MAct.cells 4 w B A n l :=
  ⟨h.len, fun k a ha => by
    obtain ⟨b, off, e, hlt, h0, h1, h2, h3⟩ := h.at_ k a ha
    refine ⟨b, off, e, hlt, fun i u hu => ?_⟩
    match i, hu with
    | 0, hu => simp [MAct.cells] at hu; subst hu; simpa using h0
    | 1, hu => simp [MAct.cells] at hu; subst hu; exact h1
    | 2, hu => simp [MAct.cells] at hu; subst hu; exact h2
    | 3, hu => simp [MAct.cells] at hu; subst hu; exact h3
    | _ + 4, hu => simp [MAct.cells] at hu⟩
end Go.Proofs.Ytniomgngiiiklab
