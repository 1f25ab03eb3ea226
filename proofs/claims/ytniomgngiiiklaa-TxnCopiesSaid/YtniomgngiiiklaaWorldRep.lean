/- Worlds in memory: what it means that slices read as rows, as clients; owned rows and clients. No walk. -/
import Derived.Test.YtniomgngiiiklaaOpen
import Derived.Test.YtniomgngiiiklaaKeep
import Derived.Test.YtniomgngiiiklaaModel
namespace Go.Proofs.Ytniomgngiiiklaa
open Go.RowKit

def clientCells (x : MClient) (A : Option Addr) (n c : Nat) : List Value := [.int .i64 x.phase, .int .i64 x.start, .int .i64 x.commit, .slice A n c, .int .i64 x.at_]
/-- A client's own words, and its writes in memory below B. -/
structure ClientOk (w : World) (B : Nat) (x : MClient) (A : Option Addr) (n c : Nat) : Prop where
  writes : WritesOk w B A n c x.writes

/-- The slice (A, n) reads as rows, in blocks below B. -/
structure RowsOk (w : World) (B : Nat) (A : Option Addr) (n c : Nat) (rows : List MRow) : Prop where
  len : rows.length = n
  at_ : ∀ (k : Nat) (r : MRow), rows[k]? = some r → ∃ b off A' n' c', A = some ⟨b, off, none⟩ ∧ b < B ∧ (∀ i u, (rowCells r A' n' c')[i]? = some u → w.cell? ⟨b, off + k * 5 + i, none⟩ = some u) ∧ RowOk w B r A' n' c'
  le : n ≤ c
  small : n * 80 ≤ 140737488351232
  nil : A = none → c = 0
structure ClientsOk (w : World) (B : Nat) (A : Option Addr) (n c : Nat) (cs : List MClient) : Prop where
  len : cs.length = n
  at_ : ∀ (k : Nat) (x : MClient), cs[k]? = some x → ∃ b off A' n' c', A = some ⟨b, off, none⟩ ∧ b < B ∧ (∀ i u, (clientCells x A' n' c')[i]? = some u → w.cell? ⟨b, off + k * 5 + i, none⟩ = some u) ∧ ClientOk w B x A' n' c'
  le : n ≤ c
  small : n * 56 ≤ 140737488351232
  nil : A = none → c = 0

section
variable {w w' : World} {B C n c : Nat} {A : Option Addr}
theorem ClientOk.below {x : MClient} (h : ClientOk w B x A n c) (hb : Below C w w') (hC : B ≤ C) : ClientOk w' B x A n c := ⟨h.writes.below hb hC⟩
theorem ClientOk.more {x : MClient} (h : ClientOk w B x A n c) (hC : B ≤ C) : ClientOk w C x A n c := ⟨h.writes.more hC⟩
theorem RowsOk.below {l : List MRow} (h : RowsOk w B A n c l) (hb : Below C w w') (hC : B ≤ C) : RowsOk w' B A n c l :=
  ⟨h.len, fun k r hr => by
    obtain ⟨b, off, A', n', c', e, hlt, hcell, hok⟩ := h.at_ k r hr
    exact ⟨b, off, A', n', c', e, hlt, fun i u hu => ((hb.mono hC).cell (p := ⟨b, off + k * 5 + i, none⟩) hlt).trans (hcell i u hu), hok.below hb hC⟩, h.le, h.small, h.nil⟩
theorem RowsOk.more {l : List MRow} (h : RowsOk w B A n c l) (hC : B ≤ C) : RowsOk w C A n c l :=
  ⟨h.len, fun k r hr => by
    obtain ⟨b, off, A', n', c', e, hlt, hcell, hok⟩ := h.at_ k r hr
    exact ⟨b, off, A', n', c', e, Nat.lt_of_lt_of_le hlt hC, hcell, hok.more hC⟩, h.le, h.small, h.nil⟩
theorem ClientsOk.below {l : List MClient} (h : ClientsOk w B A n c l) (hb : Below C w w') (hC : B ≤ C) : ClientsOk w' B A n c l :=
  ⟨h.len, fun k r hr => by
    obtain ⟨b, off, A', n', c', e, hlt, hcell, hok⟩ := h.at_ k r hr
    exact ⟨b, off, A', n', c', e, hlt, fun i u hu => ((hb.mono hC).cell (p := ⟨b, off + k * 5 + i, none⟩) hlt).trans (hcell i u hu), hok.below hb hC⟩, h.le, h.small, h.nil⟩
theorem ClientsOk.more {l : List MClient} (h : ClientsOk w B A n c l) (hC : B ≤ C) : ClientsOk w C A n c l :=
  ⟨h.len, fun k r hr => by
    obtain ⟨b, off, A', n', c', e, hlt, hcell, hok⟩ := h.at_ k r hr
    exact ⟨b, off, A', n', c', e, Nat.lt_of_lt_of_le hlt hC, hcell, hok.more hC⟩, h.le, h.small, h.nil⟩
theorem RowsOk.row {l : List MRow} (h : RowsOk w B A n c l) {k : Nat} (hk : k < n) : ∃ r b off A' n' c', l[k]? = some r ∧ A = some ⟨b, off, none⟩ ∧ b < B ∧ RowOk w B r A' n' c' ∧
    w.cell? ⟨b, off + k * 5, none⟩ = some (.string r.key) ∧ w.cell? ⟨b, off + k * 5 + 1, none⟩ = some (.int .i64 r.ls) ∧ w.cell? ⟨b, off + k * 5 + 2, none⟩ = some (.string r.lp) ∧ w.cell? ⟨b, off + k * 5 + 3, none⟩ = some (.string r.value) ∧ w.cell? ⟨b, off + k * 5 + 4, none⟩ = some (.slice A' n' c') := by
  have hl : k < l.length := by rw [h.len]; exact hk
  obtain ⟨b, off, A', n', c', e, hlt, hcell, hok⟩ := h.at_ k l[k] (List.getElem?_eq_getElem hl)
  exact ⟨l[k], b, off, A', n', c', List.getElem?_eq_getElem hl, e, hlt, hok, hcell 0 _ rfl, hcell 1 _ rfl, hcell 2 _ rfl, hcell 3 _ rfl, hcell 4 _ rfl⟩
theorem ClientsOk.client {l : List MClient} (h : ClientsOk w B A n c l) {k : Nat} (hk : k < n) : ∃ x b off A' n' c', l[k]? = some x ∧ A = some ⟨b, off, none⟩ ∧ b < B ∧ ClientOk w B x A' n' c' ∧
    w.cell? ⟨b, off + k * 5, none⟩ = some (.int .i64 x.phase) ∧ w.cell? ⟨b, off + k * 5 + 1, none⟩ = some (.int .i64 x.start) ∧ w.cell? ⟨b, off + k * 5 + 2, none⟩ = some (.int .i64 x.commit) ∧ w.cell? ⟨b, off + k * 5 + 3, none⟩ = some (.slice A' n' c') ∧ w.cell? ⟨b, off + k * 5 + 4, none⟩ = some (.int .i64 x.at_) := by
  have hl : k < l.length := by rw [h.len]; exact hk
  obtain ⟨b, off, A', n', c', e, hlt, hcell, hok⟩ := h.at_ k l[k] (List.getElem?_eq_getElem hl)
  exact ⟨l[k], b, off, A', n', c', List.getElem?_eq_getElem hl, e, hlt, hok, hcell 0 _ rfl, hcell 1 _ rfl, hcell 2 _ rfl, hcell 3 _ rfl, hcell 4 _ rfl⟩
end

/-! ### memory of the call's own -/
/-- Slice headers: an address and a capacity each. -/
abbrev Heads := List (Option Addr × Nat)
def rowsCells : List MRow → Heads → List Value
  | r :: l, h :: hs => rowCells r h.1 r.recs.length h.2 ++ rowsCells l hs
  | _, _ => []
def clientsCells : List MClient → Heads → List Value
  | x :: l, h :: hs => clientCells x h.1 x.writes.length h.2 ++ clientsCells l hs
  | _, _ => []
/-- A slice value that owns its rows, and the rows their records. -/
def OwnRows (w : World) (base : Nat) (A : Option Addr) (n c : Nat) (l : List MRow) (hs : Heads) : Prop :=
  l.length = n ∧ hs.length = n ∧ w.ownsRow base 30 5 (.slice A n c) n (rowsCells l hs) ∧
    ∀ (k : Nat) (r : MRow) (h : Option Addr × Nat), l[k]? = some r → hs[k]? = some h → w.ownsRow base 56 3 (.slice h.1 r.recs.length h.2) r.recs.length (recCells r.recs)
def OwnClients (w : World) (base : Nat) (A : Option Addr) (n c : Nat) (l : List MClient) (hs : Heads) : Prop :=
  l.length = n ∧ hs.length = n ∧ w.ownsRow base 63 5 (.slice A n c) n (clientsCells l hs) ∧
    (∀ (k : Nat) (x : MClient) (h : Option Addr × Nat), l[k]? = some x → hs[k]? = some h → w.ownsRow base 66 2 (.slice h.1 x.writes.length h.2) x.writes.length (writeCells x.writes)) ∧
    (∀ (i j : Nat) (g h : Option Addr × Nat), i ≠ j → hs[i]? = some g → hs[j]? = some h → (Value.slice g.1 0 0).ownBlock ≠ none → (Value.slice g.1 0 0).ownBlock ≠ (Value.slice h.1 0 0).ownBlock)

theorem rowsCells_snoc : ∀ {l : List MRow} {hs : Heads} (r : MRow) (h : Option Addr × Nat), l.length = hs.length → rowsCells (l ++ [r]) (hs ++ [h]) = rowsCells l hs ++ rowCells r h.1 r.recs.length h.2
  | [], [], r, h, _ => by simp [rowsCells]
  | x :: l, g :: hs, r, h, e => by
    simp only [List.cons_append, rowsCells, List.append_assoc]
    rw [rowsCells_snoc r h (by simpa using e)]
  | [], _ :: _, _, _, e => by simp at e
  | _ :: _, [], _, _, e => by simp at e
theorem clientsCells_snoc : ∀ {l : List MClient} {hs : Heads} (r : MClient) (h : Option Addr × Nat), l.length = hs.length → clientsCells (l ++ [r]) (hs ++ [h]) = clientsCells l hs ++ clientCells r h.1 r.writes.length h.2
  | [], [], r, h, _ => by simp [clientsCells]
  | x :: l, g :: hs, r, h, e => by
    simp only [List.cons_append, clientsCells, List.append_assoc]
    rw [clientsCells_snoc r h (by simpa using e)]
  | [], _ :: _, _, _, e => by simp at e
  | _ :: _, [], _, _, e => by simp at e
theorem rowsCells_at : ∀ {l : List MRow} {hs : Heads} {k : Nat} {r : MRow} {h : Option Addr × Nat} {i : Nat} {u : Value}, l[k]? = some r → hs[k]? = some h → (rowCells r h.1 r.recs.length h.2)[i]? = some u → (rowsCells l hs)[k * 5 + i]? = some u
  | [], _, k, r, h, i, u, hr, _, _ => by simp at hr
  | _ :: _, [], k, r, h, i, u, _, hh, _ => by simp at hh
  | x :: l, g :: hs, k, r, h, i, u, hr, hh, hu => by
    have hi : i < 5 := (List.getElem?_eq_some_iff.1 hu).1
    unfold rowsCells
    match k, hr, hh with
    | 0, hr, hh =>
      simp at hr hh; subst hr hh
      rw [List.getElem?_append_left (by simp [rowCells]; omega)]
      simpa using hu
    | k + 1, hr, hh =>
      rw [List.getElem?_append_right (by simp [rowCells]; omega)]
      have := rowsCells_at (l := l) (hs := hs) (k := k) (by simpa using hr) (by simpa using hh) hu
      rw [← this]; congr 1; simp [rowCells]; omega
theorem clientsCells_at : ∀ {l : List MClient} {hs : Heads} {k : Nat} {r : MClient} {h : Option Addr × Nat} {i : Nat} {u : Value}, l[k]? = some r → hs[k]? = some h → (clientCells r h.1 r.writes.length h.2)[i]? = some u → (clientsCells l hs)[k * 5 + i]? = some u
  | [], _, k, r, h, i, u, hr, _, _ => by simp at hr
  | _ :: _, [], k, r, h, i, u, _, hh, _ => by simp at hh
  | x :: l, g :: hs, k, r, h, i, u, hr, hh, hu => by
    have hi : i < 5 := (List.getElem?_eq_some_iff.1 hu).1
    unfold clientsCells
    match k, hr, hh with
    | 0, hr, hh =>
      simp at hr hh; subst hr hh
      rw [List.getElem?_append_left (by simp [clientCells]; omega)]
      simpa using hu
    | k + 1, hr, hh =>
      rw [List.getElem?_append_right (by simp [clientCells]; omega)]
      have := clientsCells_at (l := l) (hs := hs) (k := k) (by simpa using hr) (by simpa using hh) hu
      rw [← this]; congr 1; simp [clientCells]; omega
theorem rowCells_one {r : MRow} {A : Option Addr} {n c : Nat} : ∀ u ∈ rowCells r A n c, u.oneCell' = true := by
  intro u hu; simp [rowCells] at hu; rcases hu with rfl | rfl | rfl | rfl | rfl <;> rfl
theorem clientCells_one {r : MClient} {A : Option Addr} {n c : Nat} : ∀ u ∈ clientCells r A n c, u.oneCell' = true := by
  intro u hu; simp [clientCells] at hu; rcases hu with rfl | rfl | rfl | rfl | rfl <;> rfl
theorem rowsCells_one : ∀ {l : List MRow} {hs : Heads}, ∀ u ∈ rowsCells l hs, u.oneCell' = true
  | [], _, u, hu => by simp [rowsCells] at hu
  | _ :: _, [], u, hu => by simp [rowsCells] at hu
  | x :: l, g :: hs, u, hu => by
    unfold rowsCells at hu
    rcases List.mem_append.1 hu with h | h
    · exact rowCells_one u h
    · exact rowsCells_one u h
theorem clientsCells_one : ∀ {l : List MClient} {hs : Heads}, ∀ u ∈ clientsCells l hs, u.oneCell' = true
  | [], _, u, hu => by simp [clientsCells] at hu
  | _ :: _, [], u, hu => by simp [clientsCells] at hu
  | x :: l, g :: hs, u, hu => by
    unfold clientsCells at hu
    rcases List.mem_append.1 hu with h | h
    · exact clientCells_one u h
    · exact clientsCells_one u h
theorem own_facts {w : World} {base n c size : Nat} {e : TypeId} {A : Option Addr} {xs : List Value} (h : w.ownsRow base e size (.slice A n c) n xs) : n ≤ c ∧ (A = none → c = 0) := by
  rcases h.2 with ⟨hv, rfl⟩ | ⟨g, cap, cur, hv, _, _, hn, _⟩
  · injection hv with e1 _ e3; exact ⟨by omega, fun _ => e3⟩
  · injection hv with e1 _ e3
    exact ⟨by omega, fun e => by rw [e] at e1; cases e1⟩
theorem own_cell {w : World} {base n c size : Nat} {e : TypeId} {A : Option Addr} {xs : List Value} (h : w.ownsRow base e size (.slice A n c) n xs) {j : Nat} {u : Value} (hu : xs[j]? = some u) : ∃ g, A = some ⟨g, 0, none⟩ ∧ g < w.heap.size ∧ w.cell? ⟨g, j, none⟩ = some u := by
  have hl := h.1
  rcases h.2 with ⟨hv, hn⟩ | ⟨g, cap, cur, hv, _⟩
  · have := (List.getElem?_eq_some_iff.1 hu).1
    rw [hn] at hl; omega
  · injection hv with e1 e2 e3
    subst e1 e3
    have hlt := h.lt g rfl
    have := h.cells (g := g) rfl j u hu
    rw [addr_add] at this
    exact ⟨g, rfl, hlt.2, by simpa using this⟩
theorem RecsOk.own {w : World} {base n c : Nat} {A : Option Addr} {rs : List MRec} (h : w.ownsRow base 56 3 (.slice A n c) n (recCells rs)) (hs : n * 32 ≤ 140737488351232) : RecsOk w w.heap.size A n c rs :=
  ⟨RecsAt.of_own h, (own_facts h).1, hs, (own_facts h).2⟩
theorem WritesOk.own {w : World} {base n c : Nat} {A : Option Addr} {rs : List MWrite} (h : w.ownsRow base 66 2 (.slice A n c) n (writeCells rs)) (hs : n * 32 ≤ 140737488351232) (hk : ∀ x ∈ rs, x.key.size ≤ maxLen) : WritesOk w w.heap.size A n c rs :=
  ⟨WritesAt.of_own h, (own_facts h).1, hs, (own_facts h).2, hk⟩
/-- What the sizes of rows must be, to be read. -/
structure RowsSized (l : List MRow) : Prop where
  many : l.length * 80 ≤ 140737488351232
  each : ∀ r ∈ l, r.recs.length * 32 ≤ 140737488351232 ∧ r.key.size ≤ maxLen ∧ r.lp.size ≤ maxLen
structure ClientsSized (l : List MClient) : Prop where
  many : l.length * 56 ≤ 140737488351232
  each : ∀ x ∈ l, x.writes.length * 32 ≤ 140737488351232 ∧ ∀ y ∈ x.writes, y.key.size ≤ maxLen
theorem RowsOk.sized {w : World} {B n c : Nat} {A : Option Addr} {l : List MRow} (h : RowsOk w B A n c l) : RowsSized l :=
  ⟨by rw [h.len]; exact h.small, fun r hr => by
    obtain ⟨k, hk, rfl⟩ := List.mem_iff_getElem.1 hr
    obtain ⟨b, off, A', n', c', _, _, _, hok⟩ := h.at_ k _ (List.getElem?_eq_getElem hk)
    have h1 := hok.recs.small
    rw [← hok.recs.at_.1] at h1
    exact ⟨h1, hok.key, hok.lp⟩⟩
theorem ClientsOk.sized {w : World} {B n c : Nat} {A : Option Addr} {l : List MClient} (h : ClientsOk w B A n c l) : ClientsSized l :=
  ⟨by rw [h.len]; exact h.small, fun r hr => by
    obtain ⟨k, hk, rfl⟩ := List.mem_iff_getElem.1 hr
    obtain ⟨b, off, A', n', c', _, _, _, hok⟩ := h.at_ k _ (List.getElem?_eq_getElem hk)
    have h1 := hok.writes.small
    rw [← hok.writes.at_.1] at h1
    exact ⟨h1, hok.writes.keys⟩⟩
theorem OwnRows.ok {w : World} {base n c : Nat} {A : Option Addr} {l : List MRow} {hs : Heads} (h : OwnRows w base A n c l hs) (hz : RowsSized l) : RowsOk w w.heap.size A n c l := by
  obtain ⟨h1, h2, h3, h4⟩ := h
  refine ⟨h1, fun k r hr => ?_, (own_facts h3).1, by rw [← h1]; exact hz.many, (own_facts h3).2⟩
  have hk : k < l.length := (List.getElem?_eq_some_iff.1 hr).1
  have hh : hs[k]? = some hs[k] := List.getElem?_eq_getElem (by omega)
  have hzr := hz.each r (List.mem_of_getElem? hr)
  obtain ⟨g, hA, hg, _⟩ := own_cell h3 (rowsCells_at hr hh (i := 0) rfl)
  refine ⟨g, 0, hs[k].1, r.recs.length, hs[k].2, hA, hg, fun i u hu => ?_, ⟨RecsOk.own (h4 k r _ hr hh) hzr.1, hzr.2.1, hzr.2.2⟩⟩
  obtain ⟨g', hA', _, hc⟩ := own_cell h3 (rowsCells_at hr hh hu)
  rw [hA] at hA'; injection hA' with hA'; injection hA' with hA'
  rw [← hA'] at hc
  simpa using hc
theorem OwnClients.ok {w : World} {base n c : Nat} {A : Option Addr} {l : List MClient} {hs : Heads} (h : OwnClients w base A n c l hs) (hz : ClientsSized l) : ClientsOk w w.heap.size A n c l := by
  obtain ⟨h1, h2, h3, h4, _⟩ := h
  refine ⟨h1, fun k r hr => ?_, (own_facts h3).1, by rw [← h1]; exact hz.many, (own_facts h3).2⟩
  have hk : k < l.length := (List.getElem?_eq_some_iff.1 hr).1
  have hh : hs[k]? = some hs[k] := List.getElem?_eq_getElem (by omega)
  have hzr := hz.each r (List.mem_of_getElem? hr)
  obtain ⟨g, hA, hg, _⟩ := own_cell h3 (clientsCells_at hr hh (i := 0) rfl)
  refine ⟨g, 0, hs[k].1, r.writes.length, hs[k].2, hA, hg, fun i u hu => ?_, ⟨WritesOk.own (h4 k r _ hr hh) hzr.1 hzr.2⟩⟩
  obtain ⟨g', hA', _, hc⟩ := own_cell h3 (clientsCells_at hr hh hu)
  rw [hA] at hA'; injection hA' with hA'; injection hA' with hA'
  rw [← hA'] at hc
  simpa using hc
end Go.Proofs.Ytniomgngiiiklaa
