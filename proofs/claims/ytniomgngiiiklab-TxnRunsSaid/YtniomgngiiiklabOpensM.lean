/- A world among the arguments, opened: rows and clients as plain data, with the cells in which they lie. -/
import Derived.Test.YtniomgngiiiklabOwnsM
import Derived.Test.YtniomgngiiiklabGroundM
import Derived.SizedLaws
namespace Go.Proofs.Ytniomgngiiiklab
open Go.RowKit Go.ChangeShapes Go.WideShapes Go.Deep
set_option maxRecDepth 100000

theorem cellsOf_write : Try.prog.cellsOf 76 = 2 := by kernel_rfl
theorem bytesOf_write : Try.prog.bytesOf 76 = 32 := by kernel_rfl
theorem cellsOf_client : Try.prog.cellsOf 58 = 5 := by kernel_rfl
theorem bytesOf_client : Try.prog.bytesOf 58 = 56 := by kernel_rfl
theorem bytesOf_row : Try.prog.bytesOf 26 = 80 := by kernel_rfl
theorem cellsOf_world : Try.prog.cellsOf 36 = 3 := by kernel_rfl
theorem one_writes : Try.prog.cellsOf 56 = 1 := by kernel_rfl
theorem one_rows : Try.prog.cellsOf 33 = 1 := by kernel_rfl
theorem one_clients : Try.prog.cellsOf 34 = 1 := by kernel_rfl
section
variable {H : Type} {enc : TypeId × Value → H} {w : World} {base : Nat} {spare : Nat → Bool} {held : Bool}

theorem open_write {fuel : Nat} {cs : List Value} {x : DataW H × List MemPlace} (h : DataW.trod enc Try.prog w base spare held fuel 76 cs = some x) :
    ∃ r : MWrite, cs = [.string r.key, .string r.value] ∧ r.key.size ≤ maxLen := by
  obtain ⟨xs, n, _, _, hlen, hxl, hf⟩ := DataW.trod_struct Try.underlying76 h
  rw [cellsOf_write] at hlen
  match cs, hlen with
  | [c0, c1], _ =>
    match xs, hxl with
    | [y0, y1], _ =>
      have h0 : DataW.trod enc Try.prog w base spare held n 9 [c0] = some y0 := by simpa [one_string] using hf 0 _ rfl
      have h1 : DataW.trod enc Try.prog w base spare held n 9 [c1] = some y1 := by simpa [one_string] using hf 1 _ rfl
      obtain ⟨a, e0, _, hk⟩ := DataW.trod_string Try.underlying9 h0
      obtain ⟨s, e1, _, _⟩ := DataW.trod_string Try.underlying9 h1
      simp at e0 e1
      exact ⟨⟨a, s⟩, by simp [e0, e1], hk⟩

theorem weights_all {P : Program} {e : TypeId} {d : DataW H} {k : Nat} : ∀ {l : List (DataW H)}, d ∈ l → k ∈ d.weights P e → k ∈ DataW.weightsAll P e l
  | x :: l, h, hk => by
    rw [DataW.weightsAll, List.mem_append]
    rcases List.mem_cons.1 h with rfl | h
    · exact .inl hk
    · exact .inr (weights_all h hk)
theorem open_writes {fuel : Nat} {cs : List Value} {x : DataW H × List MemPlace} (h : DataW.trod enc Try.prog w base spare held fuel 56 cs = some x)
    (hw : ∀ k ∈ x.1.weights Try.prog 56, k ≤ reachBytes) (hsp : ∀ b, spare b = true) :
    ∃ A n c rs, cs = [.slice A n c] ∧ WritesOk w w.heap.size A n c rs := by
  rcases open_slice Try.underlying56 h with ⟨hcs, _⟩ | ⟨a, len, cap, m, n, D, Pl, hcs, hb, hl, hm, hmm, hx, hi⟩
  · exact ⟨none, 0, 0, [], hcs, ⟨⟨rfl, fun k r hr => by simp at hr⟩, Nat.le_refl _, by omega, fun _ => rfl, fun x hx => by cases hx⟩⟩
  · rw [hsp, if_pos rfl] at hmm
    subst hmm
    have hsz : m * 32 ≤ 140737488351232 := by
      have := hw (m * 32) (by
        rw [hx]
        simp only [DataW.weights, Try.underlying56, bytesOf_write, List.length_map, List.length_range]
        rw [show len + (m - len) = m from by omega]
        exact List.mem_cons_self)
      exact this
    obtain ⟨rs, hrl, hrs⟩ := slice_elems (α := MWrite) (size := 2) (P := fun r cs => cs = [.string r.key, .string r.value] ∧ r.key.size ≤ maxLen) (a := a) (m := m) (fun i him => by
      obtain ⟨cs', hc, ht⟩ := hi i him
      rw [cellsOf_write] at hc
      obtain ⟨r, rfl, hk⟩ := open_write ht
      exact ⟨r, _, hc, rfl, hk⟩) (by omega) ⟨zeroWrite⟩ len hl
    refine ⟨some a, len, m, rs, hcs, ⟨⟨hrl, fun k r hr => ?_⟩, hl, by omega, fun e => (by cases e), fun y hy => ?_⟩⟩
    · obtain ⟨b, off, cs', e, hlt, ⟨rfl, _⟩, _, hc⟩ := hrs k r hr
      exact ⟨b, off, by rw [e], hlt, hc 0 _ rfl, hc 1 _ rfl⟩
    · obtain ⟨k, hk, rfl⟩ := List.mem_iff_getElem.1 hy
      obtain ⟨_, _, _, _, _, ⟨_, h2⟩, _⟩ := hrs k _ (List.getElem?_eq_getElem hk)
      exact h2

theorem open_client {fuel : Nat} {cs : List Value} {x : DataW H × List MemPlace} (h : DataW.trod enc Try.prog w base spare held fuel 58 cs = some x)
    (hw : ∀ k ∈ x.1.weights Try.prog 58, k ≤ reachBytes) (hsp : ∀ b, spare b = true) :
    ∃ r A n c, cs = clientCells r A n c ∧ ClientOk w w.heap.size r A n c := by
  obtain ⟨xs, n, _, hx, hlen, hxl, hf⟩ := DataW.trod_struct Try.underlying58 h
  rw [cellsOf_client] at hlen
  match cs, hlen with
  | [c0, c1, c2, c3, c4], _ =>
    match xs, hxl with
    | [y0, y1, y2, y3, y4], _ =>
      have h0 : DataW.trod enc Try.prog w base spare held n 3 [c0] = some y0 := by simpa [one_int] using hf 0 _ rfl
      have h1 : DataW.trod enc Try.prog w base spare held n 3 [c1] = some y1 := by simpa [one_int] using hf 1 _ rfl
      have h2 : DataW.trod enc Try.prog w base spare held n 3 [c2] = some y2 := by simpa [one_int] using hf 2 _ rfl
      have h3 : DataW.trod enc Try.prog w base spare held n 56 [c3] = some y3 := by simpa [one_int, one_writes] using hf 3 _ rfl
      have h4 : DataW.trod enc Try.prog w base spare held n 3 [c4] = some y4 := by simpa [one_int, one_writes] using hf 4 _ rfl
      obtain ⟨a0, e0, _, _⟩ := DataW.trod_int Try.underlying3 h0
      obtain ⟨a1, e1, _, _⟩ := DataW.trod_int Try.underlying3 h1
      obtain ⟨a2, e2, _, _⟩ := DataW.trod_int Try.underlying3 h2
      obtain ⟨a4, e4, _, _⟩ := DataW.trod_int Try.underlying3 h4
      obtain ⟨A, m, c, rs, e3, hrs⟩ := open_writes h3 (fun k hk => hw k (by
        rw [hx]
        simp only [DataW.weights, Try.underlying58, List.map_cons, List.map_nil, DataW.weightsEach, List.mem_append]
        exact .inr (.inr (.inr (.inl hk))))) hsp
      simp at e0 e1 e2 e3 e4
      exact ⟨⟨a0, a1, a2, rs, a4⟩, A, m, c, by simp [clientCells, e0, e1, e2, e3, e4], ⟨hrs⟩⟩

theorem open_rows {fuel : Nat} {cs : List Value} {x : DataW H × List MemPlace} (h : DataW.trod enc Try.prog w base spare held fuel 33 cs = some x)
    (hw : ∀ k ∈ x.1.weights Try.prog 33, k ≤ reachBytes) (hsp : ∀ b, spare b = true) :
    ∃ A n c rs, cs = [.slice A n c] ∧ RowsOk w w.heap.size A n c rs := by
  rcases open_slice Try.underlying33 h with ⟨hcs, _⟩ | ⟨a, len, cap, m, n, D, Pl, hcs, hb, hl, hm, hmm, hx, hi⟩
  · exact ⟨none, 0, 0, [], hcs, ⟨rfl, fun k r hr => by simp at hr, Nat.le_refl _, by omega, fun _ => rfl⟩⟩
  · rw [hsp, if_pos rfl] at hmm
    subst hmm
    have hsz : m * 80 ≤ 140737488351232 := by
      have := hw (m * 80) (by
        rw [hx]
        simp only [DataW.weights, Try.underlying33, bytesOf_row, List.length_map, List.length_range]
        rw [show len + (m - len) = m from by omega]
        exact List.mem_cons_self)
      exact this
    have hel : ∀ i, i < m → ∀ k ∈ (D i).weights Try.prog 26, k ≤ reachBytes := fun i hi k hk => hw k (by
      rw [hx]
      simp only [DataW.weights, Try.underlying33]
      refine List.mem_cons_of_mem _ (List.mem_append.2 ?_)
      by_cases hil : i < len
      · exact .inl (weights_all (List.mem_map.2 ⟨i, List.mem_range.2 hil, rfl⟩) hk)
      · exact .inr (weights_all (List.mem_map.2 ⟨i - len, List.mem_range.2 (by omega), by rw [show len + (i - len) = i by omega]⟩) hk))
    obtain ⟨rs, hrl, hrs⟩ := slice_elems (α := MRow) (size := 5) (P := fun r cs => ∃ A n c, cs = rowCells r A n c ∧ RowOk w w.heap.size r A n c) (a := a) (m := m) (fun i him => by
      obtain ⟨cs', hc, ht⟩ := hi i him
      rw [cellsOf_row] at hc
      obtain ⟨r, A, n, c, rfl, hk⟩ := open_row ht (hel i him) hsp
      exact ⟨r, _, hc, A, n, c, rfl, hk⟩) (by omega) ⟨emptyRow ⟨#[]⟩⟩ len hl
    refine ⟨some a, len, m, rs, hcs, ⟨hrl, fun k r hr => ?_, hl, by omega, fun e => by cases e⟩⟩
    obtain ⟨b, off, cs', e, hlt, ⟨A, n, c, rfl, hok⟩, _, hc⟩ := hrs k r hr
    exact ⟨b, off, A, n, c, by rw [e], hlt, hc, hok⟩

theorem open_clients {fuel : Nat} {cs : List Value} {x : DataW H × List MemPlace} (h : DataW.trod enc Try.prog w base spare held fuel 34 cs = some x)
    (hw : ∀ k ∈ x.1.weights Try.prog 34, k ≤ reachBytes) (hsp : ∀ b, spare b = true) :
    ∃ A n c rs, cs = [.slice A n c] ∧ ClientsOk w w.heap.size A n c rs := by
  rcases open_slice Try.underlying34 h with ⟨hcs, _⟩ | ⟨a, len, cap, m, n, D, Pl, hcs, hb, hl, hm, hmm, hx, hi⟩
  · exact ⟨none, 0, 0, [], hcs, ⟨rfl, fun k r hr => by simp at hr, Nat.le_refl _, by omega, fun _ => rfl⟩⟩
  · rw [hsp, if_pos rfl] at hmm
    subst hmm
    have hsz : m * 56 ≤ 140737488351232 := by
      have := hw (m * 56) (by
        rw [hx]
        simp only [DataW.weights, Try.underlying34, bytesOf_client, List.length_map, List.length_range]
        rw [show len + (m - len) = m from by omega]
        exact List.mem_cons_self)
      exact this
    have hel : ∀ i, i < m → ∀ k ∈ (D i).weights Try.prog 58, k ≤ reachBytes := fun i hi k hk => hw k (by
      rw [hx]
      simp only [DataW.weights, Try.underlying34]
      refine List.mem_cons_of_mem _ (List.mem_append.2 ?_)
      by_cases hil : i < len
      · exact .inl (weights_all (List.mem_map.2 ⟨i, List.mem_range.2 hil, rfl⟩) hk)
      · exact .inr (weights_all (List.mem_map.2 ⟨i - len, List.mem_range.2 (by omega), by rw [show len + (i - len) = i by omega]⟩) hk))
    obtain ⟨rs, hrl, hrs⟩ := slice_elems (α := MClient) (size := 5) (P := fun r cs => ∃ A n c, cs = clientCells r A n c ∧ ClientOk w w.heap.size r A n c) (a := a) (m := m) (fun i him => by
      obtain ⟨cs', hc, ht⟩ := hi i him
      rw [cellsOf_client] at hc
      obtain ⟨r, A, n, c, rfl, hk⟩ := open_client ht (hel i him) hsp
      exact ⟨r, _, hc, A, n, c, rfl, hk⟩) (by omega) ⟨zeroClient⟩ len hl
    refine ⟨some a, len, m, rs, hcs, ⟨hrl, fun k r hr => ?_, hl, by omega, fun e => by cases e⟩⟩
    obtain ⟨b, off, cs', e, hlt, ⟨A, n, c, rfl, hok⟩, _, hc⟩ := hrs k r hr
    exact ⟨b, off, A, n, c, by rw [e], hlt, hc, hok⟩

/-- A world's three cells. -/
theorem open_world {fuel : Nat} {cs : List Value} {x : DataW H × List MemPlace} (h : DataW.trod enc Try.prog w base spare held fuel 36 cs = some x)
    (hw : ∀ k ∈ x.1.weights Try.prog 36, k ≤ reachBytes) (hsp : ∀ b, spare b = true) :
    ∃ (m : MWorld) (A A' : Option Addr) (n c n' c' : Nat), cs = [.slice A n c, .int .i64 m.clock, .slice A' n' c'] ∧ RowsOk w w.heap.size A n c m.rows ∧ ClientsOk w w.heap.size A' n' c' m.clients := by
  obtain ⟨xs, n, _, hx, hlen, hxl, hf⟩ := DataW.trod_struct Try.underlying36 h
  rw [cellsOf_world] at hlen
  match cs, hlen with
  | [c0, c1, c2], _ =>
    match xs, hxl with
    | [y0, y1, y2], _ =>
      have h0 : DataW.trod enc Try.prog w base spare held n 33 [c0] = some y0 := by simpa [one_rows] using hf 0 _ rfl
      have h1 : DataW.trod enc Try.prog w base spare held n 3 [c1] = some y1 := by simpa [one_rows, one_int] using hf 1 _ rfl
      have h2 : DataW.trod enc Try.prog w base spare held n 34 [c2] = some y2 := by simpa [one_rows, one_int, one_clients] using hf 2 _ rfl
      obtain ⟨cl, e1, _, _⟩ := DataW.trod_int Try.underlying3 h1
      obtain ⟨A, m, c, rs, e0, hrs⟩ := open_rows h0 (fun k hk => hw k (by
        rw [hx]
        simp only [DataW.weights, Try.underlying36, List.map_cons, List.map_nil, DataW.weightsEach, List.mem_append]
        exact .inl hk)) hsp
      obtain ⟨A', m', c', rs', e2, hrs'⟩ := open_clients h2 (fun k hk => hw k (by
        rw [hx]
        simp only [DataW.weights, Try.underlying36, List.map_cons, List.map_nil, DataW.weightsEach, List.mem_append]
        exact .inr (.inr (.inl hk)))) hsp
      simp at e0 e1 e2
      exact ⟨⟨rs, cl, rs'⟩, A, A', m, c, m', c', by simp [e0, e1, e2], hrs, hrs'⟩
end

/-- A world among a law's parameters. -/
theorem open_world_arg {H : Type} {enc : TypeId × Value → H} {w : World} {r0 : Reach} {b0 : Nat} {v : Value} {d : DataW H} {p : List MemPlace}
    (hv : Value.okWide Try.prog w r0 b0 36 v) (h : DataW.Trod enc Try.prog w 0 (fun _ => true) true 36 v d p) (hw : ∀ k ∈ d.weights Try.prog 36, k ≤ reachBytes) :
    ∃ (m : MWorld) (A A' : Option Addr) (n c n' c' : Nat), v = .agg #[.slice A n c, .int .i64 m.clock, .slice A' n' c'] ∧ RowsOk w w.heap.size A n c m.rows ∧ ClientsOk w w.heap.size A' n' c' m.clients := by
  obtain ⟨cs, rfl, hsz⟩ := okWide_struct Try.underlying36 hv
  obtain ⟨fuel, hf⟩ := h
  obtain ⟨m, A, A', n, c, n', c', hcs, hok⟩ := open_world hf hw (fun _ => rfl)
  refine ⟨m, A, A', n, c, n', c', ?_, hok⟩
  obtain ⟨l⟩ := cs
  have : l = [.slice A n c, .int .i64 m.clock, .slice A' n' c'] := hcs
  subst this
  rfl
end Go.Proofs.Ytniomgngiiiklab

/- Acts among the arguments, opened: an act, a script. -/
namespace Go.Proofs.Ytniomgngiiiklab
open Go.RowKit Go.ChangeShapes Go.WideShapes Go.Deep
set_option maxRecDepth 100000

theorem cellsOf_act : Try.prog.cellsOf 38 = 4 := by kernel_rfl
theorem bytesOf_act : Try.prog.bytesOf 38 = 48 := by kernel_rfl
section
variable {H : Type} {enc : TypeId × Value → H} {w : World} {base : Nat} {spare : Nat → Bool} {held : Bool}
theorem open_act {fuel : Nat} {cs : List Value} {x : DataW H × List MemPlace} (h : DataW.trod enc Try.prog w base spare held fuel 38 cs = some x) :
    ∃ r : MAct, cs = r.cells ∧ r.key.size ≤ maxLen := by
  obtain ⟨xs, n, _, _, hlen, hxl, hf⟩ := DataW.trod_struct Try.underlying38 h
  rw [cellsOf_act] at hlen
  match cs, hlen with
  | [c0, c1, c2, c3], _ =>
    match xs, hxl with
    | [y0, y1, y2, y3], _ =>
      have h0 : DataW.trod enc Try.prog w base spare held n 3 [c0] = some y0 := by simpa [one_int, one_string] using hf 0 _ rfl
      have h1 : DataW.trod enc Try.prog w base spare held n 3 [c1] = some y1 := by simpa [one_int, one_string] using hf 1 _ rfl
      have h2 : DataW.trod enc Try.prog w base spare held n 9 [c2] = some y2 := by simpa [one_int, one_string] using hf 2 _ rfl
      have h3 : DataW.trod enc Try.prog w base spare held n 9 [c3] = some y3 := by simpa [one_int, one_string] using hf 3 _ rfl
      obtain ⟨a0, e0, _, _⟩ := DataW.trod_int Try.underlying3 h0
      obtain ⟨a1, e1, _, _⟩ := DataW.trod_int Try.underlying3 h1
      obtain ⟨a2, e2, _, hk⟩ := DataW.trod_string Try.underlying9 h2
      obtain ⟨a3, e3, _, _⟩ := DataW.trod_string Try.underlying9 h3
      simp at e0 e1 e2 e3
      exact ⟨⟨a0, a1, a2, a3⟩, by simp [MAct.cells, e0, e1, e2, e3], hk⟩
/-- The slice (A, n) reads as acts, with keys of a size that there is. -/
structure ScriptOk (w : World) (B : Nat) (A : Option Addr) (n : Nat) (l : List MAct) : Prop where
  acts : ActsOk w B A n l
  small : n * 48 ≤ 140737488351232
  keys : ∀ a ∈ l, a.key.size ≤ maxLen
  none_ : A = none → n = 0
theorem acts_length {B n : Nat} {A : Option Addr} {l : List MAct} (h : ActsOk w B A n l) : (actCells l).length = n * 4 := by
  rw [← h.len]; exact flat_length (f := MAct.cells) (s := 4) (fun _ => rfl) l
theorem acts_cells {B n : Nat} {A : Option Addr} {l : List MAct} (h : ActsOk w B A n l) : ∀ ad, A = some ad → ∀ j u, (actCells l)[j]? = some u → w.cell? (ad.add j) = some u := by
  intro ad e j u hu
  have hj := (List.getElem?_eq_some_iff.1 hu).1
  rw [acts_length h, ← h.len] at hj
  have hk : j / 4 < l.length := by omega
  obtain ⟨b, off, ea, hb, h0, h1, h2, h3⟩ := h.at_ (j / 4) l[j / 4] (List.getElem?_eq_getElem hk)
  rw [e] at ea
  injection ea with ea
  subst ea
  have hi : j % 4 < 4 := Nat.mod_lt _ (by decide)
  obtain ⟨u', hu'⟩ : ∃ u', (MAct.cells l[j / 4])[j % 4]? = some u' := ⟨_, List.getElem?_eq_getElem (show j % 4 < (MAct.cells l[j / 4]).length from hi)⟩
  have hf := flat_at (f := MAct.cells) (s := 4) (fun _ => rfl) (List.getElem?_eq_getElem hk) hu'
  rw [show j / 4 * 4 + j % 4 = j by omega] at hf
  have huu : some u' = some u := hf.symm.trans hu
  injection huu with huu
  subst huu
  have hm : ∀ i, i < 4 → ∀ v, (MAct.cells l[j / 4])[i]? = some v → w.cell? ⟨b, off + j / 4 * 4 + i, none⟩ = some v := by
    intro i hi4 v hv
    match i, hi4, hv with
    | 0, _, hv => simp [MAct.cells] at hv; subst hv; exact h0
    | 1, _, hv => simp [MAct.cells] at hv; subst hv; exact h1
    | 2, _, hv => simp [MAct.cells] at hv; subst hv; exact h2
    | 3, _, hv => simp [MAct.cells] at hv; subst hv; exact h3
  have hc := hm _ hi _ hu'
  rw [show off + j / 4 * 4 + j % 4 = off + j by omega] at hc
  rw [addr_add]
  exact hc
theorem open_acts {fuel : Nat} {cs : List Value} {x : DataW H × List MemPlace} (h : DataW.trod enc Try.prog w base spare held fuel 46 cs = some x)
    (hw : ∀ k ∈ x.1.weights Try.prog 46, k ≤ reachBytes) (hsp : ∀ b, spare b = true) :
    ∃ A n c rs, cs = [.slice A n c] ∧ ScriptOk w w.heap.size A n rs := by
  rcases open_slice Try.underlying46 h with ⟨hcs, _⟩ | ⟨a, len, cap, m, n, D, Pl, hcs, hb, hl, hm, hmm, hx, hi⟩
  · exact ⟨none, 0, 0, [], hcs, ⟨⟨rfl, fun k r hr => by simp at hr⟩, by omega, fun a ha => by (cases ha), fun _ => rfl⟩⟩
  · rw [hsp, if_pos rfl] at hmm
    subst hmm
    have hsz : m * 48 ≤ 140737488351232 := by
      have := hw (m * 48) (by
        rw [hx]
        simp only [DataW.weights, Try.underlying46, bytesOf_act, List.length_map, List.length_range]
        rw [show len + (m - len) = m from by omega]
        exact List.mem_cons_self)
      exact this
    obtain ⟨rs, hrl, hrs⟩ := slice_elems (α := MAct) (size := 4) (P := fun r cs => cs = r.cells ∧ r.key.size ≤ maxLen) (a := a) (m := m) (fun i him => by
      obtain ⟨cs', hc, ht⟩ := hi i him
      rw [cellsOf_act] at hc
      obtain ⟨r, rfl, hk⟩ := open_act ht
      exact ⟨r, _, hc, rfl, hk⟩) (by omega) ⟨⟨0, 0, ⟨#[]⟩, ⟨#[]⟩⟩⟩ len hl
    refine ⟨some a, len, m, rs, hcs, ⟨⟨hrl, fun k r hr => ?_⟩, by omega, fun y hy => ?_, fun e => by cases e⟩⟩
    · obtain ⟨b, off, cs', e, hlt, ⟨rfl, _⟩, _, hc⟩ := hrs k r hr
      exact ⟨b, off, by rw [e], hlt, hc 0 _ rfl, hc 1 _ rfl, hc 2 _ rfl, hc 3 _ rfl⟩
    · obtain ⟨k, hk, rfl⟩ := List.mem_iff_getElem.1 hy
      obtain ⟨_, _, _, _, _, ⟨_, h2⟩, _⟩ := hrs k _ (List.getElem?_eq_getElem hk)
      exact h2
end
/-- An act among a law's parameters. -/
theorem open_act_arg {H : Type} {enc : TypeId × Value → H} {w : World} {r0 : Reach} {b0 : Nat} {v : Value} {d : DataW H} {p : List MemPlace}
    (hv : Value.okWide Try.prog w r0 b0 38 v) (h : DataW.Trod enc Try.prog w 0 (fun _ => true) true 38 v d p) :
    ∃ m : MAct, v = .agg #[.int .i64 m.kind, .int .i64 m.c, .string m.key, .string m.value] ∧ m.key.size ≤ maxLen := by
  obtain ⟨cs, rfl, hsz⟩ := okWide_struct Try.underlying38 hv
  obtain ⟨fuel, hf⟩ := h
  obtain ⟨m, hcs, hk⟩ := open_act hf
  refine ⟨m, ?_, hk⟩
  obtain ⟨l⟩ := cs
  have : l = m.cells := hcs
  subst this
  rfl
/-- A script among a law's parameters. -/
theorem open_acts_arg {H : Type} {enc : TypeId × Value → H} {w : World} {r0 : Reach} {b0 : Nat} {v : Value} {d : DataW H} {p : List MemPlace}
    (hv : Value.okWide Try.prog w r0 b0 46 v) (h : DataW.Trod enc Try.prog w 0 (fun _ => true) true 46 v d p) (hw : ∀ k ∈ d.weights Try.prog 46, k ≤ reachBytes) :
    ∃ A n c rs, v = .slice A n c ∧ ScriptOk w w.heap.size A n rs := by
  obtain ⟨fuel, hf⟩ := h
  obtain ⟨A, n, c, rs, hcs, hok⟩ := open_acts hf hw (fun _ => rfl)
  obtain ⟨a', l', c', rfl⟩ := okWide_slice Try.underlying46 hv
  have e : [Value.slice a' l' c'] = [Value.slice A n c] := hcs
  exact ⟨A, n, c, rs, by simpa using e, hok⟩
end Go.Proofs.Ytniomgngiiiklab
