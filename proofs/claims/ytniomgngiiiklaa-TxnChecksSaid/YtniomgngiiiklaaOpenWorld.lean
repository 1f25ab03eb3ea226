/- A world among the arguments, opened: rows and clients as plain data, with the cells in which they lie. -/
import Derived.Test.YtniomgngiiiklaaOwn
import Derived.Test.YtniomgngiiiklaaOpen
import Derived.SizedLaws
namespace Go.Proofs.Ytniomgngiiiklaa
open Go.RowKit Go.ChangeShapes Go.WideShapes Go.Deep
set_option maxRecDepth 100000

theorem cellsOf_write : Try.prog.cellsOf 66 = 2 := by kernel_rfl
theorem bytesOf_write : Try.prog.bytesOf 66 = 32 := by kernel_rfl
theorem cellsOf_client : Try.prog.cellsOf 63 = 5 := by kernel_rfl
theorem bytesOf_client : Try.prog.bytesOf 63 = 56 := by kernel_rfl
theorem bytesOf_row : Try.prog.bytesOf 30 = 80 := by kernel_rfl
theorem cellsOf_world : Try.prog.cellsOf 38 = 3 := by kernel_rfl
theorem one_writes : Try.prog.cellsOf 61 = 1 := by kernel_rfl
theorem one_rows : Try.prog.cellsOf 35 = 1 := by kernel_rfl
theorem one_clients : Try.prog.cellsOf 36 = 1 := by kernel_rfl
section
variable {H : Type} {enc : TypeId × Value → H} {w : World} {base : Nat} {spare : Nat → Bool} {held : Bool}

theorem open_write {fuel : Nat} {cs : List Value} {x : DataW H × List MemPlace} (h : DataW.trod enc Try.prog w base spare held fuel 66 cs = some x) :
    ∃ r : MWrite, cs = [.string r.key, .string r.value] ∧ r.key.size ≤ maxLen := by
  obtain ⟨xs, n, _, _, hlen, hxl, hf⟩ := DataW.trod_struct Try.underlying66 h
  rw [cellsOf_write] at hlen
  match cs, hlen with
  | [c0, c1], _ =>
    match xs, hxl with
    | [y0, y1], _ =>
      have h0 : DataW.trod enc Try.prog w base spare held n 9 [c0] = some y0 := by simpa [one_string] using hf 0 _ rfl
      have h1 : DataW.trod enc Try.prog w base spare held n 9 [c1] = some y1 := by simpa [one_string] using hf 1 _ rfl
      obtain ⟨a, e0, _, hk⟩ := DataW.trod_string Try.underlying9 h0
      obtain ⟨s, e1, _, _⟩ := DataW.trod_string Try.underlying9 h1
      simp at e0 e1
      exact ⟨⟨a, s⟩, by simp [e0, e1], hk⟩

theorem weights_all {P : Program} {e : TypeId} {d : DataW H} {k : Nat} : ∀ {l : List (DataW H)}, d ∈ l → k ∈ d.weights P e → k ∈ DataW.weightsAll P e l
  | x :: l, h, hk => by
    rw [DataW.weightsAll, List.mem_append]
    rcases List.mem_cons.1 h with rfl | h
    · exact .inl hk
    · exact .inr (weights_all h hk)
theorem open_writes {fuel : Nat} {cs : List Value} {x : DataW H × List MemPlace} (h : DataW.trod enc Try.prog w base spare held fuel 61 cs = some x)
    (hw : ∀ k ∈ x.1.weights Try.prog 61, k ≤ reachBytes) (hsp : ∀ b, spare b = true) :
    ∃ A n c rs, cs = [.slice A n c] ∧ WritesOk w w.heap.size A n c rs := by
  rcases open_slice Try.underlying61 h with ⟨hcs, _⟩ | ⟨a, len, cap, m, n, D, Pl, hcs, hb, hl, hm, hmm, hx, hi⟩
  · exact ⟨none, 0, 0, [], hcs, ⟨⟨rfl, fun k r hr => by simp at hr⟩, Nat.le_refl _, by omega, fun _ => rfl, fun x hx => by cases hx⟩⟩
  · rw [hsp, if_pos rfl] at hmm
    subst hmm
    have hsz : m * 32 ≤ 140737488351232 := by
      have := hw (m * 32) (by
        rw [hx]
        simp only [DataW.weights, Try.underlying61, bytesOf_write, List.length_map, List.length_range]
        rw [show len + (m - len) = m from by omega]
        exact List.mem_cons_self)
      exact this
    obtain ⟨rs, hrl, hrs⟩ := slice_elems (α := MWrite) (size := 2) (P := fun r cs => cs = [.string r.key, .string r.value] ∧ r.key.size ≤ maxLen) (a := a) (m := m) (fun i him => by
      obtain ⟨cs', hc, ht⟩ := hi i him
      rw [cellsOf_write] at hc
      obtain ⟨r, rfl, hk⟩ := open_write ht
      exact ⟨r, _, hc, rfl, hk⟩) (by omega) ⟨zeroWrite⟩ len hl
    refine ⟨some a, len, m, rs, hcs, ⟨⟨hrl, fun k r hr => ?_⟩, hl, by omega, fun e => (by cases e), fun y hy => ?_⟩⟩
    · obtain ⟨b, off, cs', e, hlt, ⟨rfl, _⟩, _, hc⟩ := hrs k r hr
      exact ⟨b, off, by rw [e], hlt, hc 0 _ rfl, hc 1 _ rfl⟩
    · obtain ⟨k, hk, rfl⟩ := List.mem_iff_getElem.1 hy
      obtain ⟨_, _, _, _, _, ⟨_, h2⟩, _⟩ := hrs k _ (List.getElem?_eq_getElem hk)
      exact h2

theorem open_client {fuel : Nat} {cs : List Value} {x : DataW H × List MemPlace} (h : DataW.trod enc Try.prog w base spare held fuel 63 cs = some x)
    (hw : ∀ k ∈ x.1.weights Try.prog 63, k ≤ reachBytes) (hsp : ∀ b, spare b = true) :
    ∃ r A n c, cs = clientCells r A n c ∧ ClientOk w w.heap.size r A n c := by
  obtain ⟨xs, n, _, hx, hlen, hxl, hf⟩ := DataW.trod_struct Try.underlying63 h
  rw [cellsOf_client] at hlen
  match cs, hlen with
  | [c0, c1, c2, c3, c4], _ =>
    match xs, hxl with
    | [y0, y1, y2, y3, y4], _ =>
      have h0 : DataW.trod enc Try.prog w base spare held n 3 [c0] = some y0 := by simpa [one_int] using hf 0 _ rfl
      have h1 : DataW.trod enc Try.prog w base spare held n 3 [c1] = some y1 := by simpa [one_int] using hf 1 _ rfl
      have h2 : DataW.trod enc Try.prog w base spare held n 3 [c2] = some y2 := by simpa [one_int] using hf 2 _ rfl
      have h3 : DataW.trod enc Try.prog w base spare held n 61 [c3] = some y3 := by simpa [one_int, one_writes] using hf 3 _ rfl
      have h4 : DataW.trod enc Try.prog w base spare held n 3 [c4] = some y4 := by simpa [one_int, one_writes] using hf 4 _ rfl
      obtain ⟨a0, e0, _, _⟩ := DataW.trod_int Try.underlying3 h0
      obtain ⟨a1, e1, _, _⟩ := DataW.trod_int Try.underlying3 h1
      obtain ⟨a2, e2, _, _⟩ := DataW.trod_int Try.underlying3 h2
      obtain ⟨a4, e4, _, _⟩ := DataW.trod_int Try.underlying3 h4
      obtain ⟨A, m, c, rs, e3, hrs⟩ := open_writes h3 (fun k hk => hw k (by
        rw [hx]
        simp only [DataW.weights, Try.underlying63, List.map_cons, List.map_nil, DataW.weightsEach, List.mem_append]
        exact .inr (.inr (.inr (.inl hk))))) hsp
      simp at e0 e1 e2 e3 e4
      exact ⟨⟨a0, a1, a2, rs, a4⟩, A, m, c, by simp [clientCells, e0, e1, e2, e3, e4], ⟨hrs⟩⟩

theorem open_rows {fuel : Nat} {cs : List Value} {x : DataW H × List MemPlace} (h : DataW.trod enc Try.prog w base spare held fuel 35 cs = some x)
    (hw : ∀ k ∈ x.1.weights Try.prog 35, k ≤ reachBytes) (hsp : ∀ b, spare b = true) :
    ∃ A n c rs, cs = [.slice A n c] ∧ RowsOk w w.heap.size A n c rs := by
  rcases open_slice Try.underlying35 h with ⟨hcs, _⟩ | ⟨a, len, cap, m, n, D, Pl, hcs, hb, hl, hm, hmm, hx, hi⟩
  · exact ⟨none, 0, 0, [], hcs, ⟨rfl, fun k r hr => by simp at hr, Nat.le_refl _, by omega, fun _ => rfl⟩⟩
  · rw [hsp, if_pos rfl] at hmm
    subst hmm
    have hsz : m * 80 ≤ 140737488351232 := by
      have := hw (m * 80) (by
        rw [hx]
        simp only [DataW.weights, Try.underlying35, bytesOf_row, List.length_map, List.length_range]
        rw [show len + (m - len) = m from by omega]
        exact List.mem_cons_self)
      exact this
    have hel : ∀ i, i < m → ∀ k ∈ (D i).weights Try.prog 30, k ≤ reachBytes := fun i hi k hk => hw k (by
      rw [hx]
      simp only [DataW.weights, Try.underlying35]
      refine List.mem_cons_of_mem _ (List.mem_append.2 ?_)
      by_cases hil : i < len
      · exact .inl (weights_all (List.mem_map.2 ⟨i, List.mem_range.2 hil, rfl⟩) hk)
      · exact .inr (weights_all (List.mem_map.2 ⟨i - len, List.mem_range.2 (by omega), by rw [show len + (i - len) = i by omega]⟩) hk))
    obtain ⟨rs, hrl, hrs⟩ := slice_elems (α := MRow) (size := 5) (P := fun r cs => ∃ A n c, cs = rowCells r A n c ∧ RowOk w w.heap.size r A n c) (a := a) (m := m) (fun i him => by
      obtain ⟨cs', hc, ht⟩ := hi i him
      rw [cellsOf_row] at hc
      obtain ⟨r, A, n, c, rfl, hk⟩ := open_row ht (hel i him) hsp
      exact ⟨r, _, hc, A, n, c, rfl, hk⟩) (by omega) ⟨emptyRow ⟨#[]⟩⟩ len hl
    refine ⟨some a, len, m, rs, hcs, ⟨hrl, fun k r hr => ?_, hl, by omega, fun e => by cases e⟩⟩
    obtain ⟨b, off, cs', e, hlt, ⟨A, n, c, rfl, hok⟩, _, hc⟩ := hrs k r hr
    exact ⟨b, off, A, n, c, by rw [e], hlt, hc, hok⟩

theorem open_clients {fuel : Nat} {cs : List Value} {x : DataW H × List MemPlace} (h : DataW.trod enc Try.prog w base spare held fuel 36 cs = some x)
    (hw : ∀ k ∈ x.1.weights Try.prog 36, k ≤ reachBytes) (hsp : ∀ b, spare b = true) :
    ∃ A n c rs, cs = [.slice A n c] ∧ ClientsOk w w.heap.size A n c rs := by
  rcases open_slice Try.underlying36 h with ⟨hcs, _⟩ | ⟨a, len, cap, m, n, D, Pl, hcs, hb, hl, hm, hmm, hx, hi⟩
  · exact ⟨none, 0, 0, [], hcs, ⟨rfl, fun k r hr => by simp at hr, Nat.le_refl _, by omega, fun _ => rfl⟩⟩
  · rw [hsp, if_pos rfl] at hmm
    subst hmm
    have hsz : m * 56 ≤ 140737488351232 := by
      have := hw (m * 56) (by
        rw [hx]
        simp only [DataW.weights, Try.underlying36, bytesOf_client, List.length_map, List.length_range]
        rw [show len + (m - len) = m from by omega]
        exact List.mem_cons_self)
      exact this
    have hel : ∀ i, i < m → ∀ k ∈ (D i).weights Try.prog 63, k ≤ reachBytes := fun i hi k hk => hw k (by
      rw [hx]
      simp only [DataW.weights, Try.underlying36]
      refine List.mem_cons_of_mem _ (List.mem_append.2 ?_)
      by_cases hil : i < len
      · exact .inl (weights_all (List.mem_map.2 ⟨i, List.mem_range.2 hil, rfl⟩) hk)
      · exact .inr (weights_all (List.mem_map.2 ⟨i - len, List.mem_range.2 (by omega), by rw [show len + (i - len) = i by omega]⟩) hk))
    obtain ⟨rs, hrl, hrs⟩ := slice_elems (α := MClient) (size := 5) (P := fun r cs => ∃ A n c, cs = clientCells r A n c ∧ ClientOk w w.heap.size r A n c) (a := a) (m := m) (fun i him => by
      obtain ⟨cs', hc, ht⟩ := hi i him
      rw [cellsOf_client] at hc
      obtain ⟨r, A, n, c, rfl, hk⟩ := open_client ht (hel i him) hsp
      exact ⟨r, _, hc, A, n, c, rfl, hk⟩) (by omega) ⟨zeroClient⟩ len hl
    refine ⟨some a, len, m, rs, hcs, ⟨hrl, fun k r hr => ?_, hl, by omega, fun e => by cases e⟩⟩
    obtain ⟨b, off, cs', e, hlt, ⟨A, n, c, rfl, hok⟩, _, hc⟩ := hrs k r hr
    exact ⟨b, off, A, n, c, by rw [e], hlt, hc, hok⟩

/-- A world's three cells. -/
theorem open_world {fuel : Nat} {cs : List Value} {x : DataW H × List MemPlace} (h : DataW.trod enc Try.prog w base spare held fuel 38 cs = some x)
    (hw : ∀ k ∈ x.1.weights Try.prog 38, k ≤ reachBytes) (hsp : ∀ b, spare b = true) :
    ∃ (m : MWorld) (A A' : Option Addr) (n c n' c' : Nat), cs = [.slice A n c, .int .i64 m.clock, .slice A' n' c'] ∧ RowsOk w w.heap.size A n c m.rows ∧ ClientsOk w w.heap.size A' n' c' m.clients := by
  obtain ⟨xs, n, _, hx, hlen, hxl, hf⟩ := DataW.trod_struct Try.underlying38 h
  rw [cellsOf_world] at hlen
  match cs, hlen with
  | [c0, c1, c2], _ =>
    match xs, hxl with
    | [y0, y1, y2], _ =>
      have h0 : DataW.trod enc Try.prog w base spare held n 35 [c0] = some y0 := by simpa [one_rows] using hf 0 _ rfl
      have h1 : DataW.trod enc Try.prog w base spare held n 3 [c1] = some y1 := by simpa [one_rows, one_int] using hf 1 _ rfl
      have h2 : DataW.trod enc Try.prog w base spare held n 36 [c2] = some y2 := by simpa [one_rows, one_int, one_clients] using hf 2 _ rfl
      obtain ⟨cl, e1, _, _⟩ := DataW.trod_int Try.underlying3 h1
      obtain ⟨A, m, c, rs, e0, hrs⟩ := open_rows h0 (fun k hk => hw k (by
        rw [hx]
        simp only [DataW.weights, Try.underlying38, List.map_cons, List.map_nil, DataW.weightsEach, List.mem_append]
        exact .inl hk)) hsp
      obtain ⟨A', m', c', rs', e2, hrs'⟩ := open_clients h2 (fun k hk => hw k (by
        rw [hx]
        simp only [DataW.weights, Try.underlying38, List.map_cons, List.map_nil, DataW.weightsEach, List.mem_append]
        exact .inr (.inr (.inl hk)))) hsp
      simp at e0 e1 e2
      exact ⟨⟨rs, cl, rs'⟩, A, A', m, c, m', c', by simp [e0, e1, e2], hrs, hrs'⟩
end

/-- A world among a law's parameters. -/
theorem open_world_arg {H : Type} {enc : TypeId × Value → H} {w : World} {r0 : Reach} {b0 : Nat} {v : Value} {d : DataW H} {p : List MemPlace}
    (hv : Value.okWide Try.prog w r0 b0 38 v) (h : DataW.Trod enc Try.prog w 0 (fun _ => true) true 38 v d p) (hw : ∀ k ∈ d.weights Try.prog 38, k ≤ reachBytes) :
    ∃ (m : MWorld) (A A' : Option Addr) (n c n' c' : Nat), v = .agg #[.slice A n c, .int .i64 m.clock, .slice A' n' c'] ∧ RowsOk w w.heap.size A n c m.rows ∧ ClientsOk w w.heap.size A' n' c' m.clients := by
  obtain ⟨cs, rfl, hsz⟩ := okWide_struct Try.underlying38 hv
  obtain ⟨fuel, hf⟩ := h
  obtain ⟨m, A, A', n, c, n', c', hcs, hok⟩ := open_world hf hw (fun _ => rfl)
  refine ⟨m, A, A', n, c, n', c', ?_, hok⟩
  obtain ⟨l⟩ := cs
  have : l = [.slice A n c, .int .i64 m.clock, .slice A' n' c'] := hcs
  subst this
  rfl
end Go.Proofs.Ytniomgngiiiklaa
