/- An argument's reading, opened: records, rows, writes, clients and worlds as plain data, with the cells in which they lie. -/
import Derived.Test.YtniomgngiiiklaaFrame
import Derived.SizedLaws
namespace Go.Proofs.Ytniomgngiiiklaa
open Go.RowKit Go.ChangeShapes Go.WideShapes Go.Deep
set_option maxRecDepth 100000

/-- A slice value (A, n, c) of records that reads as rs in blocks below B, and takes no more memory than the form lets it. -/
structure RecsOk (w : World) (B : Nat) (A : Option Addr) (n c : Nat) (rs : List MRec) : Prop where
  at_ : RecsAt w B A n rs
  le : n ≤ c
  small : n * 32 ≤ 140737488351232
  nil : A = none → c = 0
structure WritesOk (w : World) (B : Nat) (A : Option Addr) (n c : Nat) (rs : List MWrite) : Prop where
  at_ : WritesAt w B A n rs
  le : n ≤ c
  small : n * 32 ≤ 140737488351232
  nil : A = none → c = 0
  keys : ∀ x ∈ rs, x.key.size ≤ maxLen

def rowCells (r : MRow) (A : Option Addr) (n c : Nat) : List Value := [.string r.key, .int .i64 r.ls, .string r.lp, .string r.value, .slice A n c]
structure RowOk (w : World) (B : Nat) (r : MRow) (A : Option Addr) (n c : Nat) : Prop where
  recs : RecsOk w B A n c r.recs
  key : r.key.size ≤ maxLen
  lp : r.lp.size ≤ maxLen

section
variable {w w' : World} {B C n c : Nat} {A : Option Addr}
theorem RecsOk.below {rs : List MRec} (h : RecsOk w B A n c rs) (hb : Below C w w') (hC : B ≤ C) : RecsOk w' B A n c rs := ⟨h.at_.below hb hC, h.le, h.small, h.nil⟩
theorem RecsOk.alloc {rs : List MRec} (h : RecsOk w B A n c rs) (o : Obj) (hB : B ≤ w.heap.size := by first | exact Nat.le_refl _ | (simp; done) | (simp; omega)) : RecsOk (w.alloc o) B A n c rs := h.below ((Below.refl B w).alloc hB o) (Nat.le_refl _)
theorem RecsOk.more {rs : List MRec} (h : RecsOk w B A n c rs) (hC : B ≤ C) : RecsOk w C A n c rs := ⟨h.at_.more hC, h.le, h.small, h.nil⟩
theorem WritesOk.below {rs : List MWrite} (h : WritesOk w B A n c rs) (hb : Below C w w') (hC : B ≤ C) : WritesOk w' B A n c rs := ⟨h.at_.below hb hC, h.le, h.small, h.nil, h.keys⟩
theorem WritesOk.alloc {rs : List MWrite} (h : WritesOk w B A n c rs) (o : Obj) (hB : B ≤ w.heap.size := by first | exact Nat.le_refl _ | (simp; done) | (simp; omega)) : WritesOk (w.alloc o) B A n c rs := h.below ((Below.refl B w).alloc hB o) (Nat.le_refl _)
theorem WritesOk.more {rs : List MWrite} (h : WritesOk w B A n c rs) (hC : B ≤ C) : WritesOk w C A n c rs := ⟨h.at_.more hC, h.le, h.small, h.nil, h.keys⟩
theorem RowOk.below {r : MRow} (h : RowOk w B r A n c) (hb : Below C w w') (hC : B ≤ C) : RowOk w' B r A n c := ⟨h.recs.below hb hC, h.key, h.lp⟩
theorem RowOk.alloc {r : MRow} (h : RowOk w B r A n c) (o : Obj) (hB : B ≤ w.heap.size := by first | exact Nat.le_refl _ | (simp; done) | (simp; omega)) : RowOk (w.alloc o) B r A n c := h.below ((Below.refl B w).alloc hB o) (Nat.le_refl _)
theorem RowOk.more {r : MRow} (h : RowOk w B r A n c) (hC : B ≤ C) : RowOk w C r A n c := ⟨h.recs.more hC, h.key, h.lp⟩
end

theorem own_more {w : World} {base base' : Nat} {e : TypeId} {size : Nat} {v : Value} {n : Nat} {xs : List Value} (h : w.ownsRow base e size v n xs) (hb : base' ≤ base) : w.ownsRow base' e size v n xs := by
  refine ⟨h.1, ?_⟩
  rcases h.2 with h | ⟨g, cap, cur, hv, hg, r⟩
  · exact .inl h
  · exact .inr ⟨g, cap, cur, hv, by omega, r⟩

theorem cellsOf_rec : Try.prog.cellsOf 56 = 3 := by kernel_rfl
theorem bytesOf_rec : Try.prog.bytesOf 56 = 32 := by kernel_rfl
theorem cellsOf_row : Try.prog.cellsOf 30 = 5 := by kernel_rfl
theorem cellsOf_lock : Try.prog.cellsOf 27 = 2 := by kernel_rfl
theorem one_int : Try.prog.cellsOf 3 = 1 := by kernel_rfl
theorem one_string : Try.prog.cellsOf 9 = 1 := by kernel_rfl
theorem one_recs : Try.prog.cellsOf 28 = 1 := by kernel_rfl
section
variable {H : Type} {enc : TypeId × Value → H} {w : World} {base : Nat} {spare : Nat → Bool} {held : Bool}

/-- One record's cells. -/
theorem open_rec {fuel : Nat} {cs : List Value} {x : DataW H × List MemPlace} (h : DataW.trod enc Try.prog w base spare held fuel 56 cs = some x) :
    ∃ r : MRec, cs = [.int .i64 r.start, .int .i64 r.commit, .string r.value] := by
  obtain ⟨xs, n, _, _, hlen, hxl, hf⟩ := DataW.trod_struct Try.underlying56 h
  rw [cellsOf_rec] at hlen
  match cs, hlen with
  | [c0, c1, c2], _ =>
    match xs, hxl with
    | [y0, y1, y2], _ =>
      have h0 : DataW.trod enc Try.prog w base spare held n 3 [c0] = some y0 := by simpa [one_int] using hf 0 _ rfl
      have h1 : DataW.trod enc Try.prog w base spare held n 3 [c1] = some y1 := by simpa [one_int] using hf 1 _ rfl
      have h2 : DataW.trod enc Try.prog w base spare held n 9 [c2] = some y2 := by simpa [one_string] using hf 2 _ rfl
      obtain ⟨a, e0, _, _⟩ := DataW.trod_int Try.underlying3 h0
      obtain ⟨b, e1, _, _⟩ := DataW.trod_int Try.underlying3 h1
      obtain ⟨s, e2, _, _⟩ := DataW.trod_string Try.underlying9 h2
      simp at e0 e1 e2
      exact ⟨⟨a, b, s⟩, by simp [e0, e1, e2]⟩

/-- A slice of records. -/
theorem open_recs {fuel : Nat} {cs : List Value} {x : DataW H × List MemPlace} (h : DataW.trod enc Try.prog w base spare held fuel 28 cs = some x)
    (hw : ∀ k ∈ x.1.weights Try.prog 28, k ≤ reachBytes) (hsp : ∀ b, spare b = true) :
    ∃ A n c rs, cs = [.slice A n c] ∧ RecsOk w w.heap.size A n c rs := by
  rcases open_slice Try.underlying28 h with ⟨hcs, _⟩ | ⟨a, len, cap, m, n, D, Pl, hcs, hb, hl, hm, hmm, hx, hi⟩
  · exact ⟨none, 0, 0, [], hcs, ⟨⟨rfl, fun k r hr => by simp at hr⟩, Nat.le_refl _, by omega, fun _ => rfl⟩⟩
  · rw [hsp, if_pos rfl] at hmm
    subst hmm
    have hsz : m * 32 ≤ 140737488351232 := by
      have := hw (m * 32) (by
        rw [hx]
        simp only [DataW.weights, Try.underlying28, bytesOf_rec, List.length_map, List.length_range]
        rw [show len + (m - len) = m from by omega]
        exact List.mem_cons_self)
      exact this
    have hrec : ∀ i, i < m → ∃ r : MRec, w.cells? base (a.add (i * 3)) 3 = some [.int .i64 r.start, .int .i64 r.commit, .string r.value] := by
      intro i him
      obtain ⟨cs', hc, ht⟩ := hi i him
      rw [cellsOf_rec] at hc
      obtain ⟨r, rfl⟩ := open_rec ht
      exact ⟨r, hc⟩
    have hex : ∃ rs : List MRec, rs.length = len ∧ ∀ (k : Nat) (r : MRec), rs[k]? = some r → w.cells? base (a.add (k * 3)) 3 = some [.int .i64 r.start, .int .i64 r.commit, .string r.value] := by
      refine ⟨(List.range len).map fun k => if h : k < m then (hrec k h).choose else MRec.zero, by simp, fun k r hr => ?_⟩
      rw [List.getElem?_map] at hr
      by_cases hk : k < len
      · rw [List.getElem?_range hk] at hr
        simp only [Option.map_some, Option.some.injEq] at hr
        rw [dif_pos (show k < m by omega)] at hr
        subst hr
        exact (hrec k (by omega)).choose_spec
      · rw [List.getElem?_eq_none (by simp; omega)] at hr
        cases hr
    obtain ⟨rs, hrl, hrs⟩ := hex
    refine ⟨some a, len, m, rs, hcs, ⟨⟨hrl, fun k r hr => ?_⟩, hl, by omega, fun e => by cases e⟩⟩
    obtain ⟨_, _, hat⟩ := World.cells?_some (hrs k r hr)
    have c0 := hat 0 (by omega)
    have c1 := hat 1 (by omega)
    have c2 := hat 2 (by omega)
    rw [Go.Deep.add_add] at c0 c1 c2
    simp only [List.getElem?_cons_zero, List.getElem?_cons_succ] at c0 c1 c2
    have hspot : a.spot = none := by
      have hk : k < len := by rw [← hrl]; exact (List.getElem?_eq_some_iff.1 hr).1
      obtain ⟨r0, hr0⟩ := hrec 0 (by omega)
      have := (World.cells?_some hr0).2.2 0 (by omega)
      rw [Go.Deep.add_add] at this
      exact World.cell?_spot (a := a) this
    obtain ⟨b, off, spot⟩ := a
    subst hspot
    rw [addr_add] at c0 c1 c2
    exact ⟨b, off, rfl, World.block_lt_of_cell? w _ c0, c0, c1, c2⟩

/-- A row's five cells. -/
theorem open_row {fuel : Nat} {cs : List Value} {x : DataW H × List MemPlace} (h : DataW.trod enc Try.prog w base spare held fuel 30 cs = some x)
    (hw : ∀ k ∈ x.1.weights Try.prog 30, k ≤ reachBytes) (hsp : ∀ b, spare b = true) :
    ∃ r A n c, cs = rowCells r A n c ∧ RowOk w w.heap.size r A n c := by
  obtain ⟨xs, n, _, hx, hlen, hxl, hf⟩ := DataW.trod_struct Try.underlying30 h
  rw [cellsOf_row] at hlen
  match cs, hlen with
  | [c0, c1, c2, c3, c4], _ =>
    match xs, hxl with
    | [y0, y1, y2, y3], _ =>
      have h0 : DataW.trod enc Try.prog w base spare held n 9 [c0] = some y0 := by simpa [one_string] using hf 0 _ rfl
      have h1 : DataW.trod enc Try.prog w base spare held n 27 [c1, c2] = some y1 := by simpa [cellsOf_lock] using hf 1 _ rfl
      have h2 : DataW.trod enc Try.prog w base spare held n 9 [c3] = some y2 := by simpa [one_string] using hf 2 _ rfl
      have h3 : DataW.trod enc Try.prog w base spare held n 28 [c4] = some y3 := by simpa [one_recs] using hf 3 _ rfl
      obtain ⟨key, e0, _, hkey⟩ := DataW.trod_string Try.underlying9 h0
      obtain ⟨val, e2, _, _⟩ := DataW.trod_string Try.underlying9 h2
      obtain ⟨zs, n', _, _, _, hzl, hg⟩ := DataW.trod_struct Try.underlying27 h1
      match zs, hzl with
      | [z0, z1], _ =>
        have g0 : DataW.trod enc Try.prog w base spare held n' 3 [c1] = some z0 := by simpa [one_int] using hg 0 _ rfl
        have g1 : DataW.trod enc Try.prog w base spare held n' 9 [c2] = some z1 := by simpa [one_string] using hg 1 _ rfl
        obtain ⟨ls, e1, _, _⟩ := DataW.trod_int Try.underlying3 g0
        obtain ⟨lp, e1', _, hlp⟩ := DataW.trod_string Try.underlying9 g1
        obtain ⟨A, m, c, rs, e3, hrs⟩ := open_recs h3 (fun k hk => hw k (by
          rw [hx]
          simp only [DataW.weights, Try.underlying30, List.map_cons, List.map_nil, DataW.weightsEach, List.mem_append]
          exact .inr (.inr (.inr (.inl hk))))) hsp
        simp at e0 e1 e1' e2 e3
        exact ⟨⟨key, ls, lp, val, rs⟩, A, m, c, by simp [rowCells, e0, e1, e1', e2, e3], ⟨hrs, hkey, hlp⟩⟩
end

/-- A row among a law's parameters. -/
theorem open_row_arg {H : Type} {enc : TypeId × Value → H} {w : World} {r0 : Reach} {b0 : Nat} {v : Value} {d : DataW H} {p : List MemPlace}
    (hv : Value.okWide Try.prog w r0 b0 30 v) (h : DataW.Trod enc Try.prog w 0 (fun _ => true) true 30 v d p) (hw : ∀ k ∈ d.weights Try.prog 30, k ≤ reachBytes) :
    ∃ r A n c, v = .agg #[.string r.key, .int .i64 r.ls, .string r.lp, .string r.value, .slice A n c] ∧ RowOk w w.heap.size r A n c := by
  obtain ⟨cs, rfl, hsz⟩ := okWide_struct Try.underlying30 hv
  obtain ⟨fuel, hf⟩ := h
  obtain ⟨r, A, n, c, hcs, hok⟩ := open_row hf hw (fun _ => rfl)
  refine ⟨r, A, n, c, ?_, hok⟩
  obtain ⟨l⟩ := cs
  have : l = rowCells r A n c := hcs
  subst this
  rfl

/-- The form's own reach, parameter by parameter. -/
theorem weights_of {H : Type} {P : Program} {ts : List TypeId} {ds : List (DataW H)} (h : (DataW.weightsEach P ts ds).all (· ≤ reachBytes) = true) {j : Nat} {t : TypeId} {d : DataW H} (ht : ts[j]? = some t) (hd : ds[j]? = some d) :
    ∀ k ∈ d.weights P t, k ≤ reachBytes := fun k hk => by simpa using List.all_eq_true.1 h k (DataW.weights_mem_each ht hd k hk)
end Go.Proofs.Ytniomgngiiiklaa

/- A slice's reading, element by element. -/
namespace Go.Proofs.Ytniomgngiiiklaa
open Go.RowKit Go.ChangeShapes Go.WideShapes Go.Deep
section
variable {H : Type} {enc : TypeId × Value → H} {w : World} {base : Nat}
/-- What a slice's reading gives, element by element, whatever the elements. -/
theorem slice_elems {α : Type} {size : Nat} {P : α → List Value → Prop} {a : Addr} {m : Nat} (h : ∀ i, i < m → ∃ (r : α) (cs : List Value), w.cells? base (a.add (i * size)) size = some cs ∧ P r cs) (hs : 0 < size) (hd : Nonempty α) (len : Nat) (hl : len ≤ m) :
    ∃ rs : List α, rs.length = len ∧ ∀ (k : Nat) (r : α), rs[k]? = some r → ∃ b off cs, a = ⟨b, off, none⟩ ∧ b < w.heap.size ∧ P r cs ∧ cs.length = size ∧ ∀ i u, cs[i]? = some u → w.cell? ⟨b, off + k * size + i, none⟩ = some u := by
  obtain ⟨d⟩ := hd
  refine ⟨(List.range len).map fun k => if h' : k < m then (h k h').choose else d, by simp, fun k r hr => ?_⟩
  rw [List.getElem?_map] at hr
  by_cases hk : k < len
  · rw [List.getElem?_range hk] at hr
    simp only [Option.map_some, Option.some.injEq] at hr
    rw [dif_pos (show k < m by omega)] at hr
    obtain ⟨cs, hc, hP⟩ := (h k (by omega)).choose_spec
    rw [hr] at hP
    obtain ⟨_, hlen, hat⟩ := World.cells?_some hc
    have hspot : a.spot = none := by
      obtain ⟨r0, cs0, hc0, _⟩ := h 0 (by omega)
      have h00 := (World.cells?_some hc0).2.1
      have hsz : 0 < cs0.length := by omega
      have := (World.cells?_some hc0).2.2 0 (by omega)
      rw [Go.Deep.add_add, List.getElem?_eq_getElem hsz, Nat.zero_mul] at this
      exact World.cell?_spot (a := a) this
    obtain ⟨b, off, spot⟩ := a
    subst hspot
    have hcell : ∀ i u, cs[i]? = some u → w.cell? ⟨b, off + k * size + i, none⟩ = some u := fun i u hu => by
      have hi : i < cs.length := (List.getElem?_eq_some_iff.1 hu).1
      have := hat i (by omega)
      rw [Go.Deep.add_add, addr_add, hu] at this
      rw [← this]; congr 2; omega
    have h0 : 0 < cs.length := by omega
    exact ⟨b, off, cs, rfl, World.block_lt_of_cell? w _ (hcell 0 _ (List.getElem?_eq_getElem h0)), hP, by omega, hcell⟩
  · rw [List.getElem?_eq_none (by simp; omega)] at hr
    cases hr

end
end Go.Proofs.Ytniomgngiiiklaa
