/- The walks of slices.Clone at records and of row.Copy. -/
import Derived.Test.YtniomgngiiiklaaOpen
import Derived.Maps.AppendAt
import Derived.Test.YtniomgngiiiklaaRep
import Derived.Deep.RegionHeld3
import Derived.Deep.AppendLies
import Derived.Deep.DrawnRows
import Derived.Laws.CopyOwn
namespace Go.Proofs.Ytniomgngiiiklaa
open Go.RowKit

theorem info_rec : (Try.prog.info? 56).map (fun i => (i.zero, i.size, i.bytes)) = some (some (.agg #[.int .i64 0, .int .i64 0, .string ⟨#[]⟩]), 3, 32) := by kernel_rfl

set_option maxHeartbeats 400000 in
theorem clone_some (ad : Addr) (n c : Nat) (rs : List MRec) (w : World) (h : RecsOk w w.heap.size (some ad) n c rs) :
    Calls Try.prog 32 #[.slice (some ad) n c] w fun e w' => ∃ A' c', e = .returned (.slice A' n c') ∧ w'.ownsRow w.heap.size 56 3 (.slice A' n c') n (recCells rs) ∧ Below w.heap.size w w' := by
  obtain ⟨i0, hi0, hz0, hz1, hz2⟩ := info_parts info_rec
  have hnil := fun W : World => Lib.run_eql_slice_nil (P := Try.prog) W
  go_enter Try.func32, Try.ntmps32
  have hs := h.small
  have hle := h.le
  have HC := Lib.hid h.at_.cells
  have Hl : Hid ((recCells rs).length = n * 3) := by show _ = _; rw [recCells_length, h.at_.1]
  clear h
  go_wp2_with (at_builtin; refine wpList_append_own _ rfl _ _ 28 rfl w.heap.size 56 i0 _ 3 32 Try.underlying28 hi0 hz0 hz1 hz2 rfl (by decide) _ 0 [] rfl (World.ownsRow_made w #[] 0 (Nat.le_refl _) (by decide) rfl) ad n c (recCells rs) rfl ?c0 ?c1 ?c2 ?c3 ?c4 ?c5 ?_)
  case c0 => exact Hl.out
  case c1 =>
    intro j u hu
    have := HC.out j u hu
    exact (World.cell?_alloc_lt _ _ _ (World.block_lt_of_cell? _ _ this)).trans this
  case c2 => exact recCells_one
  case c3 => unfold maxLen; omega
  case c4 => omega
  case c5 => simp
  intro v' w' hown hg _
  have hv : ∃ A' c', v' = .slice A' n c' := by
    rcases hown.2 with ⟨rfl, h0⟩ | ⟨g, cap, cur, rfl, _⟩
    · exact ⟨none, 0, by rw [show n = 0 from by omega]⟩
    · exact ⟨_, cap, rfl⟩
  obtain ⟨A', c', rfl⟩ := hv
  have hb : Below w.heap.size w w' := ((Below.refl _ _).alloc (Nat.le_refl _) _).grown hg (by simp) (by intro k hk; simp [Value.ownBlock] at hk; omega)
  clear Hl HC
  go_wp2
  go_ret
  exact ⟨A', c', rfl, hown, hb⟩

theorem clone_any (A : Option Addr) (n c : Nat) (rs : List MRec) (w : World) (h : RecsOk w w.heap.size A n c rs) :
    Calls Try.prog 32 #[.slice A n c] w fun e w' => ∃ A' c', e = .returned (.slice A' n c') ∧ w'.ownsRow w.heap.size 56 3 (.slice A' n c') n (recCells rs) ∧ Below w.heap.size w w' := by
  cases A with
  | some ad => exact clone_some ad n c rs w h
  | none =>
    have hn : n = 0 := by
      have h1 := h.at_.1
      match rs, h1 with
      | [], h1 => simpa using h1.symm
      | r :: rs, _ => obtain ⟨b, off, e, _⟩ := h.at_.2 0 r rfl; cases e
    subst hn
    have hrs : rs = [] := List.eq_nil_of_length_eq_zero h.at_.1
    subst hrs
    have hc := h.nil rfl
    subst hc
    clear h
    have hnil := fun W : World => Lib.run_eql_slice_nil (P := Try.prog) W
    go_enter Try.func32, Try.ntmps32
    go_wp2
    go_ret
    exact ⟨none, 0, rfl, World.ownsRow_nil _ _ _ _, Below.refl _ _⟩

/-- row.Copy: the same row, its records in new memory. -/
theorem rowCopy_any (r : MRow) (A : Option Addr) (n c : Nat) (w : World) (h : RowOk w w.heap.size r A n c) :
    Calls Try.prog 13 #[.agg #[.string r.key, .int .i64 r.ls, .string r.lp, .string r.value, .slice A n c]] w
      fun e w' => ∃ A' c', e = .returned (.agg #[.string r.key, .int .i64 r.ls, .string r.lp, .string r.value, .slice A' n c']) ∧ w'.ownsRow w.heap.size 56 3 (.slice A' n c') n (recCells r.recs) ∧ Below w.heap.size w w' := by
  have HR := Lib.hid h.recs
  clear h
  go_enter Try.func13, Try.ntmps13
  go_wp2_with fail
  refine (clone_any _ _ _ _ _ (((HR.out.alloc _).alloc _).more (by simp; omega))).mono ?_
  rintro e w1 ⟨A', c', rfl, hown, hb⟩
  have Hown := Lib.hid hown
  clear hown
  obtain ⟨hc0, hf0⟩ := blk_read (blk_keep hb (blk_old (blk_new w _ _) _) (by simp; omega))
  obtain ⟨hc1, hf1⟩ := blk_read (blk_keep hb (blk_new (w.alloc _) _ _) (by simp))
  simp only [World.size_alloc] at hc1 hf1
  go_wp2
  refine bodyPost_ret (v := .agg #[.string r.key, .int .i64 r.ls, .string r.lp, .string r.value, .slice A' n c']) (by simp [results, Try.results13, go_sem, hc1]) rfl ⟨A', c', rfl, ?_, ?_⟩
  · refine own_more (base := w.heap.size + 1 + 1) ?_ (by omega)
    have hown := Hown.out
    simp only [World.size_alloc] at hown
    repeat (refine ownsRow_setCell_below ?_ (by first | (simp; done) | (simp; omega)) _)
    exact hown
  · have hb0 : Below w.heap.size w w1 := (((Below.refl _ _).alloc (Nat.le_refl _) _).alloc (by simp) _).trans (hb.mono (by simp; omega))
    repeat (refine Below.setCell ?_ (by first | (simp; done) | (simp; omega)) _)
    exact hb0
end Go.Proofs.Ytniomgngiiiklaa

/- Laws of append at a region that draws its order. -/
namespace Go.Proofs.Ytniomgngiiiklaa
open Go.RowKit

theorem step_append_own {P : Program} {w : World} {ops : Array Oper} {o : Oper} {a : Act} {K : Act → World → Prop} {Q : Exit → Act → World → Prop} {E : Prop} (hgd : o.guard = none) (s x : Operand) (t : TypeId)
    (ho : o.op = .call { callee := .builtin .append, args := #[s, x], argTypes := #[t, t] })
    (base : Nat) (e : TypeId) (i : TypeInfo) (z : Value) (size bytes : Nat) (ht : P.underlying t = some (.slice e)) (hi : P.info? e = some i) (hz : i.zero = some z)
    (hsize : i.size = size) (hby : i.bytes = bytes) (hzs : z.cells.size = size) (hsz : 0 < size)
    (v : Value) (n : Nat) (xs : List Value) (hs : a.eval s = v) (hown : w.ownsRow base e size v n xs)
    (ad : Addr) (m c : Nat) (news : List Value) (hx : a.eval x = .slice (some ad) m c) (hl : news.length = m * size) (hnews : ∀ j u, news[j]? = some u → w.cell? (ad.add j) = some u) (h1 : ∀ u ∈ news, u.oneCell' = true)
    (h63 : n + m ≤ maxLen) (hbytes : (n + m) * bytes ≤ 140737488355328) (hbase : base ≤ w.heap.size)
    (h : ∀ A' c' w', w'.ownsRow base e size (.slice A' (n + m) c') (n + m) (xs ++ news) → w.grownBy w' v.ownBlock → K (a.put o.dst (.slice A' (n + m) c')) w') :
    if Region.wanted o (yielded ops a.tmps) = true then Oper.wp P o a w K Q else E := by
  have hw : Region.wanted o (yielded ops a.tmps) = true := by simp [Region.wanted, hgd]
  rw [if_pos hw]
  exact wp_append_own w s x t ho base e i z size bytes ht hi hz hsize hby hzs hsz v n xs hs hown ad m c news hx hl hnews h1 h63 hbytes hbase fun v' w' h2 h3 _ => by
    obtain ⟨A', c', rfl⟩ := own_slice h2
    exact h A' c' w' h2 h3

theorem run_append_nils {P : Program} (w : World) (t ty e : TypeId) (i : TypeInfo) (ht : P.underlying t = some (.slice e)) (hi : P.info? e = some i) (n c : Nat) (hn : n = 0) : (Builtin.append_ #[t, t] ty #[.slice none 0 0, .slice none n c]).run P w = .ok (.slice none 0 0) w := by
  subst hn
  simp [Builtin.append_, run_underlying ht, sizeOf, typeInfo, hi, Builtin.lenOf, Builtin.firstCells]

theorem step_append_nils {P : Program} {w : World} {ops : Array Oper} {o : Oper} {a : Act} {K : Act → World → Prop} {Q : Exit → Act → World → Prop} {E : Prop} (hgd : o.guard = none) (s x : Operand) (t : TypeId)
    (ho : o.op = .call { callee := .builtin .append, args := #[s, x], argTypes := #[t, t] })
    (e : TypeId) (i : TypeInfo) (ht : P.underlying t = some (.slice e)) (hi : P.info? e = some i) (n c : Nat) (hn : n = 0)
    (hs : a.eval s = .slice none 0 0) (hx : a.eval x = .slice none n c) (h : K (a.put o.dst (.slice none 0 0)) w) :
    if Region.wanted o (yielded ops a.tmps) = true then Oper.wp P o a w K Q else E := by
  have hw : Region.wanted o (yielded ops a.tmps) = true := by simp [Region.wanted, hgd]
  rw [if_pos hw]
  unfold Oper.wp execOp
  simp only [ho, resolve, invoke, builtin, Sem.run_bind, Sem.run_pure, Result.andThen_ok, List.map_toArray, List.map_cons, List.map_nil, hs, hx, run_append_nils (P := P) w t o.type e i ht hi n c hn]
  exact h
end Go.Proofs.Ytniomgngiiiklaa

/- The built-in copy onto a block that is known whole, at elements of any size; the laws of a row of cells under it. No program in sight. -/
namespace Go.Proofs.Ytniomgngiiiklaa
open Go.RowKit

section
variable {P : Program} (w : World)
theorem run_copy_rowN (dT sT ty elem : TypeId) (i : TypeInfo) (g o dLen dCap : Nat) (a : Addr) (sLen sCap : Nat) (cur : Array Value) (t : TypeId) (cs : List Value)
    (hu : P.underlying dT = some (.slice elem)) (hi : P.info? elem = some i)
    (hg : w.heap[g]? = some (.cells cur t (0, 0))) (hn : cs.length = Nat.min sLen dLen * i.size)
    (hsrc : ∀ j v, cs[j]? = some v → w.cell? (a.add j) = some v) (hfit : o + cs.length ≤ cur.size) (h1 : ∀ v ∈ cs, v.oneCell' = true) :
    (Builtin.copy_ #[dT, sT] ty #[.slice (some ⟨g, o, none⟩) dLen dCap, .slice (some a) sLen sCap]).run P w =
      .ok (goInt (Nat.min sLen dLen)) (w.setRow g (cur.toList.take o ++ cs ++ cur.toList.drop (o + cs.length)).toArray) := by
  have hl := run_firstCells_some (P := P) w i.size (Nat.min sLen dLen) a sLen sCap cs hn hsrc
  have hst := run_storeCells_at P g o t cs 0 cur w hg (by simpa using hfit) h1
  simp only [Nat.add_zero] at hst
  simp [Builtin.copy_, run_underlying hu, Builtin.lenOf, sizeOf, typeInfo, hi, hl, hst]
end

theorem wp_copy_run {P : Program} {w : World} {o : Oper} {a : Act} {K : Act → World → Prop} {Q : Exit → Act → World → Prop} (d s : Operand) (t t' : TypeId)
    (ho : o.op = .call { callee := .builtin .copy, args := #[d, s], argTypes := #[t, t'] }) (v u : Value) (hd : a.eval d = v) (hs : a.eval s = u) {v' : Value} {w' : World}
    (hr : (Builtin.copy_ #[t, t'] o.type #[v, u]).run P w = .ok v' w') (h : K (a.put o.dst v') w') : o.wp P a w K Q := by
  unfold Oper.wp execOp
  simp only [ho, resolve, invoke, builtin, Sem.run_bind, Sem.run_pure, Result.andThen_ok, List.map_toArray, List.map_cons, List.map_nil, hd, hs, hr]
  exact h
theorem wpList_copy_run {P : Program} {w : World} {ops : Array Oper} {rest : List Oper} {o : Oper} {a : Act} {Q : Exit → Act → World → Prop} (hgd : o.guard = none) (d s : Operand) (t t' : TypeId)
    (ho : o.op = .call { callee := .builtin .copy, args := #[d, s], argTypes := #[t, t'] }) (v u : Value) (hd : a.eval d = v) (hs : a.eval s = u) {v' : Value} {w' : World}
    (hr : (Builtin.copy_ #[t, t'] o.type #[v, u]).run P w = .ok v' w') (h : wpList P ops Q rest (a.put o.dst v') w') : wpList P ops Q (o :: rest) a w :=
  wpList_plain hgd fun _ hK => wp_copy_run d s t t' ho v u hd hs hr (hK _ _ h)
theorem step_copy_run {P : Program} {w : World} {ops : Array Oper} {o : Oper} {a : Act} {K : Act → World → Prop} {Q : Exit → Act → World → Prop} {E : Prop} (hgd : o.guard = none) (d s : Operand) (t t' : TypeId)
    (ho : o.op = .call { callee := .builtin .copy, args := #[d, s], argTypes := #[t, t'] }) (v u : Value) (hd : a.eval d = v) (hs : a.eval s = u) {v' : Value} {w' : World}
    (hr : (Builtin.copy_ #[t, t'] o.type #[v, u]).run P w = .ok v' w') (h : K (a.put o.dst v') w') : if Region.wanted o (yielded ops a.tmps) = true then Oper.wp P o a w K Q else E := by
  have hw : Region.wanted o (yielded ops a.tmps) = true := by simp [Region.wanted, hgd]
  rw [if_pos hw]
  exact wp_copy_run d s t t' ho v u hd hs hr h

theorem ownBlock_any (A : Option Addr) (n c m d : Nat) : (Value.slice A n c).ownBlock = (Value.slice A m d).ownBlock := by cases A <;> rfl
theorem shape_blk {w : World} {g : Nat} {cs : Array Value} {t : TypeId} (h : w.heap[g]? = some (.cells cs t (0, 0))) : w.shape? g = some (t, cs.size) := by simp [World.shape?, h]
theorem wpList_append_run {P : Program} {w : World} {ops : Array Oper} {rest : List Oper} {o : Oper} {a : Act} {Q : Exit → Act → World → Prop} (hgd : o.guard = none) (d s : Operand) (t t' : TypeId)
    (ho : o.op = .call { callee := .builtin .append, args := #[d, s], argTypes := #[t, t'] }) (v u : Value) (hd : a.eval d = v) (hs : a.eval s = u) {v' : Value} {w' : World}
    (hr : (Builtin.append_ #[t, t'] o.type #[v, u]).run P w = .ok v' w') (h : wpList P ops Q rest (a.put o.dst v') w') : wpList P ops Q (o :: rest) a w :=
  wpList_plain hgd fun K hK => by
    unfold Oper.wp execOp
    simp only [ho, resolve, invoke, builtin, Sem.run_bind, Sem.run_pure, Result.andThen_ok, List.map_toArray, List.map_cons, List.map_nil, hd, hs, hr]
    exact hK _ _ h

theorem splice_shift {cur xs nw : List Value} {a s : Nat} (htake : cur.take xs.length = xs) (ha : a ≤ xs.length) (hs : nw.length = s) (hcl : xs.length + s ≤ cur.length) {L1 : List Value} (h1 : L1 = cur.take (a + s) ++ xs.drop a ++ cur.drop (a + s + (xs.drop a).length)) :
    (L1.take a ++ nw ++ L1.drop (a + s)).take (xs.length + s) = xs.take a ++ nw ++ xs.drop a ∧ (L1.take a ++ nw ++ L1.drop (a + s)).length = cur.length := by
  have hdl : (xs.drop a).length = xs.length - a := List.length_drop
  have hl1 : L1.length = cur.length := by rw [h1]; simp only [List.length_append, List.length_take, List.length_drop]; omega
  have ht : L1.take a = xs.take a := by
    rw [h1, List.append_assoc, List.take_append_of_le_length (by rw [List.length_take]; omega), List.take_take, Nat.min_eq_left (by omega), ← htake, List.take_take, Nat.min_eq_left (by omega)]
  have hd : L1.drop (a + s) = xs.drop a ++ cur.drop (a + s + (xs.drop a).length) := by
    rw [h1, List.append_assoc, List.drop_append_of_le_length (by rw [List.length_take]; omega), List.drop_eq_nil_of_le (by rw [List.length_take]; omega), List.nil_append]
  constructor
  · rw [ht, hd, ← List.append_assoc, List.take_append_of_le_length (by simp only [List.length_append, List.length_take, List.length_drop]; omega), List.take_of_length_le (by simp only [List.length_append, List.length_take, List.length_drop]; omega)]
  · simp only [List.length_append, List.length_take, List.length_drop, hl1]; omega
theorem splice_grow {L0 xs nw : List Value} {a s : Nat} (htake : L0.take a = xs.take a) (ha : a ≤ xs.length) (hs : nw.length = s) (hcl : xs.length + s ≤ L0.length) {L1 : List Value} (h1 : L1 = L0.take a ++ nw ++ L0.drop (a + nw.length)) :
    (L1.take (a + s) ++ xs.drop a ++ L1.drop (a + s + (xs.drop a).length)).take (xs.length + s) = xs.take a ++ nw ++ xs.drop a ∧ (L1.take (a + s) ++ xs.drop a ++ L1.drop (a + s + (xs.drop a).length)).length = L0.length := by
  have hdl : (xs.drop a).length = xs.length - a := List.length_drop
  have hl1 : L1.length = L0.length := by rw [h1]; simp only [List.length_append, List.length_take, List.length_drop]; omega
  have ht : L1.take (a + s) = xs.take a ++ nw := by
    rw [h1, htake, List.take_append_of_le_length (by simp only [List.length_append, List.length_take]; omega), List.take_of_length_le (by simp only [List.length_append, List.length_take]; omega)]
  constructor
  · rw [ht, List.take_append_of_le_length (by simp only [List.length_append, List.length_take, List.length_drop]; omega), List.take_of_length_le (by simp only [List.length_append, List.length_take, List.length_drop]; omega)]
  · simp only [List.length_append, List.length_take, List.length_drop, hl1]; omega
theorem setRow_grown {w w' : World} {g : Nat} {row : Option Nat} (h : w.grownBy w' row) (hg : w.heap.size ≤ g ∨ row = some g) (cs : Array Value) : w.grownBy (w'.setRow g cs) row :=
  ⟨h.os, h.tape, h.output, by show w.heap.size ≤ (w'.heap.modify g _).size; rw [Array.size_modify]; exact h.size, fun k hk hne => by
    refine Eq.trans ?_ (h.block k hk hne)
    have e : g ≠ k := by
      rcases hg with hg | hg
      · omega
      · rintro rfl; exact hne hg.symm
    simp [World.setRow, Array.getElem?_modify, e]⟩
theorem drew_grown {w w' : World} {row : Option Nat} (h : w.grownBy w' row) : w.grownBy w'.drew row := ⟨h.os, h.tape, h.output, h.size, h.block⟩
theorem refl_grown (w : World) (row : Option Nat) : w.grownBy w row := ⟨rfl, rfl, rfl, Nat.le_refl _, fun _ _ _ => rfl⟩
/-- What slices.Insert leaves: a slice of the call's own, one longer. -/
def InsOk (w : World) (base : Nat) (e : TypeId) (size : Nat) (A : Option Addr) (n c : Nat) (cells : List Value) (en : Ending) (w' : World) : Prop :=
  ∃ A' c', en = .returned (.slice A' (n + 1) c') ∧ w'.ownsRow base e size (.slice A' (n + 1) c') (n + 1) cells ∧ w.grownBy w' (Value.slice A n c).ownBlock ∧ ((Value.slice A' (n + 1) c').ownBlock = (Value.slice A n c).ownBlock ∨ (Value.slice A' (n + 1) c').ownBlock = some w.heap.size)
end Go.Proofs.Ytniomgngiiiklaa

/- The walk of slices.Clone at writes. -/
namespace Go.Proofs.Ytniomgngiiiklaa
open Go.RowKit

theorem info_write : (Try.prog.info? 66).map (fun i => (i.zero, i.size, i.bytes)) = some (some (.agg #[.string ⟨#[]⟩, .string ⟨#[]⟩]), 2, 32) := by kernel_rfl

set_option maxHeartbeats 400000 in
theorem cloneW_some (ad : Addr) (n c : Nat) (rs : List MWrite) (w : World) (h : WritesOk w w.heap.size (some ad) n c rs) :
    Calls Try.prog 36 #[.slice (some ad) n c] w fun e w' => ∃ A' c', e = .returned (.slice A' n c') ∧ w'.ownsRow w.heap.size 66 2 (.slice A' n c') n (writeCells rs) ∧ Below w.heap.size w w' := by
  obtain ⟨i0, hi0, hz0, hz1, hz2⟩ := info_parts info_write
  have hnil := fun W : World => Lib.run_eql_slice_nil (P := Try.prog) W
  go_enter Try.func36, Try.ntmps36
  have hs := h.small
  have hle := h.le
  have HC := Lib.hid h.at_.cells
  have Hl : Hid ((writeCells rs).length = n * 2) := by show _ = _; rw [writeCells_length, h.at_.1]
  clear h
  go_wp2_with (at_builtin; refine wpList_append_own _ rfl _ _ 61 rfl w.heap.size 66 i0 _ 2 32 Try.underlying61 hi0 hz0 hz1 hz2 rfl (by decide) _ 0 [] rfl (World.ownsRow_made w #[] 0 (Nat.le_refl _) (by decide) rfl) ad n c (writeCells rs) rfl ?c0 ?c1 ?c2 ?c3 ?c4 ?c5 ?_)
  case c0 => exact Hl.out
  case c1 =>
    intro j u hu
    have := HC.out j u hu
    exact (World.cell?_alloc_lt _ _ _ (World.block_lt_of_cell? _ _ this)).trans this
  case c2 => exact writeCells_one
  case c3 => unfold maxLen; omega
  case c4 => omega
  case c5 => simp
  intro v' w' hown hg _
  have hv : ∃ A' c', v' = .slice A' n c' := by
    rcases hown.2 with ⟨rfl, h0⟩ | ⟨g, cap, cur, rfl, _⟩
    · exact ⟨none, 0, by rw [show n = 0 from by omega]⟩
    · exact ⟨_, cap, rfl⟩
  obtain ⟨A', c', rfl⟩ := hv
  have hb : Below w.heap.size w w' := ((Below.refl _ _).alloc (Nat.le_refl _) _).grown hg (by simp) (by intro k hk; simp [Value.ownBlock] at hk; omega)
  clear Hl HC
  go_wp2
  go_ret
  exact ⟨A', c', rfl, hown, hb⟩

theorem cloneW_any (A : Option Addr) (n c : Nat) (rs : List MWrite) (w : World) (h : WritesOk w w.heap.size A n c rs) :
    Calls Try.prog 36 #[.slice A n c] w fun e w' => ∃ A' c', e = .returned (.slice A' n c') ∧ w'.ownsRow w.heap.size 66 2 (.slice A' n c') n (writeCells rs) ∧ Below w.heap.size w w' := by
  cases A with
  | some ad => exact cloneW_some ad n c rs w h
  | none =>
    have hn : n = 0 := by
      have h1 := h.at_.1
      match rs, h1 with
      | [], h1 => simpa using h1.symm
      | r :: rs, _ => obtain ⟨b, off, e, _⟩ := h.at_.2 0 r rfl; cases e
    subst hn
    have hrs : rs = [] := List.eq_nil_of_length_eq_zero h.at_.1
    subst hrs
    have hc := h.nil rfl
    subst hc
    clear h
    have hnil := fun W : World => Lib.run_eql_slice_nil (P := Try.prog) W
    go_enter Try.func36, Try.ntmps36
    go_wp2
    go_ret
    exact ⟨none, 0, rfl, World.ownsRow_nil _ _ _ _, Below.refl _ _⟩

end Go.Proofs.Ytniomgngiiiklaa
