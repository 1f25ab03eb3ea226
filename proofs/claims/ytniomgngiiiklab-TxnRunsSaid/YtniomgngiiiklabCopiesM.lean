/- The walks of slices.Clone at records and of row.Copy. -/
import Derived.Test.YtniomgngiiiklabGroundM
import Derived.Maps.AppendAt
import Derived.Deep.RegionHeld3
import Derived.Deep.AppendLies
import Derived.Deep.DrawnRows
import Derived.Laws.CopyOwn
import Derived.Test.YtniomgngiiiklabOwnsM
import Derived.Deep.DeepCutAuto
import Derived.Deep.RegionLaw
namespace Go.Proofs.Ytniomgngiiiklab
open Go.RowKit

theorem info_rec : (Try.prog.info? 55).map (fun i => (i.zero, i.size, i.bytes)) = some (some (.agg #[.int .i64 0, .int .i64 0, .string ⟨#[]⟩]), 3, 32) := by kernel_rfl

set_option maxHeartbeats 400000 in
theorem clone_some (ad : Addr) (n c : Nat) (rs : List MRec) (w : World) (h : RecsOk w w.heap.size (some ad) n c rs) :
    Calls Try.prog 41 #[.slice (some ad) n c] w fun e w' => ∃ A' c', e = .returned (.slice A' n c') ∧ w'.ownsRow w.heap.size 55 3 (.slice A' n c') n (recCells rs) ∧ Below w.heap.size w w' := by
  obtain ⟨i0, hi0, hz0, hz1, hz2⟩ := info_parts info_rec
  have hnil := fun W : World => Lib.run_eql_slice_nil (P := Try.prog) W
  go_enter Try.func41, Try.ntmps41
  have hs := h.small
  have hle := h.le
  have HC := Lib.hid h.at_.cells
  have Hl : Hid ((recCells rs).length = n * 3) := by show _ = _; rw [recCells_length, h.at_.1]
  clear h
  go_wp2_with (at_builtin; refine wpList_append_own _ rfl _ _ 24 rfl w.heap.size 55 i0 _ 3 32 Try.underlying24 hi0 hz0 hz1 hz2 rfl (by decide) _ 0 [] rfl (World.ownsRow_made w #[] 0 (Nat.le_refl _) (by decide) rfl) ad n c (recCells rs) rfl ?c0 ?c1 ?c2 ?c3 ?c4 ?c5 ?_)
  case c0 => exact Hl.out
  case c1 =>
    intro j u hu
    have := HC.out j u hu
    exact (World.cell?_alloc_lt _ _ _ (World.block_lt_of_cell? _ _ this)).trans this
  case c2 => exact recCells_one
  case c3 => unfold maxLen; omega
  case c4 => omega
  case c5 => simp
  intro v' w' hown hg _
  have hv : ∃ A' c', v' = .slice A' n c' := by
    rcases hown.2 with ⟨rfl, h0⟩ | ⟨g, cap, cur, rfl, _⟩
    · exact ⟨none, 0, by rw [show n = 0 from by omega]⟩
    · exact ⟨_, cap, rfl⟩
  obtain ⟨A', c', rfl⟩ := hv
  have hb : Below w.heap.size w w' := ((Below.refl _ _).alloc (Nat.le_refl _) _).grown hg (by simp) (by intro k hk; simp [Value.ownBlock] at hk; omega)
  clear Hl HC
  go_wp2
  go_ret
  exact ⟨A', c', rfl, hown, hb⟩

theorem clone_any (A : Option Addr) (n c : Nat) (rs : List MRec) (w : World) (h : RecsOk w w.heap.size A n c rs) :
    Calls Try.prog 41 #[.slice A n c] w fun e w' => ∃ A' c', e = .returned (.slice A' n c') ∧ w'.ownsRow w.heap.size 55 3 (.slice A' n c') n (recCells rs) ∧ Below w.heap.size w w' := by
  cases A with
  | some ad => exact clone_some ad n c rs w h
  | none =>
    have hn : n = 0 := by
      have h1 := h.at_.1
      match rs, h1 with
      | [], h1 => simpa using h1.symm
      | r :: rs, _ => obtain ⟨b, off, e, _⟩ := h.at_.2 0 r rfl; cases e
    subst hn
    have hrs : rs = [] := List.eq_nil_of_length_eq_zero h.at_.1
    subst hrs
    have hc := h.nil rfl
    subst hc
    clear h
    have hnil := fun W : World => Lib.run_eql_slice_nil (P := Try.prog) W
    go_enter Try.func41, Try.ntmps41
    go_wp2
    go_ret
    exact ⟨none, 0, rfl, World.ownsRow_nil _ _ _ _, Below.refl _ _⟩

/-- row.Copy: the same row, its records in new memory. -/
theorem rowCopy_any (r : MRow) (A : Option Addr) (n c : Nat) (w : World) (h : RowOk w w.heap.size r A n c) :
    Calls Try.prog 17 #[.agg #[.string r.key, .int .i64 r.ls, .string r.lp, .string r.value, .slice A n c]] w
      fun e w' => ∃ A' c', e = .returned (.agg #[.string r.key, .int .i64 r.ls, .string r.lp, .string r.value, .slice A' n c']) ∧ w'.ownsRow w.heap.size 55 3 (.slice A' n c') n (recCells r.recs) ∧ Below w.heap.size w w' := by
  have HR := Lib.hid h.recs
  clear h
  go_enter Try.func17, Try.ntmps17
  go_wp2_with fail
  refine (clone_any _ _ _ _ _ (((HR.out.alloc _).alloc _).more (by simp; omega))).mono ?_
  rintro e w1 ⟨A', c', rfl, hown, hb⟩
  have Hown := Lib.hid hown
  clear hown
  obtain ⟨hc0, hf0⟩ := blk_read (blk_keep hb (blk_old (blk_new w _ _) _) (by simp; omega))
  obtain ⟨hc1, hf1⟩ := blk_read (blk_keep hb (blk_new (w.alloc _) _ _) (by simp))
  simp only [World.size_alloc] at hc1 hf1
  go_wp2
  refine bodyPost_ret (v := .agg #[.string r.key, .int .i64 r.ls, .string r.lp, .string r.value, .slice A' n c']) (by simp [results, Try.results17, go_sem, hc1]) rfl ⟨A', c', rfl, ?_, ?_⟩
  · refine own_more (base := w.heap.size + 1 + 1) ?_ (by omega)
    have hown := Hown.out
    simp only [World.size_alloc] at hown
    repeat (refine ownsRow_setCell_below ?_ (by first | (simp; done) | (simp; omega)) _)
    exact hown
  · have hb0 : Below w.heap.size w w1 := (((Below.refl _ _).alloc (Nat.le_refl _) _).alloc (by simp) _).trans (hb.mono (by simp; omega))
    repeat (refine Below.setCell ?_ (by first | (simp; done) | (simp; omega)) _)
    exact hb0
end Go.Proofs.Ytniomgngiiiklab

/- Laws of append at a region that draws its order. -/
namespace Go.Proofs.Ytniomgngiiiklab
open Go.RowKit

theorem step_append_own {P : Program} {w : World} {ops : Array Oper} {o : Oper} {a : Act} {K : Act → World → Prop} {Q : Exit → Act → World → Prop} {E : Prop} (hgd : o.guard = none) (s x : Operand) (t : TypeId)
    (ho : o.op = .call { callee := .builtin .append, args := #[s, x], argTypes := #[t, t] })
    (base : Nat) (e : TypeId) (i : TypeInfo) (z : Value) (size bytes : Nat) (ht : P.underlying t = some (.slice e)) (hi : P.info? e = some i) (hz : i.zero = some z)
    (hsize : i.size = size) (hby : i.bytes = bytes) (hzs : z.cells.size = size) (hsz : 0 < size)
    (v : Value) (n : Nat) (xs : List Value) (hs : a.eval s = v) (hown : w.ownsRow base e size v n xs)
    (ad : Addr) (m c : Nat) (news : List Value) (hx : a.eval x = .slice (some ad) m c) (hl : news.length = m * size) (hnews : ∀ j u, news[j]? = some u → w.cell? (ad.add j) = some u) (h1 : ∀ u ∈ news, u.oneCell' = true)
    (h63 : n + m ≤ maxLen) (hbytes : (n + m) * bytes ≤ 140737488355328) (hbase : base ≤ w.heap.size)
    (h : ∀ A' c' w', w'.ownsRow base e size (.slice A' (n + m) c') (n + m) (xs ++ news) → w.grownBy w' v.ownBlock → K (a.put o.dst (.slice A' (n + m) c')) w') :
    if Region.wanted o (yielded ops a.tmps) = true then Oper.wp P o a w K Q else E := by
  have hw : Region.wanted o (yielded ops a.tmps) = true := by simp [Region.wanted, hgd]
  rw [if_pos hw]
  exact wp_append_own w s x t ho base e i z size bytes ht hi hz hsize hby hzs hsz v n xs hs hown ad m c news hx hl hnews h1 h63 hbytes hbase fun v' w' h2 h3 _ => by
    obtain ⟨A', c', rfl⟩ := own_slice h2
    exact h A' c' w' h2 h3

theorem run_append_nils {P : Program} (w : World) (t ty e : TypeId) (i : TypeInfo) (ht : P.underlying t = some (.slice e)) (hi : P.info? e = some i) (n c : Nat) (hn : n = 0) : (Builtin.append_ #[t, t] ty #[.slice none 0 0, .slice none n c]).run P w = .ok (.slice none 0 0) w := by
  subst hn
  simp [Builtin.append_, run_underlying ht, sizeOf, typeInfo, hi, Builtin.lenOf, Builtin.firstCells]

theorem step_append_nils {P : Program} {w : World} {ops : Array Oper} {o : Oper} {a : Act} {K : Act → World → Prop} {Q : Exit → Act → World → Prop} {E : Prop} (hgd : o.guard = none) (s x : Operand) (t : TypeId)
    (ho : o.op = .call { callee := .builtin .append, args := #[s, x], argTypes := #[t, t] })
    (e : TypeId) (i : TypeInfo) (ht : P.underlying t = some (.slice e)) (hi : P.info? e = some i) (n c : Nat) (hn : n = 0)
    (hs : a.eval s = .slice none 0 0) (hx : a.eval x = .slice none n c) (h : K (a.put o.dst (.slice none 0 0)) w) :
    if Region.wanted o (yielded ops a.tmps) = true then Oper.wp P o a w K Q else E := by
  have hw : Region.wanted o (yielded ops a.tmps) = true := by simp [Region.wanted, hgd]
  rw [if_pos hw]
  unfold Oper.wp execOp
  simp only [ho, resolve, invoke, builtin, Sem.run_bind, Sem.run_pure, Result.andThen_ok, List.map_toArray, List.map_cons, List.map_nil, hs, hx, run_append_nils (P := P) w t o.type e i ht hi n c hn]
  exact h
end Go.Proofs.Ytniomgngiiiklab

/- The built-in copy onto a block that is known whole, at elements of any size; the laws of a row of cells under it. No program in sight. -/
namespace Go.Proofs.Ytniomgngiiiklab
open Go.RowKit

section
variable {P : Program} (w : World)
theorem run_copy_rowN (dT sT ty elem : TypeId) (i : TypeInfo) (g o dLen dCap : Nat) (a : Addr) (sLen sCap : Nat) (cur : Array Value) (t : TypeId) (cs : List Value)
    (hu : P.underlying dT = some (.slice elem)) (hi : P.info? elem = some i)
    (hg : w.heap[g]? = some (.cells cur t (0, 0))) (hn : cs.length = Nat.min sLen dLen * i.size)
    (hsrc : ∀ j v, cs[j]? = some v → w.cell? (a.add j) = some v) (hfit : o + cs.length ≤ cur.size) (h1 : ∀ v ∈ cs, v.oneCell' = true) :
    (Builtin.copy_ #[dT, sT] ty #[.slice (some ⟨g, o, none⟩) dLen dCap, .slice (some a) sLen sCap]).run P w =
      .ok (goInt (Nat.min sLen dLen)) (w.setRow g (cur.toList.take o ++ cs ++ cur.toList.drop (o + cs.length)).toArray) := by
  have hl := run_firstCells_some (P := P) w i.size (Nat.min sLen dLen) a sLen sCap cs hn hsrc
  have hst := run_storeCells_at P g o t cs 0 cur w hg (by simpa using hfit) h1
  simp only [Nat.add_zero] at hst
  simp [Builtin.copy_, run_underlying hu, Builtin.lenOf, sizeOf, typeInfo, hi, hl, hst]
end

theorem wp_copy_run {P : Program} {w : World} {o : Oper} {a : Act} {K : Act → World → Prop} {Q : Exit → Act → World → Prop} (d s : Operand) (t t' : TypeId)
    (ho : o.op = .call { callee := .builtin .copy, args := #[d, s], argTypes := #[t, t'] }) (v u : Value) (hd : a.eval d = v) (hs : a.eval s = u) {v' : Value} {w' : World}
    (hr : (Builtin.copy_ #[t, t'] o.type #[v, u]).run P w = .ok v' w') (h : K (a.put o.dst v') w') : o.wp P a w K Q := by
  unfold Oper.wp execOp
  simp only [ho, resolve, invoke, builtin, Sem.run_bind, Sem.run_pure, Result.andThen_ok, List.map_toArray, List.map_cons, List.map_nil, hd, hs, hr]
  exact h
theorem wpList_copy_run {P : Program} {w : World} {ops : Array Oper} {rest : List Oper} {o : Oper} {a : Act} {Q : Exit → Act → World → Prop} (hgd : o.guard = none) (d s : Operand) (t t' : TypeId)
    (ho : o.op = .call { callee := .builtin .copy, args := #[d, s], argTypes := #[t, t'] }) (v u : Value) (hd : a.eval d = v) (hs : a.eval s = u) {v' : Value} {w' : World}
    (hr : (Builtin.copy_ #[t, t'] o.type #[v, u]).run P w = .ok v' w') (h : wpList P ops Q rest (a.put o.dst v') w') : wpList P ops Q (o :: rest) a w :=
  wpList_plain hgd fun _ hK => wp_copy_run d s t t' ho v u hd hs hr (hK _ _ h)
theorem step_copy_run {P : Program} {w : World} {ops : Array Oper} {o : Oper} {a : Act} {K : Act → World → Prop} {Q : Exit → Act → World → Prop} {E : Prop} (hgd : o.guard = none) (d s : Operand) (t t' : TypeId)
    (ho : o.op = .call { callee := .builtin .copy, args := #[d, s], argTypes := #[t, t'] }) (v u : Value) (hd : a.eval d = v) (hs : a.eval s = u) {v' : Value} {w' : World}
    (hr : (Builtin.copy_ #[t, t'] o.type #[v, u]).run P w = .ok v' w') (h : K (a.put o.dst v') w') : if Region.wanted o (yielded ops a.tmps) = true then Oper.wp P o a w K Q else E := by
  have hw : Region.wanted o (yielded ops a.tmps) = true := by simp [Region.wanted, hgd]
  rw [if_pos hw]
  exact wp_copy_run d s t t' ho v u hd hs hr h

theorem ownBlock_any (A : Option Addr) (n c m d : Nat) : (Value.slice A n c).ownBlock = (Value.slice A m d).ownBlock := by cases A <;> rfl
theorem shape_blk {w : World} {g : Nat} {cs : Array Value} {t : TypeId} (h : w.heap[g]? = some (.cells cs t (0, 0))) : w.shape? g = some (t, cs.size) := by simp [World.shape?, h]
theorem wpList_append_run {P : Program} {w : World} {ops : Array Oper} {rest : List Oper} {o : Oper} {a : Act} {Q : Exit → Act → World → Prop} (hgd : o.guard = none) (d s : Operand) (t t' : TypeId)
    (ho : o.op = .call { callee := .builtin .append, args := #[d, s], argTypes := #[t, t'] }) (v u : Value) (hd : a.eval d = v) (hs : a.eval s = u) {v' : Value} {w' : World}
    (hr : (Builtin.append_ #[t, t'] o.type #[v, u]).run P w = .ok v' w') (h : wpList P ops Q rest (a.put o.dst v') w') : wpList P ops Q (o :: rest) a w :=
  wpList_plain hgd fun K hK => by
    unfold Oper.wp execOp
    simp only [ho, resolve, invoke, builtin, Sem.run_bind, Sem.run_pure, Result.andThen_ok, List.map_toArray, List.map_cons, List.map_nil, hd, hs, hr]
    exact hK _ _ h

theorem splice_shift {cur xs nw : List Value} {a s : Nat} (htake : cur.take xs.length = xs) (ha : a ≤ xs.length) (hs : nw.length = s) (hcl : xs.length + s ≤ cur.length) {L1 : List Value} (h1 : L1 = cur.take (a + s) ++ xs.drop a ++ cur.drop (a + s + (xs.drop a).length)) :
    (L1.take a ++ nw ++ L1.drop (a + s)).take (xs.length + s) = xs.take a ++ nw ++ xs.drop a ∧ (L1.take a ++ nw ++ L1.drop (a + s)).length = cur.length := by
  have hdl : (xs.drop a).length = xs.length - a := List.length_drop
  have hl1 : L1.length = cur.length := by rw [h1]; simp only [List.length_append, List.length_take, List.length_drop]; omega
  have ht : L1.take a = xs.take a := by
    rw [h1, List.append_assoc, List.take_append_of_le_length (by rw [List.length_take]; omega), List.take_take, Nat.min_eq_left (by omega), ← htake, List.take_take, Nat.min_eq_left (by omega)]
  have hd : L1.drop (a + s) = xs.drop a ++ cur.drop (a + s + (xs.drop a).length) := by
    rw [h1, List.append_assoc, List.drop_append_of_le_length (by rw [List.length_take]; omega), List.drop_eq_nil_of_le (by rw [List.length_take]; omega), List.nil_append]
  constructor
  · rw [ht, hd, ← List.append_assoc, List.take_append_of_le_length (by simp only [List.length_append, List.length_take, List.length_drop]; omega), List.take_of_length_le (by simp only [List.length_append, List.length_take, List.length_drop]; omega)]
  · simp only [List.length_append, List.length_take, List.length_drop, hl1]; omega
theorem splice_grow {L0 xs nw : List Value} {a s : Nat} (htake : L0.take a = xs.take a) (ha : a ≤ xs.length) (hs : nw.length = s) (hcl : xs.length + s ≤ L0.length) {L1 : List Value} (h1 : L1 = L0.take a ++ nw ++ L0.drop (a + nw.length)) :
    (L1.take (a + s) ++ xs.drop a ++ L1.drop (a + s + (xs.drop a).length)).take (xs.length + s) = xs.take a ++ nw ++ xs.drop a ∧ (L1.take (a + s) ++ xs.drop a ++ L1.drop (a + s + (xs.drop a).length)).length = L0.length := by
  have hdl : (xs.drop a).length = xs.length - a := List.length_drop
  have hl1 : L1.length = L0.length := by rw [h1]; simp only [List.length_append, List.length_take, List.length_drop]; omega
  have ht : L1.take (a + s) = xs.take a ++ nw := by
    rw [h1, htake, List.take_append_of_le_length (by simp only [List.length_append, List.length_take]; omega), List.take_of_length_le (by simp only [List.length_append, List.length_take]; omega)]
  constructor
  · rw [ht, List.take_append_of_le_length (by simp only [List.length_append, List.length_take, List.length_drop]; omega), List.take_of_length_le (by simp only [List.length_append, List.length_take, List.length_drop]; omega)]
  · simp only [List.length_append, List.length_take, List.length_drop, hl1]; omega
theorem setRow_grown {w w' : World} {g : Nat} {row : Option Nat} (h : w.grownBy w' row) (hg : w.heap.size ≤ g ∨ row = some g) (cs : Array Value) : w.grownBy (w'.setRow g cs) row :=
  ⟨h.os, h.tape, h.output, by show w.heap.size ≤ (w'.heap.modify g _).size; rw [Array.size_modify]; exact h.size, fun k hk hne => by
    refine Eq.trans ?_ (h.block k hk hne)
    have e : g ≠ k := by
      rcases hg with hg | hg
      · omega
      · rintro rfl; exact hne hg.symm
    simp [World.setRow, Array.getElem?_modify, e]⟩
theorem drew_grown {w w' : World} {row : Option Nat} (h : w.grownBy w' row) : w.grownBy w'.drew row := ⟨h.os, h.tape, h.output, h.size, h.block⟩
theorem refl_grown (w : World) (row : Option Nat) : w.grownBy w row := ⟨rfl, rfl, rfl, Nat.le_refl _, fun _ _ _ => rfl⟩
/-- What slices.Insert leaves: a slice of the call's own, one longer. -/
def InsOk (w : World) (base : Nat) (e : TypeId) (size : Nat) (A : Option Addr) (n c : Nat) (cells : List Value) (en : Ending) (w' : World) : Prop :=
  ∃ A' c', en = .returned (.slice A' (n + 1) c') ∧ w'.ownsRow base e size (.slice A' (n + 1) c') (n + 1) cells ∧ w.grownBy w' (Value.slice A n c).ownBlock ∧ ((Value.slice A' (n + 1) c').ownBlock = (Value.slice A n c).ownBlock ∨ (Value.slice A' (n + 1) c').ownBlock = some w.heap.size)
end Go.Proofs.Ytniomgngiiiklab

/- The walk of slices.Clone at writes. -/
namespace Go.Proofs.Ytniomgngiiiklab
open Go.RowKit

theorem info_write : (Try.prog.info? 76).map (fun i => (i.zero, i.size, i.bytes)) = some (some (.agg #[.string ⟨#[]⟩, .string ⟨#[]⟩]), 2, 32) := by kernel_rfl

set_option maxHeartbeats 400000 in
theorem cloneW_some (ad : Addr) (n c : Nat) (rs : List MWrite) (w : World) (h : WritesOk w w.heap.size (some ad) n c rs) :
    Calls Try.prog 49 #[.slice (some ad) n c] w fun e w' => ∃ A' c', e = .returned (.slice A' n c') ∧ w'.ownsRow w.heap.size 76 2 (.slice A' n c') n (writeCells rs) ∧ Below w.heap.size w w' := by
  obtain ⟨i0, hi0, hz0, hz1, hz2⟩ := info_parts info_write
  have hnil := fun W : World => Lib.run_eql_slice_nil (P := Try.prog) W
  go_enter Try.func49, Try.ntmps49
  have hs := h.small
  have hle := h.le
  have HC := Lib.hid h.at_.cells
  have Hl : Hid ((writeCells rs).length = n * 2) := by show _ = _; rw [writeCells_length, h.at_.1]
  clear h
  go_wp2_with (at_builtin; refine wpList_append_own _ rfl _ _ 56 rfl w.heap.size 76 i0 _ 2 32 Try.underlying56 hi0 hz0 hz1 hz2 rfl (by decide) _ 0 [] rfl (World.ownsRow_made w #[] 0 (Nat.le_refl _) (by decide) rfl) ad n c (writeCells rs) rfl ?c0 ?c1 ?c2 ?c3 ?c4 ?c5 ?_)
  case c0 => exact Hl.out
  case c1 =>
    intro j u hu
    have := HC.out j u hu
    exact (World.cell?_alloc_lt _ _ _ (World.block_lt_of_cell? _ _ this)).trans this
  case c2 => exact writeCells_one
  case c3 => unfold maxLen; omega
  case c4 => omega
  case c5 => simp
  intro v' w' hown hg _
  have hv : ∃ A' c', v' = .slice A' n c' := by
    rcases hown.2 with ⟨rfl, h0⟩ | ⟨g, cap, cur, rfl, _⟩
    · exact ⟨none, 0, by rw [show n = 0 from by omega]⟩
    · exact ⟨_, cap, rfl⟩
  obtain ⟨A', c', rfl⟩ := hv
  have hb : Below w.heap.size w w' := ((Below.refl _ _).alloc (Nat.le_refl _) _).grown hg (by simp) (by intro k hk; simp [Value.ownBlock] at hk; omega)
  clear Hl HC
  go_wp2
  go_ret
  exact ⟨A', c', rfl, hown, hb⟩

theorem cloneW_any (A : Option Addr) (n c : Nat) (rs : List MWrite) (w : World) (h : WritesOk w w.heap.size A n c rs) :
    Calls Try.prog 49 #[.slice A n c] w fun e w' => ∃ A' c', e = .returned (.slice A' n c') ∧ w'.ownsRow w.heap.size 76 2 (.slice A' n c') n (writeCells rs) ∧ Below w.heap.size w w' := by
  cases A with
  | some ad => exact cloneW_some ad n c rs w h
  | none =>
    have hn : n = 0 := by
      have h1 := h.at_.1
      match rs, h1 with
      | [], h1 => simpa using h1.symm
      | r :: rs, _ => obtain ⟨b, off, e, _⟩ := h.at_.2 0 r rfl; cases e
    subst hn
    have hrs : rs = [] := List.eq_nil_of_length_eq_zero h.at_.1
    subst hrs
    have hc := h.nil rfl
    subst hc
    clear h
    have hnil := fun W : World => Lib.run_eql_slice_nil (P := Try.prog) W
    go_enter Try.func49, Try.ntmps49
    go_wp2
    go_ret
    exact ⟨none, 0, rfl, World.ownsRow_nil _ _ _ _, Below.refl _ _⟩

end Go.Proofs.Ytniomgngiiiklab

/- The walk of txn.Copy: the same world, in memory of its own. -/
namespace Go.Proofs.Ytniomgngiiiklab
open Go.RowKit

theorem info_row : (Try.prog.info? 26).map (fun i => (i.zero, i.size, i.bytes)) = some (some (.agg #[.string ⟨#[]⟩, .int .i64 0, .string ⟨#[]⟩, .string ⟨#[]⟩, .slice none 0 0]), 5, 80) := by kernel_rfl
theorem info_client : (Try.prog.info? 58).map (fun i => (i.zero, i.size, i.bytes)) = some (some (.agg #[.int .i64 0, .int .i64 0, .int .i64 0, .slice none 0 0, .int .i64 0]), 5, 56) := by kernel_rfl
/-- The cells of a block of five, to be appended. -/
theorem news5 {w : World} {g : Nat} {t : TypeId} {a b c d e : Value} (h : w.heap[g]? = some (.cells #[a, b, c, d, e] t (0, 0))) : ∀ j u, [a, b, c, d, e][j]? = some u → w.cell? ((⟨g, 0, none⟩ : Addr).add j) = some u := by
  intro j u hu
  rw [addr_add, (blk_read h).1]
  simpa using hu
theorem take_snoc {α : Type} {l : List α} {k : Nat} {x : α} (h : l[k]? = some x) : l.take (k + 1) = l.take k ++ [x] := by
  obtain ⟨hk, rfl⟩ := List.getElem?_eq_some_iff.1 h
  rw [List.take_succ_eq_append_getElem hk]

set_option maxRecDepth 100000 in
set_option maxHeartbeats 8000000 in
theorem txnCopy_any (M : MWorld) (A A' : Option Addr) (n c n' c' : Nat) (w : World) (hr : RowsOk w w.heap.size A n c M.rows) (hc : ClientsOk w w.heap.size A' n' c' M.clients) :
    Calls Try.prog 22 #[.agg #[.slice A n c, .int .i64 M.clock, .slice A' n' c']] w
      fun e w' => ∃ B d hs B' d' hs', e = .returned (.agg #[.slice B n d, .int .i64 M.clock, .slice B' n' d']) ∧ OwnRows w' w.heap.size B n d M.rows hs ∧ OwnClients w' w.heap.size B' n' d' M.clients hs' ∧ Below w.heap.size w w' := by
  obtain ⟨i0, hi0, hz0, hz1, hz2⟩ := info_parts info_row
  obtain ⟨j0, hj0, hy0, hy1, hy2⟩ := info_parts info_client
  have HR := Lib.hid hr
  have HC := Lib.hid hc
  have hsm := hr.small
  have hsm' := hc.small
  have Hn := Lib.hid hr.len
  have Hn' := Lib.hid hc.len
  clear hr hc
  go_enter Try.func22, Try.ntmps22
  go_wp2_with fail
  go_loopw [14] (fun i wr => (∃ k : Nat, k ≤ n ∧ i = .int .i64 k ∧ ∃ A1 c1 hs, OwnRows wr (w.heap.size + 1 + 1 + 1) A1 k c1 (M.rows.take k) hs ∧
      wr.heap[w.heap.size + 1 + 1]? = some (.cells #[.slice A1 k c1, .int .i64 M.clock, .slice none 0 0] 36 (0, 0))) ∧ Below w.heap.size w wr ∧ wr.heap[w.heap.size]? = some (.cells #[.slice A n c, .int .i64 M.clock, .slice A' n' c'] 36 (0, 0)) ∧
    wr.heap[w.heap.size + 1]? = some (.cells #[.slice none 0 0, .int .i64 0, .slice none 0 0] 36 (0, 0))) (fun i _ => n - (intOf i).toNat)
  case atStart =>
    obtain ⟨h1, h2, h3, h4⟩ := blk_new3 w (a := #[.slice A n c, .int .i64 M.clock, .slice A' n' c']) (b := #[.slice none 0 0, .int .i64 0, .slice none 0 0]) (c := #[.slice none 0 0, .int .i64 M.clock, .slice none 0 0]) (ta := 36) (tb := 36) (tc := 36)
    exact ⟨⟨0, Nat.zero_le _, rfl, none, 0, [], OwnRows.nil _ _, h4⟩, h1, h2, h3⟩
  case round =>
    obtain ⟨⟨k, hk, rfl, A1, c1, hs, hown, hb2⟩, hbel, hb0, hb1⟩ := hrel
    have HL := Lib.hid hbel
    have HO := Lib.hid hown
    have HB0 := Lib.hid hb0
    have HB1 := Lib.hid hb1
    have HB2 := Lib.hid hb2
    clear hbel hown hb0 hb1 hb2
    try clear hc0 hf0
    obtain ⟨hc0, hf0⟩ := blk_read HB0.out
    try clear hc1 hf1
    obtain ⟨hc1, hf1⟩ := blk_read HB1.out
    try clear hc2 hf2
    obtain ⟨hc2, hf2⟩ := blk_read HB2.out
    by_cases hlt : k < n
    · obtain ⟨r, b, off, A2, n2, c2, hr, rfl, hbb, hok, g0, g1, g2, g3, g4⟩ := (HR.out.below HL.out (Nat.le_refl _)).row hlt
      have hn2 := hok.recs.at_.1
      subst hn2
      have HRow := Lib.hid hr
      have HOK := Lib.hid hok
      clear hr hok
      have hzw := HL.out.size
      have hzB2 := blk_lt HB2.out
      have hA2 := fun (o : Obj) (i : Nat) => (World.cell?_alloc_past (w := wr) o (w.heap.size + 1 + 1) i hzB2).trans (hc2 i)
      go_wp2_with fail
      go_region_law (first | (refine step_append_own (by rfl) _ _ _ (by rfl) (w.heap.size + 1 + 1 + 1) 26 i0 _ 5 80 Try.underlying33 hi0 hz0 hz1 hz2 rfl (by omega) (.slice A1 k c1) k (rowsCells (M.rows.take k) hs) (by rfl) (own_at HO.out.2.2.1 (fun g hg => (Below.heap_alloc _ _ g (Nat.lt_of_lt_of_le hg hsz1)).trans (HKo g hg))) ⟨w1.heap.size, 0, none⟩ 1 1 (rowCells r A3 r.recs.length c3) (by rfl) (by rfl) (news5 (by exact blk_new_at _ _ _ rfl)) rowCells_one (by unfold maxLen; omega) (by omega) (by simp; omega) ?_; intro A4 c4 w3 hown3 hg; obtain ⟨hc2', hf2'⟩ := blk_read (blk_grown (blk_old ((HKo _ hzB2).trans HB2.out) _) hg (own_old_ne HO.out.2.2.1 (by omega)))) | (go_simp; go_at_call 17; refine (rowCopy_any r A2 r.recs.length c2 _ (by exact HOK.out.keepAt (fun g hg => Below.heap_alloc _ _ g (Nat.lt_of_lt_of_le hg hzw)) (by simp; omega))).mono ?_; rintro e w1 ⟨A3, c3, rfl, hown1, hb1⟩; have HKo : ∀ g, g < wr.heap.size → w1.heap[g]? = wr.heap[g]? := fun g hg => (hb1.block g (by simp; omega)).trans (Below.heap_alloc _ _ g hg); have hsz1 : wr.heap.size ≤ w1.heap.size := (by have := hb1.size; simp at this; omega); have hA2' := fun (i : Nat) => (World.cell?_of_block (a := ⟨w.heap.size + 1 + 1, i, none⟩) (HKo _ hzB2)).trans (hc2 i); have hA2'' := fun (o : Obj) (i : Nat) => (World.cell?_alloc_past (w := w1) o (w.heap.size + 1 + 1) i (by omega)).trans (hA2' i)))
      all_goals
        go_wp2
        go_roundw
        case rel =>
          have hB2' := blk_grown (blk_old ((HKo _ hzB2).trans HB2.out) _) hg (own_old_ne HO.out.2.2.1 (by omega))
          have hB0' := blk_grown (blk_old ((HKo _ (blk_lt HB0.out)).trans HB0.out) _) hg (own_old_ne HO.out.2.2.1 (by omega))
          have hB1' := blk_grown (blk_old ((HKo _ (blk_lt HB1.out)).trans HB1.out) _) hg (own_old_ne HO.out.2.2.1 (by omega))
          have hL1 : Below w.heap.size w w1 := ((HL.out.alloc hzw _).drew).trans (hb1.mono (by simp; omega))
          have hL3 := (hL1.alloc (by omega) _).grown hg (by simp; omega) (fun j hj => by have := own_base HO.out.2.2.1 j hj; omega)
          have hW := HO.out.typed (w' := w1.alloc (.cells #[.string r.key, .int .i64 r.ls, .string r.lp, .string r.value, .slice A3 r.recs.length c3] 26)) (fun g cs t _ hg' _ => (Below.heap_alloc _ _ g (Nat.lt_of_lt_of_le (blk_lt hg') hsz1)).trans (HKo g (blk_lt hg')))
          have hrec := own_at (w' := w1.alloc (.cells #[.string r.key, .int .i64 r.ls, .string r.lp, .string r.value, .slice A3 r.recs.length c3] 26)) (own_more (base' := (w.heap.size + 1 + 1 + 1)) hown1 (by simp; omega)) (fun g hg' => Below.heap_alloc _ _ g hg')
          refine ⟨⟨k + 1, by omega, by go_num, A4, c4, hs ++ [(A3, c3)], ?_, by simpa using blk_set hB2' 0 _⟩, hL3.setCell (p := ⟨w.heap.size + 1 + 1, 0, none⟩) (by simp; omega) _, blk_far hB0' (by simp; omega) _, blk_far hB1' (by simp) _⟩
          rw [take_snoc HRow.out]
          exact (hW.add hrec hg hown3).set hB2' ⟨by decide, by decide⟩ _
        case measure => simp [intOf]; omega
    · obtain rfl : k = n := by omega
      have hall : M.rows.take k = M.rows := List.take_of_length_le (by rw [Hn.out]; exact Nat.le_refl _)
      rw [hall] at HO
      clear hall hlt hk
      go_wp2_with fail
      obtain ⟨wo, rfl⟩ : ∃ wo : World, wo = wr := ⟨_, rfl⟩
      go_loopw [29] (fun i wr => (∃ j : Nat, j ≤ n' ∧ i = .int .i64 j ∧ ∃ D1 d1 hs', OwnRows wr (w.heap.size + 1 + 1 + 1) A1 k c1 M.rows hs ∧ OwnClients wr (w.heap.size + 1 + 1 + 1) D1 j d1 (M.clients.take j) hs' ∧
          wr.heap[w.heap.size + 1 + 1]? = some (.cells #[.slice A1 k c1, .int .i64 M.clock, .slice D1 j d1] 36 (0, 0))) ∧ Below w.heap.size w wr ∧ wr.heap[w.heap.size]? = some (.cells #[.slice A k c, .int .i64 M.clock, .slice A' n' c'] 36 (0, 0)) ∧
        wr.heap[w.heap.size + 1]? = some (.cells #[.slice none 0 0, .int .i64 0, .slice none 0 0] 36 (0, 0))) (fun i _ => n' - (intOf i).toNat)
      case atStart => exact ⟨⟨0, Nat.zero_le _, rfl, none, 0, [], HO.out, OwnClients.nil _ _, HB2.out⟩, HL.out, HB0.out, HB1.out⟩
      case round =>
        clear HL HO HB0 HB1 HB2
        try clear hc0 hf0 hc1 hf1 hc2 hf2
        obtain ⟨⟨j, hj, rfl, D1, d1, hs', hownR, hown, hb2⟩, hbel, hb0, hb1⟩ := hrel
        have HL := Lib.hid hbel
        have HOR := Lib.hid hownR
        have HO := Lib.hid hown
        have HB0 := Lib.hid hb0
        have HB1 := Lib.hid hb1
        have HB2 := Lib.hid hb2
        clear hbel hown hownR hb0 hb1 hb2
        try clear hc0 hf0
        obtain ⟨hc0, hf0⟩ := blk_read HB0.out
        try clear hc1 hf1
        obtain ⟨hc1, hf1⟩ := blk_read HB1.out
        try clear hc2 hf2
        obtain ⟨hc2, hf2⟩ := blk_read HB2.out
        have hzw := HL.out.size
        have hzB2 := blk_lt HB2.out
        by_cases hlt : j < n'
        · obtain ⟨x, b, off, A2, n2, c2, hx, rfl, hbb, hok, g0, g1, g2, g3, g4⟩ := (HC.out.below HL.out (Nat.le_refl _)).client hlt
          have hn2 := hok.writes.at_.1
          subst hn2
          have HX := Lib.hid hx
          have HOK := Lib.hid hok.writes
          clear hx hok
          go_wp2_with fail
          refine (cloneW_any A2 x.writes.length c2 x.writes _ (by exact HOK.out.keepAt (fun g hg => Below.heap_alloc _ _ g (Nat.lt_of_lt_of_le hg hzw)) (by simp; omega))).mono ?_
          rintro e w1 ⟨A3, c3, rfl, hown1, hb1⟩
          have HKo : ∀ g, g < wr.heap.size → w1.heap[g]? = wr.heap[g]? := fun g hg => (hb1.block g (by simp; omega)).trans (Below.heap_alloc _ _ g hg)
          have hsz1 : wr.heap.size < w1.heap.size := by have := hb1.size; simp at this; omega
          have HB7 := Lib.hid (blk_keep hb1 (blk_new wr _ _) (by simp))
          have HL1 := Lib.hid ((HL.out.alloc hzw (.cells #[.int .i64 x.phase, .int .i64 x.start, .int .i64 x.commit, .slice A2 x.writes.length c2, .int .i64 x.at_] 58)).trans (hb1.mono (by simp; omega)))
          have HW1 := Lib.hid hown1
          have HK := Lib.hid HKo
          clear hb1 hown1 HKo hc0 hf0 hc1 hf1 hc2 hf2
          obtain ⟨hc2, hf2⟩ := blk_read ((HK.out _ hzB2).trans HB2.out)
          obtain ⟨hc7, hf7⟩ := blk_read HB7.out
          go_wp2_with (at_builtin; refine wpList_append_own _ rfl _ _ 34 rfl (w.heap.size + 1 + 1 + 1) 58 j0 _ 5 56 Try.underlying34 hj0 hy0 hy1 hy2 rfl (by decide) (.slice D1 j d1) j (clientsCells (M.clients.take j) hs') rfl (own_at HO.out.2.2.1 (fun g hg => (Below.heap_alloc _ _ g (by simp; omega)).trans ((Below.heap_setCell _ _ _ g (by simp; omega)).trans (HK.out g hg)))) ⟨w1.heap.size, 0, none⟩ 1 1 (clientCells x A3 x.writes.length c3) rfl rfl ?c1 ?c2 ?c3 ?c4 ?c5 ?_)
          case c1 => exact news5 (by exact blk_new_at _ _ _ (by simp))
          case c2 => exact clientCells_one
          case c3 => unfold maxLen; omega
          case c4 => omega
          case c5 => simp; omega
          intro v' w3 hown3 hg _
          obtain ⟨A4, c4, hv⟩ := own_slice hown3
          rw [hv] at hown3 ⊢
          have hB2' := Lib.hid (blk_grown (blk_old (blk_far ((HK.out _ hzB2).trans HB2.out) (by simp; omega) _) _) hg (own_old_ne HO.out.2.2.1 (by omega)))
          have hB0' := Lib.hid (blk_grown (blk_old (blk_far ((HK.out _ (blk_lt HB0.out)).trans HB0.out) (by have := blk_lt HB0.out; simp; omega) _) _) hg (own_old_ne HO.out.2.2.1 (by omega)))
          have hB1' := Lib.hid (blk_grown (blk_old (blk_far ((HK.out _ (blk_lt HB1.out)).trans HB1.out) (by have := blk_lt HB1.out; simp; omega) _) _) hg (own_old_ne HO.out.2.2.1 (by omega)))
          have hL3 := Lib.hid (((HL1.out.setCell (p := ⟨wr.heap.size, 3, none⟩) hzw _).alloc (by simp; omega) _).grown hg (by simp; omega) (fun jj hj => by have := own_base HO.out.2.2.1 jj hj; omega))
          have hKw3 : ∀ g, g < wr.heap.size → some g ≠ (Value.slice D1 j d1).ownBlock → w3.heap[g]? = wr.heap[g]? := fun g hg' hne => (hg.block g (by simp; omega) hne).trans ((Below.heap_alloc _ _ g (by simp; omega)).trans ((Below.heap_setCell _ _ _ g (by simp; omega)).trans (HK.out g hg')))
          have hR3 := Lib.hid (HOR.out.typed (w' := w3) (fun g cs t _ hg' ht => hKw3 g (blk_lt hg') (own_ne HO.out.2.2.1 hg' (by rcases ht with rfl | rfl <;> decide))))
          have hCW := HO.out.typed (w' := (w1.setCell ⟨wr.heap.size, 3, none⟩ (.slice A3 x.writes.length c3)).alloc (.cells #[.int .i64 x.phase, .int .i64 x.start, .int .i64 x.commit, .slice A3 x.writes.length c3, .int .i64 x.at_] 58)) (fun g cs t _ hg' _ => (Below.heap_alloc _ _ g (by have := blk_lt hg'; simp; omega)).trans ((Below.heap_setCell _ _ _ g (by have := blk_lt hg'; simp; omega)).trans (HK.out g (blk_lt hg'))))
          have hrec := own_at (w' := (w1.setCell ⟨wr.heap.size, 3, none⟩ (.slice A3 x.writes.length c3)).alloc (.cells #[.int .i64 x.phase, .int .i64 x.start, .int .i64 x.commit, .slice A3 x.writes.length c3, .int .i64 x.at_] 58)) (own_far (i := 3) HW1.out (own_ne HW1.out HB7.out (by decide)) (.slice A3 x.writes.length c3)) (fun g hg' => Below.heap_alloc _ _ g hg')
          have hdist : ∀ g ∈ hs', (Value.slice g.1 0 0).ownBlock ≠ none → (Value.slice g.1 0 0).ownBlock ≠ (Value.slice A3 0 0).ownBlock := fun g hg' hn e => by
            cases hb : (Value.slice g.1 0 0).ownBlock with
            | none => exact hn hb
            | some bb =>
              have h1 := (HO.out.heads_lt g hg' bb hb).2
              rw [hb] at e
              rw [ownBlock_any' A3 0 0 x.writes.length c3] at e
              have h2 := own_base HW1.out bb e.symm
              simp at h2; omega
          have hC3 := Lib.hid (hCW.add (own_more (base' := (w.heap.size + 1 + 1 + 1)) hrec (by simp; omega)) hdist hg hown3)
          clear hg hown3 hKw3 hCW hrec hdist hv hc2 hf2 hc7 hf7
          obtain ⟨hc2, hf2⟩ := blk_read hB2'.out
          have hz3 := blk_lt hB2'.out
          go_wp2_with fail
          go_roundw
          case rel =>
            refine ⟨⟨j + 1, by omega, by go_num, A4, c4, hs' ++ [(A3, c3)], hR3.out.set hB2'.out ⟨by decide, by decide⟩ _, ?_, by simpa using blk_set hB2'.out 2 _⟩, hL3.out.setCell (p := ⟨w.heap.size + 1 + 1, 2, none⟩) (by simp; omega) _, blk_far hB0'.out (by simp; omega) _, blk_far hB1'.out (by simp) _⟩
            rw [take_snoc HX.out]
            exact hC3.out.set hB2'.out ⟨by decide, by decide⟩ _
          case measure => simp [intOf]; omega
        · obtain rfl : j = n' := by omega
          have hall : M.clients.take j = M.clients := List.take_of_length_le (by rw [Hn'.out]; exact Nat.le_refl _)
          rw [hall] at HO
          clear hall hlt hj
          have hzB1 := blk_lt HB1.out
          go_wp2_with fail
          refine bodyPost_ret (v := .agg #[.slice A1 k c1, .int .i64 M.clock, .slice D1 j d1]) (by simp [results, Try.results22, go_sem, hc1]) rfl ⟨A1, c1, hs, D1, d1, hs', rfl, ?_, ?_, ?_⟩
          · exact (((HOR.out.set HB1.out ⟨by decide, by decide⟩ _).set (blk_set HB1.out 0 _) ⟨by decide, by decide⟩ _).set (blk_set (blk_set HB1.out 0 _) 1 _) ⟨by decide, by decide⟩ _).more (by omega)
          · exact (((HO.out.set HB1.out ⟨by decide, by decide⟩ _).set (blk_set HB1.out 0 _) ⟨by decide, by decide⟩ _).set (blk_set (blk_set HB1.out 0 _) 1 _) ⟨by decide, by decide⟩ _).more (by omega)
          · exact ((HL.out.setCell (p := ⟨w.heap.size + 1, 0, none⟩) (by simp) _).setCell (p := ⟨w.heap.size + 1, 1, none⟩) (by simp) _).setCell (p := ⟨w.heap.size + 1, 2, none⟩) (by simp) _
end Go.Proofs.Ytniomgngiiiklab

/- The walk of the reference's RowCopy: the same row, its records in new memory. -/
namespace Go.Proofs.Ytniomgngiiiklab
open Go.RowKit

set_option maxRecDepth 100000 in
set_option maxHeartbeats 3200000 in
theorem refCopy_any (r : MRow) (A : Option Addr) (n c : Nat) (w : World) (h : RowOk w w.heap.size r A n c) :
    Calls Try.prog 6 #[.agg #[.string r.key, .int .i64 r.ls, .string r.lp, .string r.value, .slice A n c]] w
      fun e w' => ∃ A' c', e = .returned (.agg #[.string r.key, .int .i64 r.ls, .string r.lp, .string r.value, .slice A' n c']) ∧ w'.ownsRow w.heap.size 55 3 (.slice A' n c') n (recCells r.recs) ∧ Below w.heap.size w w' := by
  obtain ⟨i0, hi0, hz0, hz1, hz2⟩ := info_parts info_rec
  have HR := Lib.hid h.recs
  have hsm := h.recs.small
  clear h
  cases A with
  | none =>
    have hn : n = 0 := by
      have h1 := HR.out.at_.1
      match hrs : r.recs, h1 with
      | [], h1 => simpa using h1.symm
      | x :: rs, _ => obtain ⟨b, off, e, _⟩ := HR.out.at_.2 0 x (by rw [hrs]; rfl); cases e
    have Hn := Lib.hid hn
    clear hn
    go_enter Try.func6, Try.ntmps6
    go_wp2_with fail
    go_region_held3 (fun w' => w'.cell? ⟨w.heap.size, 0, none⟩ = some (.string r.key) ∧ w'.cell? ⟨w.heap.size, 1, none⟩ = some (.int .i64 r.ls) ∧ w'.cell? ⟨w.heap.size, 2, none⟩ = some (.string r.lp) ∧ w'.cell? ⟨w.heap.size, 3, none⟩ = some (.string r.value) ∧ w'.cell? ⟨w.heap.size, 4, none⟩ = some (.slice none n c))
      (go_keep)
      ((refine step_append_nils (by rfl) _ _ _ (by rfl) 55 i0 Try.underlying24 hi0 n c Hn.out (by rfl) (by rfl) ?_))
    go_wp2
    refine bodyPost_ret (v := .agg #[.string r.key, .int .i64 r.ls, .string r.lp, .string r.value, .slice none 0 0]) (by simp [results, Try.results6, go_sem]) rfl ⟨none, 0, by rw [Hn.out], ?_, ?_⟩
    · rw [Hn.out, List.eq_nil_of_length_eq_zero (HR.out.at_.1.trans Hn.out)]
      exact World.ownsRow_nil _ _ _ _
    · exact (((Below.refl _ _).alloc (Nat.le_refl _) _).alloc (by simp) _).drew
  | some ad =>
    have Hl : Hid ((recCells r.recs).length = n * 3) := by show _ = _; rw [recCells_length, HR.out.at_.1]
    have HC : Hid (∀ (W : World), Below w.heap.size w W → ∀ j u, (recCells r.recs)[j]? = some u → W.cell? (ad.add j) = some u) := fun W hW => (HR.out.at_.below hW (Nat.le_refl _)).cells
    go_enter Try.func6, Try.ntmps6
    go_wp2_with fail
    go_region_held3 (fun w' => w'.cell? ⟨w.heap.size, 0, none⟩ = some (.string r.key) ∧ w'.cell? ⟨w.heap.size, 1, none⟩ = some (.int .i64 r.ls) ∧ w'.cell? ⟨w.heap.size, 2, none⟩ = some (.string r.lp) ∧ w'.cell? ⟨w.heap.size, 3, none⟩ = some (.string r.value) ∧ w'.cell? ⟨w.heap.size, 4, none⟩ = some (.slice (some ad) n c))
      (first | go_keep | (go_split_ands; refine ⟨?_, ?_, ?_, ?_, ?_⟩ <;> ((rw [hg.cell_far _ (by first | (simp; done) | (simp; omega)) (by simp [Value.ownBlock])]; simp))))
      ((refine step_append_own (by rfl) _ _ _ (by rfl) w.heap.size 55 i0 _ 3 32 Try.underlying24 hi0 hz0 hz1 hz2 rfl (by omega) (.slice none 0 0) 0 [] (by rfl) (World.ownsRow_nil _ _ _ _) ad n c (recCells r.recs) (by rfl) Hl.out (HC.out _ (((((Below.refl w.heap.size w).alloc (Nat.le_refl _) _).alloc (by simp) _)).drew)) recCells_one (by unfold maxLen; omega) (by omega) (by simp; omega) ?_; intro A' c' w1 hown hg; obtain ⟨hc1, hf1⟩ := blk_read (blk_grown (g := w.heap.size + 1) (t := 26) (cs := #[.string ⟨#[]⟩, .int .i64 0, .string ⟨#[]⟩, .string ⟨#[]⟩, .slice none 0 0]) (by exact blk_new_at (w.alloc _) _ _ (by simp)) hg (by simp [Value.ownBlock]))))
    go_wp2
    have hb : Below w.heap.size w w1 := ((((Below.refl w.heap.size w).alloc (Nat.le_refl _) _).alloc (by simp) _).drew).grown hg (by simp; omega) (by intro k hk; simp [Value.ownBlock] at hk)
    refine bodyPost_ret (v := .agg #[.string r.key, .int .i64 r.ls, .string r.lp, .string r.value, .slice A' n c']) (by simp [results, Try.results6, go_sem, hc1]) rfl ⟨A', c', rfl, ?_, ?_⟩
    · have hB1 := blk_grown (g := w.heap.size + 1) (t := 26) (cs := #[.string ⟨#[]⟩, .int .i64 0, .string ⟨#[]⟩, .string ⟨#[]⟩, .slice none 0 0]) (by exact blk_new_at (w.alloc _) _ _ (by simp)) hg (by simp [Value.ownBlock])
      have hne := own_ne hown hB1 (by decide)
      simp only [Nat.zero_add, List.nil_append] at hown hne
      repeat (refine own_far ?_ ?_ _)
      all_goals first | exact hown | exact hne
    · repeat (refine Below.setCell ?_ (by first | (simp; done) | (simp; omega)) _)
      exact hb
end Go.Proofs.Ytniomgngiiiklab
