/- The walk of the reference's RowCopy: the same row, its records in new memory. -/
import Derived.Test.YtniomgngiiiklaaCopy
import Derived.Test.YtniomgngiiiklaaMem
import Derived.Deep.RegionHeld3
import Derived.Deep.AppendLies
import Derived.Deep.DrawnRows
namespace Go.Proofs.Ytniomgngiiiklaa
open Go.RowKit

theorem step_append_own {P : Program} {w : World} {ops : Array Oper} {o : Oper} {a : Act} {K : Act → World → Prop} {Q : Exit → Act → World → Prop} {E : Prop} (hgd : o.guard = none) (s x : Operand) (t : TypeId)
    (ho : o.op = .call { callee := .builtin .append, args := #[s, x], argTypes := #[t, t] })
    (base : Nat) (e : TypeId) (i : TypeInfo) (z : Value) (size bytes : Nat) (ht : P.underlying t = some (.slice e)) (hi : P.info? e = some i) (hz : i.zero = some z)
    (hsize : i.size = size) (hby : i.bytes = bytes) (hzs : z.cells.size = size) (hsz : 0 < size)
    (v : Value) (n : Nat) (xs : List Value) (hs : a.eval s = v) (hown : w.ownsRow base e size v n xs)
    (ad : Addr) (m c : Nat) (news : List Value) (hx : a.eval x = .slice (some ad) m c) (hl : news.length = m * size) (hnews : ∀ j u, news[j]? = some u → w.cell? (ad.add j) = some u) (h1 : ∀ u ∈ news, u.oneCell' = true)
    (h63 : n + m ≤ maxLen) (hbytes : (n + m) * bytes ≤ 140737488355328) (hbase : base ≤ w.heap.size)
    (h : ∀ A' c' w', w'.ownsRow base e size (.slice A' (n + m) c') (n + m) (xs ++ news) → w.grownBy w' v.ownBlock → K (a.put o.dst (.slice A' (n + m) c')) w') :
    if Region.wanted o (yielded ops a.tmps) = true then Oper.wp P o a w K Q else E := by
  have hw : Region.wanted o (yielded ops a.tmps) = true := by simp [Region.wanted, hgd]
  rw [if_pos hw]
  exact wp_append_own w s x t ho base e i z size bytes ht hi hz hsize hby hzs hsz v n xs hs hown ad m c news hx hl hnews h1 h63 hbytes hbase fun v' w' h2 h3 _ => by
    obtain ⟨A', c', rfl⟩ := own_slice h2
    exact h A' c' w' h2 h3

theorem run_append_nils {P : Program} (w : World) (t ty e : TypeId) (i : TypeInfo) (ht : P.underlying t = some (.slice e)) (hi : P.info? e = some i) (n c : Nat) (hn : n = 0) : (Builtin.append_ #[t, t] ty #[.slice none 0 0, .slice none n c]).run P w = .ok (.slice none 0 0) w := by
  subst hn
  simp [Builtin.append_, run_underlying ht, sizeOf, typeInfo, hi, Builtin.lenOf, Builtin.firstCells]

theorem step_append_nils {P : Program} {w : World} {ops : Array Oper} {o : Oper} {a : Act} {K : Act → World → Prop} {Q : Exit → Act → World → Prop} {E : Prop} (hgd : o.guard = none) (s x : Operand) (t : TypeId)
    (ho : o.op = .call { callee := .builtin .append, args := #[s, x], argTypes := #[t, t] })
    (e : TypeId) (i : TypeInfo) (ht : P.underlying t = some (.slice e)) (hi : P.info? e = some i) (n c : Nat) (hn : n = 0)
    (hs : a.eval s = .slice none 0 0) (hx : a.eval x = .slice none n c) (h : K (a.put o.dst (.slice none 0 0)) w) :
    if Region.wanted o (yielded ops a.tmps) = true then Oper.wp P o a w K Q else E := by
  have hw : Region.wanted o (yielded ops a.tmps) = true := by simp [Region.wanted, hgd]
  rw [if_pos hw]
  unfold Oper.wp execOp
  simp only [ho, resolve, invoke, builtin, Sem.run_bind, Sem.run_pure, Result.andThen_ok, List.map_toArray, List.map_cons, List.map_nil, hs, hx, run_append_nils (P := P) w t o.type e i ht hi n c hn]
  exact h

set_option maxRecDepth 100000 in
set_option maxHeartbeats 3200000 in
theorem refCopy_any (r : MRow) (A : Option Addr) (n c : Nat) (w : World) (h : RowOk w w.heap.size r A n c) :
    Calls Try.prog 27 #[.agg #[.string r.key, .int .i64 r.ls, .string r.lp, .string r.value, .slice A n c]] w
      fun e w' => ∃ A' c', e = .returned (.agg #[.string r.key, .int .i64 r.ls, .string r.lp, .string r.value, .slice A' n c']) ∧ w'.ownsRow w.heap.size 56 3 (.slice A' n c') n (recCells r.recs) ∧ Below w.heap.size w w' := by
  obtain ⟨i0, hi0, hz0, hz1, hz2⟩ := info_parts info_rec
  have HR := Lib.hid h.recs
  have hsm := h.recs.small
  clear h
  cases A with
  | none =>
    have hn : n = 0 := by
      have h1 := HR.out.at_.1
      match hrs : r.recs, h1 with
      | [], h1 => simpa using h1.symm
      | x :: rs, _ => obtain ⟨b, off, e, _⟩ := HR.out.at_.2 0 x (by rw [hrs]; rfl); cases e
    have Hn := Lib.hid hn
    clear hn
    go_enter Try.func27, Try.ntmps27
    go_wp2_with fail
    go_region_held3 (fun w' => w'.cell? ⟨w.heap.size, 0, none⟩ = some (.string r.key) ∧ w'.cell? ⟨w.heap.size, 1, none⟩ = some (.int .i64 r.ls) ∧ w'.cell? ⟨w.heap.size, 2, none⟩ = some (.string r.lp) ∧ w'.cell? ⟨w.heap.size, 3, none⟩ = some (.string r.value) ∧ w'.cell? ⟨w.heap.size, 4, none⟩ = some (.slice none n c))
      (go_keep)
      ((refine step_append_nils (by rfl) _ _ _ (by rfl) 56 i0 Try.underlying28 hi0 n c Hn.out (by rfl) (by rfl) ?_))
    go_wp2
    refine bodyPost_ret (v := .agg #[.string r.key, .int .i64 r.ls, .string r.lp, .string r.value, .slice none 0 0]) (by simp [results, Try.results27, go_sem]) rfl ⟨none, 0, by rw [Hn.out], ?_, ?_⟩
    · rw [Hn.out, List.eq_nil_of_length_eq_zero (HR.out.at_.1.trans Hn.out)]
      exact World.ownsRow_nil _ _ _ _
    · exact (((Below.refl _ _).alloc (Nat.le_refl _) _).alloc (by simp) _).drew
  | some ad =>
    have Hl : Hid ((recCells r.recs).length = n * 3) := by show _ = _; rw [recCells_length, HR.out.at_.1]
    have HC : Hid (∀ (W : World), Below w.heap.size w W → ∀ j u, (recCells r.recs)[j]? = some u → W.cell? (ad.add j) = some u) := fun W hW => (HR.out.at_.below hW (Nat.le_refl _)).cells
    go_enter Try.func27, Try.ntmps27
    go_wp2_with fail
    go_region_held3 (fun w' => w'.cell? ⟨w.heap.size, 0, none⟩ = some (.string r.key) ∧ w'.cell? ⟨w.heap.size, 1, none⟩ = some (.int .i64 r.ls) ∧ w'.cell? ⟨w.heap.size, 2, none⟩ = some (.string r.lp) ∧ w'.cell? ⟨w.heap.size, 3, none⟩ = some (.string r.value) ∧ w'.cell? ⟨w.heap.size, 4, none⟩ = some (.slice (some ad) n c))
      (first | go_keep | (go_split_ands; refine ⟨?_, ?_, ?_, ?_, ?_⟩ <;> ((rw [hg.cell_far _ (by first | (simp; done) | (simp; omega)) (by simp [Value.ownBlock])]; simp))))
      ((refine step_append_own (by rfl) _ _ _ (by rfl) w.heap.size 56 i0 _ 3 32 Try.underlying28 hi0 hz0 hz1 hz2 rfl (by omega) (.slice none 0 0) 0 [] (by rfl) (World.ownsRow_nil _ _ _ _) ad n c (recCells r.recs) (by rfl) Hl.out (HC.out _ (((((Below.refl w.heap.size w).alloc (Nat.le_refl _) _).alloc (by simp) _)).drew)) recCells_one (by unfold maxLen; omega) (by omega) (by simp; omega) ?_; intro A' c' w1 hown hg; obtain ⟨hc1, hf1⟩ := blk_read (blk_grown (g := w.heap.size + 1) (t := 30) (cs := #[.string ⟨#[]⟩, .int .i64 0, .string ⟨#[]⟩, .string ⟨#[]⟩, .slice none 0 0]) (by exact blk_new_at (w.alloc _) _ _ (by simp)) hg (by simp [Value.ownBlock]))))
    go_wp2
    have hb : Below w.heap.size w w1 := ((((Below.refl w.heap.size w).alloc (Nat.le_refl _) _).alloc (by simp) _).drew).grown hg (by simp; omega) (by intro k hk; simp [Value.ownBlock] at hk)
    refine bodyPost_ret (v := .agg #[.string r.key, .int .i64 r.ls, .string r.lp, .string r.value, .slice A' n c']) (by simp [results, Try.results27, go_sem, hc1]) rfl ⟨A', c', rfl, ?_, ?_⟩
    · have hB1 := blk_grown (g := w.heap.size + 1) (t := 30) (cs := #[.string ⟨#[]⟩, .int .i64 0, .string ⟨#[]⟩, .string ⟨#[]⟩, .slice none 0 0]) (by exact blk_new_at (w.alloc _) _ _ (by simp)) hg (by simp [Value.ownBlock])
      have hne := own_ne hown hB1 (by decide)
      simp only [Nat.zero_add, List.nil_append] at hown hne
      repeat (refine own_far ?_ ?_ _)
      all_goals first | exact hown | exact hne
    · repeat (refine Below.setCell ?_ (by first | (simp; done) | (simp; omega)) _)
      exact hb
end Go.Proofs.Ytniomgngiiiklaa
