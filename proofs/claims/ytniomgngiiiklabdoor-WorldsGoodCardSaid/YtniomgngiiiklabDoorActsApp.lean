/- Acts: the law of append at them, and the walk of slices.Clone at them. -/
import Derived.Test.YtniomgngiiiklabDoorActsW
namespace Go.Proofs.YtniomgngiiiklabDoor
open Go.RowKit

theorem actCells_append (l m : List MAct) : actCells (l ++ m) = actCells l ++ actCells m := by unfold actCells; rw [List.flatMap_append]
theorem actCells_length (l : List MAct) : (actCells l).length = l.length * 4 := flat_length (f := MAct.cells) (s := 4) (fun _ => rfl) l
theorem blk_news {w : World} {g : Nat} {t : TypeId} {xs : List Value} (h : w.heap[g]? = some (.cells xs.toArray t (0, 0))) : ∀ j u, xs[j]? = some u → w.cell? ((⟨g, 0, none⟩ : Addr).add j) = some u := by
  intro j u hu
  rw [addr_add, (blk_read h).1]
  simpa using hu
/-- THE STEP: append of acts that lie in a block of their own to acts that are one's own. -/
theorem wpList_append_acts (w : World) {ops : Array Oper} {rest : List Oper} {o : Oper} {a : Act} {Q : Exit → Act → World → Prop} (hgd : o.guard = none) (s x : Operand)
    (ho : o.op = .call { callee := .builtin .append, args := #[s, x], argTypes := #[40, 40] }) (base : Nat) (A : Option Addr) (c n : Nat) (l nl : List MAct) (hs : a.eval s = .slice A n c)
    (hown : w.ownsRow base 62 4 (.slice A n c) n (actCells l)) (g m : Nat) (hx : a.eval x = .slice (some ⟨g, 0, none⟩) m m) (hm : nl.length = m) (hg : w.heap[g]? = some (.cells (actCells nl).toArray 62 (0, 0)))
    (hn : n ≤ 500) (hm' : m ≤ 500) (hbase : base ≤ w.heap.size)
    (hK : ∀ (A' : Option Addr) (c' : Nat) (w' : World), w'.ownsRow base 62 4 (.slice A' (n + m) c') (n + m) (actCells (l ++ nl)) → w.grownBy w' (Value.slice A n c).ownBlock → wpList Tryd.prog ops Q rest (a.put o.dst (.slice A' (n + m) c')) w') :
    wpList Tryd.prog ops Q (o :: rest) a w := by
  obtain ⟨i0, hi0, hz0, hz1, hz2⟩ := info_parts info_act
  refine wpList_append_own w hgd s x 40 ho base 62 i0 _ 4 48 Tryd.underlying40 hi0 hz0 hz1 hz2 rfl (by decide) (.slice A n c) n (actCells l) hs hown ⟨g, 0, none⟩ m m (actCells nl) hx (by rw [actCells_length, hm]) (blk_news hg) actCells_one (by unfold maxLen; omega) (by omega) hbase ?_
  intro v' w' hown' hgr _
  obtain ⟨A', c', hv⟩ := own_slice hown'
  subst hv
  rw [← actCells_append] at hown'
  exact hK A' c' w' hown' hgr

set_option maxHeartbeats 400000 in
theorem cloneActs_any (A : Option Addr) (n c : Nat) (l : List MAct) (base : Nat) (w : World) (h : w.ownsRow base 62 4 (.slice A n c) n (actCells l)) (hn : n ≤ 500) :
    Calls Tryd.prog 27 #[.slice A n c] w fun e w' => ∃ A' c', e = .returned (.slice A' n c') ∧ w'.ownsRow w.heap.size 62 4 (.slice A' n c') n (actCells l) ∧ Below w.heap.size w w' := by
  have hnil := fun W : World => Lib.run_eql_slice_nil (P := Tryd.prog) W
  have hf := own_facts h
  cases A with
  | none =>
    have hc := hf.2 rfl
    have hn0 : n = 0 := by omega
    subst hc; subst hn0
    have hl : l = [] := by
      have := h.1
      rw [actCells_length] at this
      exact List.eq_nil_of_length_eq_zero (by omega)
    subst hl
    clear h hf hn
    go_enter Tryd.func27, Tryd.ntmps27
    go_wp2
    go_ret
    exact ⟨none, 0, rfl, World.ownsRow_nil _ _ _ _, Below.refl _ _⟩
  | some ad =>
    obtain ⟨i0, hi0, hz0, hz1, hz2⟩ := info_parts info_act
    have HO := Lib.hid h
    have Hl : Hid ((actCells l).length = n * 4) := h.1
    clear h hf
    go_enter Tryd.func27, Tryd.ntmps27
    go_wp2_with (at_builtin; refine wpList_append_own _ rfl _ _ 40 rfl w.heap.size 62 i0 _ 4 48 Tryd.underlying40 hi0 hz0 hz1 hz2 rfl (by decide) _ 0 [] rfl (World.ownsRow_made w #[] 0 (Nat.le_refl _) (by decide) rfl) ad n c (actCells l) rfl ?c0 ?c1 ?c2 ?c3 ?c4 ?c5 ?_)
    case c0 => exact Hl.out
    case c1 =>
      intro j u hu
      obtain ⟨g, e, hg, hc⟩ := own_cell HO.out hu
      have e := Option.some.inj e
      rw [e, addr_add, Nat.zero_add]
      exact (World.cell?_alloc_lt _ _ _ (World.block_lt_of_cell? _ _ hc)).trans hc
    case c2 => exact actCells_one
    case c3 => unfold maxLen; omega
    case c4 => omega
    case c5 => simp
    intro v' w' hown hg _
    have hv : ∃ A' c', v' = .slice A' n c' := by
      rcases hown.2 with ⟨rfl, h0⟩ | ⟨g, cap, cur, rfl, _⟩
      · exact ⟨none, 0, by rw [show n = 0 from by omega]⟩
      · exact ⟨_, cap, rfl⟩
    obtain ⟨A', c', rfl⟩ := hv
    have hb : Below w.heap.size w w' := ((Below.refl _ _).alloc (Nat.le_refl _) _).grown hg (by simp) (by intro k hk; simp [Value.ownBlock] at hk; omega)
    have HN := Lib.hid hown
    clear Hl HO hown
    go_wp2
    go_ret
    exact ⟨A', c', rfl, HN.out, hb⟩
end Go.Proofs.YtniomgngiiiklabDoor
