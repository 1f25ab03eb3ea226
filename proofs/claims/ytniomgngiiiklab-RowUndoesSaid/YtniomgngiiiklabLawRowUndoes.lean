/- RowUndoes: row.Undo and the reference's UndoneOf agree at every row and start, and the row that came in stays: the law's walk, then its row. Conditions: none. -/
import Derived.Test.YtniomgngiiiklabUndo
import Derived.Test.YtniomgngiiiklabUndoneOf
import Derived.Test.YtniomgngiiiklabSame
import Derived.Test.YtniomgngiiiklabRecsOwn
namespace Go.Proofs.Ytniomgngiiiklab
open Go.RowKit

theorem undoRow_len (r : MRow) (st : Int) : (undoRow r st).recs.length ≤ 101 := by
  by_cases h : undoCode r st = 0
  · exact Nat.le_trans (undoRow_good h).len (by omega)
  · unfold undoRow; rw [if_neg h]; exact Nat.zero_le _

set_option maxRecDepth 100000 in
set_option maxHeartbeats 2000000 in
theorem rowUndoes_walk (r : MRow) (A : Option Addr) (n c : Nat) (st : Int) (w : World) (h : RowOk w w.heap.size r A n c) :
    Calls Try.prog 3 #[.agg #[.string r.key, .int .i64 r.ls, .string r.lp, .string r.value, .slice A n c], .int .i64 st] w
      fun e w' => e = .returned (.bool true) ∧ Below w.heap.size w w' := by
  have HR := Lib.hid h
  have hsm := h.recs.small
  have Hn := Lib.hid h.recs.at_.1
  have HLen := Lib.hid (undoRow_len r st)
  clear h
  go_enter Try.func3, Try.ntmps3
  go_wp2_with fail
  refine (refCopy_any r A n c _ ((HR.out.alloc _).more (by simp))).mono ?_
  rintro e w1 ⟨A1, c1, rfl, hown, hb⟩
  have HL1 := Lib.hid (((Below.refl w.heap.size w).alloc (Nat.le_refl _) _).trans (hb.mono (by simp)))
  have HO1 := Lib.hid (RecsOk.of_own hown hsm)
  have HB1 := Lib.hid (blk_keep hb (blk_new w _ _) (by simp))
  clear hb hown
  obtain ⟨hc1, hf1⟩ := blk_read HB1.out
  have hz1 := blk_lt HB1.out
  go_wp2_with fail
  refine (undo_any r st A1 n c1 _ ⟨(HO1.out.alloc _).more (by simp), HR.out.key, HR.out.lp⟩).mono ?_
  rintro e w2 ⟨A2, c2, rfl, hown, hb⟩
  have HL2 := Lib.hid ((HL1.out.alloc HL1.out.size _).trans (hb.mono (by have := HL1.out.size; simp; omega)))
  have HO1' := Lib.hid (((HO1.out.alloc (.cells #[.string r.key, .int .i64 r.ls, .string r.lp, .string r.value, .slice A1 n c1] 26)).below hb (by simp)))
  have HO2 := Lib.hid (RecsAt.of_own hown)
  have HB2 := Lib.hid (blk_keep hb (blk_old HB1.out _) (by simp; omega))
  have HB2' := Lib.hid (blk_keep hb (blk_new w1 _ _) (by simp))
  clear hb hown hc1 hf1
  obtain ⟨hc2, hf2⟩ := blk_read HB2.out
  obtain ⟨hc2', hf2'⟩ := blk_read HB2'.out
  have hz2 := blk_lt HB2.out
  have hz2' := blk_lt HB2'.out
  go_wp2_with fail
  refine (undoneOf_any r st A n c _ (((HR.out.below HL2.out (Nat.le_refl _)).alloc _ (HL2.out.size)).more (by have := HL2.out.size; simp; omega))).mono ?_
  generalize undoRow r st = lr at HLen HO2
  generalize undoCode r st = lc
  rintro e w3 ⟨A3, c3, rfl, hown, hb⟩
  have HL3 := Lib.hid ((HL2.out.alloc HL2.out.size _).trans (hb.mono (by have := HL2.out.size; simp; omega)))
  have HO1'' := Lib.hid ((HO1'.out.alloc (.cells #[.string lr.key, .int .i64 lr.ls, .string lr.lp, .string lr.value, .slice A2 lr.recs.length c2] 26) (by have := hz2'; simp; omega)).below hb (by have := hz2'; simp; omega))
  have HO2' := Lib.hid ((HO2.out.keep (w' := w2.alloc (.cells #[.string lr.key, .int .i64 lr.ls, .string lr.lp, .string lr.value, .slice A2 lr.recs.length c2] 26)) (fun q hq => World.cell?_alloc_lt _ _ q hq)).below hb (by simp))
  have HO3 := Lib.hid (RecsAt.of_own hown)
  have HB3 := Lib.hid (blk_keep hb (blk_old HB2.out _) (by simp; omega))
  have HB3' := Lib.hid (blk_keep hb (blk_old HB2'.out _) (by simp; omega))
  have HB3'' := Lib.hid (blk_keep hb (blk_new w2 _ _) (by simp))
  have hs32 := hb.size
  simp only [World.size_alloc] at hs32
  clear hb hown hc2 hf2 hc2' hf2'
  obtain ⟨hc3, hf3⟩ := blk_read HB3.out
  obtain ⟨hc3', hf3'⟩ := blk_read HB3'.out
  obtain ⟨hc3'', hf3''⟩ := blk_read HB3''.out
  have hz3 := blk_lt HB3.out
  have hz3' := blk_lt HB3'.out
  have hz3'' := blk_lt HB3''.out
  go_wp2_with fail
  refine (sameRow_any lr A2 A3 lr.recs.length c2 c3 _ ((HO2'.out.keep (fun q hq => World.cell?_alloc_lt _ _ q (by omega))).more (by simp; omega)) ((HO3.out.keep (fun q hq => World.cell?_alloc_lt _ _ q hq)).more (by simp)) (by have := HLen.out; have := Hn.out; unfold maxLen; omega)).mono ?_
  rintro e w4 ⟨rfl, hb⟩
  have HL4 := Lib.hid ((HL3.out.alloc HL3.out.size _).trans (hb.mono (by have := HL3.out.size; simp; omega)))
  have HO4 := Lib.hid ((HO1''.out.alloc (.cells #[.string lr.key, .int .i64 lr.ls, .string lr.lp, .string lr.value, .slice A3 lr.recs.length c3] 26) (by omega)).below hb (by simp; omega))
  have HB4 := Lib.hid (blk_keep hb (blk_old HB3.out _) (by simp; omega))
  have HB4' := Lib.hid (blk_keep hb (blk_old HB3'.out _) (by simp; omega))
  have hs43 := hb.size
  simp only [World.size_alloc] at hs43
  clear hb hc3 hf3 hc3' hf3' hc3'' hf3''
  obtain ⟨hc4, hf4⟩ := blk_read HB4.out
  obtain ⟨hc4', hf4'⟩ := blk_read HB4'.out
  go_wp2_with fail
  refine (sameRow_any r A1 A n c1 c w4 (HO4.out.at_.more (by omega)) ((HR.out.recs.at_.below HL4.out (Nat.le_refl _)).more HL4.out.size) (by unfold maxLen; omega)).mono ?_
  rintro e w5 ⟨rfl, hb⟩
  have HL5 := Lib.hid (HL4.out.trans (hb.mono HL4.out.size))
  clear hb
  go_wp2_with fail
  go_ret
  exact ⟨rfl, HL5.out⟩

open Go.ChangeShapes Go.WideShapes Go.ChangeAt
open Go.ChangeMaps (open_string shut_string)
set_option maxRecDepth 100000 in
theorem rowUndoes_lifted (os : Os) (started : os.Started) (H : Type) (enc : TypeId × Value → H) :
    ReturnsInHanded {} Try.checked os 3 .any (Rows.rowUndoesSpec.pre6 enc Try.prog Try.f3 Rows.rowUndoesRow.domain false) (Rows.rowUndoesSpec.post enc Try.prog Try.f3 false true false false) := by
  refine returnsInHanded_of_change_sized (C := Try.checked) own started (by kernel_rfl) Try.func3
    (ChangeSpec.witness6 (enc := enc) (C := Try.checked) false ⟨#[], #[.agg #[.string ⟨#[]⟩, .int .i64 0, .string ⟨#[]⟩, .string ⟨#[]⟩, .slice none 0 0], .int .i64 0], []⟩ 8 (by kernel_rfl) (by kernel_rfl) (by kernel_rfl) (by kernel_rfl)) ?_
  intro W base args ds gs before hval0 hW hcnd hsz0 _
  have hval : ∀ (j : Nat) t v, Try.f3.params[j]? = some t → args[j]? = some v → Value.okWide Try.prog W .any base t v := hval0
  have hsz : (DataW.weightsEach Try.prog (Try.f3.params.toList ++ Rows.rowUndoesSpec.plain.varTypes Try.prog) (ds ++ gs)).all (· ≤ reachBytes) = true := hsz0
  clear hsz0
  have hW' := hW
  obtain ⟨p, q, hA0, hV, rfl, hfz, hnd⟩ := hW
  have hA : DataW.TrodAll enc Try.prog W 0 (fun _ => true) true Try.f3.params.toList args.toList ds p := hA0
  rw [Try.params3] at hA hval hsz
  obtain ⟨v0, vs0, d0, ds0, p0, q0, hargs, rfl, rfl, h0, r0⟩ := trodAll_cons hA
  obtain ⟨v1, vs1, d1, ds1, p1, q1, rfl, rfl, rfl, h1, r1⟩ := trodAll_cons r0
  obtain ⟨rfl, rfl, rfl⟩ := trodAll_nil r1
  obtain rfl : args = #[v0, v1] := by cases args; simp_all
  obtain ⟨rfl, rfl⟩ := trodVars_none hV
  have k0 := h0
  have lt0 : ∀ x ∈ p0, x.block < W.heap.size := by obtain ⟨m, hm⟩ := k0; exact DataW.trod_lt m _ _ _ hm
  have k1 := h1
  have lt1 : ∀ x ∈ p1, x.block < W.heap.size := by obtain ⟨m, hm⟩ := k1; exact DataW.trod_lt m _ _ _ hm
  obtain ⟨r0', A0, n0, c0, rfl, ok0⟩ := open_row_arg (hval 0 26 v0 rfl rfl) h0 (weights_of hsz (j := 0) rfl rfl)
  obtain ⟨a1, rfl, rfl, rfl, w1⟩ := open_int Try.underlying3 (hval 1 3 v1 rfl rfl) h1
  clear hA0 hval0 hsz
  refine (rowUndoes_walk r0' A0 n0 c0 a1 W ok0).mono fun e W' ⟨he, bel⟩ => ?_
  subst he
  exact ⟨_, rfl, _, _, _, [], _, [], hW', trodAll_mk1 (shut_bool Try.underlying4 _), (trodAll_cons_mk (Below.trod laidOut (by kernel_rfl) (of_decide_eq_true (by kernel_rfl)) k0 bel lt0) (trodAll_cons_mk (shut_int Try.underlying3 w1) trodAll_mk0)), rfl, bel.frame _, fun h => by cases h⟩

theorem rowUndoes_holds : Rows.RowUndoesSaid :=
  OpenClaim.holds_of_wide 3 Try.f3 rfl rfl rfl rfl rfl rfl rfl ⟨rfl, rfl, rfl, rfl, rfl⟩ rfl rfl rfl rfl rfl (by kernel_rfl) Try.func3 (by kernel_rfl)
    (of_decide_eq_true (by kernel_rfl)) (by unfold Func.isWrapper; first | (rw [if_pos (by decide +kernel)]; kernel_rfl) | (rw [if_neg (by decide +kernel)]; exact ⟨rfl, rfl⟩))
    (fun os started H enc _ => rowUndoes_lifted os started H enc)
#print axioms rowUndoes_holds
end Go.Proofs.Ytniomgngiiiklab
