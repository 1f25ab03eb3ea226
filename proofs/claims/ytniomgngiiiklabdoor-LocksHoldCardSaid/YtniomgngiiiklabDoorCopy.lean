/- The walks of slices.Clone at records and of row.Copy. -/
import Derived.Test.YtniomgngiiiklabDoorOpen
import Derived.Maps.AppendAt
namespace Go.Proofs.YtniomgngiiiklabDoor
open Go.RowKit

theorem info_rec : (Tryd.prog.info? 44).map (fun i => (i.zero, i.size, i.bytes)) = some (some (.agg #[.int .i64 0, .int .i64 0, .string ⟨#[]⟩]), 3, 32) := by kernel_rfl

set_option maxHeartbeats 400000 in
theorem clone_some (ad : Addr) (n c : Nat) (rs : List MRec) (w : World) (h : RecsOk w w.heap.size (some ad) n c rs) :
    Calls Tryd.prog 40 #[.slice (some ad) n c] w fun e w' => ∃ A' c', e = .returned (.slice A' n c') ∧ w'.ownsRow w.heap.size 44 3 (.slice A' n c') n (recCells rs) ∧ Below w.heap.size w w' := by
  obtain ⟨i0, hi0, hz0, hz1, hz2⟩ := info_parts info_rec
  have hnil := fun W : World => Lib.run_eql_slice_nil (P := Tryd.prog) W
  go_enter Tryd.func40, Tryd.ntmps40
  have hs := h.small
  have hle := h.le
  have HC := Lib.hid h.at_.cells
  have Hl : Hid ((recCells rs).length = n * 3) := by show _ = _; rw [recCells_length, h.at_.1]
  clear h
  go_wp2_with (at_builtin; refine wpList_append_own _ rfl _ _ 25 rfl w.heap.size 44 i0 _ 3 32 Tryd.underlying25 hi0 hz0 hz1 hz2 rfl (by decide) _ 0 [] rfl (World.ownsRow_made w #[] 0 (Nat.le_refl _) (by decide) rfl) ad n c (recCells rs) rfl ?c0 ?c1 ?c2 ?c3 ?c4 ?c5 ?_)
  case c0 => exact Hl.out
  case c1 =>
    intro j u hu
    have := HC.out j u hu
    exact (World.cell?_alloc_lt _ _ _ (World.block_lt_of_cell? _ _ this)).trans this
  case c2 => exact recCells_one
  case c3 => unfold maxLen; omega
  case c4 => omega
  case c5 => simp
  intro v' w' hown hg _
  have hv : ∃ A' c', v' = .slice A' n c' := by
    rcases hown.2 with ⟨rfl, h0⟩ | ⟨g, cap, cur, rfl, _⟩
    · exact ⟨none, 0, by rw [show n = 0 from by omega]⟩
    · exact ⟨_, cap, rfl⟩
  obtain ⟨A', c', rfl⟩ := hv
  have hb : Below w.heap.size w w' := ((Below.refl _ _).alloc (Nat.le_refl _) _).grown hg (by simp) (by intro k hk; simp [Value.ownBlock] at hk; omega)
  clear Hl HC
  go_wp2
  go_ret
  exact ⟨A', c', rfl, hown, hb⟩

theorem clone_any (A : Option Addr) (n c : Nat) (rs : List MRec) (w : World) (h : RecsOk w w.heap.size A n c rs) :
    Calls Tryd.prog 40 #[.slice A n c] w fun e w' => ∃ A' c', e = .returned (.slice A' n c') ∧ w'.ownsRow w.heap.size 44 3 (.slice A' n c') n (recCells rs) ∧ Below w.heap.size w w' := by
  cases A with
  | some ad => exact clone_some ad n c rs w h
  | none =>
    have hn : n = 0 := by
      have h1 := h.at_.1
      match rs, h1 with
      | [], h1 => simpa using h1.symm
      | r :: rs, _ => obtain ⟨b, off, e, _⟩ := h.at_.2 0 r rfl; cases e
    subst hn
    have hrs : rs = [] := List.eq_nil_of_length_eq_zero h.at_.1
    subst hrs
    have hc := h.nil rfl
    subst hc
    clear h
    have hnil := fun W : World => Lib.run_eql_slice_nil (P := Tryd.prog) W
    go_enter Tryd.func40, Tryd.ntmps40
    go_wp2
    go_ret
    exact ⟨none, 0, rfl, World.ownsRow_nil _ _ _ _, Below.refl _ _⟩

/-- row.Copy: the same row, its records in new memory. -/
theorem rowCopy_any (r : MRow) (A : Option Addr) (n c : Nat) (w : World) (h : RowOk w w.heap.size r A n c) :
    Calls Tryd.prog 14 #[.agg #[.string r.key, .int .i64 r.ls, .string r.lp, .string r.value, .slice A n c]] w
      fun e w' => ∃ A' c', e = .returned (.agg #[.string r.key, .int .i64 r.ls, .string r.lp, .string r.value, .slice A' n c']) ∧ w'.ownsRow w.heap.size 44 3 (.slice A' n c') n (recCells r.recs) ∧ Below w.heap.size w w' := by
  have HR := Lib.hid h.recs
  clear h
  go_enter Tryd.func14, Tryd.ntmps14
  go_wp2_with fail
  refine (clone_any _ _ _ _ _ (((HR.out.alloc _).alloc _).more (by simp; omega))).mono ?_
  rintro e w1 ⟨A', c', rfl, hown, hb⟩
  have Hown := Lib.hid hown
  clear hown
  obtain ⟨hc0, hf0⟩ := blk_read (blk_keep hb (blk_old (blk_new w _ _) _) (by simp; omega))
  obtain ⟨hc1, hf1⟩ := blk_read (blk_keep hb (blk_new (w.alloc _) _ _) (by simp))
  simp only [World.size_alloc] at hc1 hf1
  go_wp2
  refine bodyPost_ret (v := .agg #[.string r.key, .int .i64 r.ls, .string r.lp, .string r.value, .slice A' n c']) (by simp [results, Tryd.results14, go_sem, hc1]) rfl ⟨A', c', rfl, ?_, ?_⟩
  · refine own_more (base := w.heap.size + 1 + 1) ?_ (by omega)
    have hown := Hown.out
    simp only [World.size_alloc] at hown
    repeat (refine ownsRow_setCell_below ?_ (by first | (simp; done) | (simp; omega)) _)
    exact hown
  · have hb0 : Below w.heap.size w w1 := (((Below.refl _ _).alloc (Nat.le_refl _) _).alloc (by simp) _).trans (hb.mono (by simp; omega))
    repeat (refine Below.setCell ?_ (by first | (simp; done) | (simp; omega)) _)
    exact hb0
end Go.Proofs.YtniomgngiiiklabDoor
