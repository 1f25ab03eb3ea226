/- The walk of slices.Clone at writes. -/
import Derived.Test.YtniomgngiiiklaaOpen
import Derived.Maps.AppendAt
namespace Go.Proofs.Ytniomgngiiiklaa
open Go.RowKit

theorem info_write : (Try.prog.info? 66).map (fun i => (i.zero, i.size, i.bytes)) = some (some (.agg #[.string ⟨#[]⟩, .string ⟨#[]⟩]), 2, 32) := by kernel_rfl

set_option maxHeartbeats 400000 in
theorem cloneW_some (ad : Addr) (n c : Nat) (rs : List MWrite) (w : World) (h : WritesOk w w.heap.size (some ad) n c rs) :
    Calls Try.prog 36 #[.slice (some ad) n c] w fun e w' => ∃ A' c', e = .returned (.slice A' n c') ∧ w'.ownsRow w.heap.size 66 2 (.slice A' n c') n (writeCells rs) ∧ Below w.heap.size w w' := by
  obtain ⟨i0, hi0, hz0, hz1, hz2⟩ := info_parts info_write
  have hnil := fun W : World => Lib.run_eql_slice_nil (P := Try.prog) W
  go_enter Try.func36, Try.ntmps36
  have hs := h.small
  have hle := h.le
  have HC := Lib.hid h.at_.cells
  have Hl : Hid ((writeCells rs).length = n * 2) := by show _ = _; rw [writeCells_length, h.at_.1]
  clear h
  go_wp2_with (at_builtin; refine wpList_append_own _ rfl _ _ 61 rfl w.heap.size 66 i0 _ 2 32 Try.underlying61 hi0 hz0 hz1 hz2 rfl (by decide) _ 0 [] rfl (World.ownsRow_made w #[] 0 (Nat.le_refl _) (by decide) rfl) ad n c (writeCells rs) rfl ?c0 ?c1 ?c2 ?c3 ?c4 ?c5 ?_)
  case c0 => exact Hl.out
  case c1 =>
    intro j u hu
    have := HC.out j u hu
    exact (World.cell?_alloc_lt _ _ _ (World.block_lt_of_cell? _ _ this)).trans this
  case c2 => exact writeCells_one
  case c3 => unfold maxLen; omega
  case c4 => omega
  case c5 => simp
  intro v' w' hown hg _
  have hv : ∃ A' c', v' = .slice A' n c' := by
    rcases hown.2 with ⟨rfl, h0⟩ | ⟨g, cap, cur, rfl, _⟩
    · exact ⟨none, 0, by rw [show n = 0 from by omega]⟩
    · exact ⟨_, cap, rfl⟩
  obtain ⟨A', c', rfl⟩ := hv
  have hb : Below w.heap.size w w' := ((Below.refl _ _).alloc (Nat.le_refl _) _).grown hg (by simp) (by intro k hk; simp [Value.ownBlock] at hk; omega)
  clear Hl HC
  go_wp2
  go_ret
  exact ⟨A', c', rfl, hown, hb⟩

theorem cloneW_any (A : Option Addr) (n c : Nat) (rs : List MWrite) (w : World) (h : WritesOk w w.heap.size A n c rs) :
    Calls Try.prog 36 #[.slice A n c] w fun e w' => ∃ A' c', e = .returned (.slice A' n c') ∧ w'.ownsRow w.heap.size 66 2 (.slice A' n c') n (writeCells rs) ∧ Below w.heap.size w w' := by
  cases A with
  | some ad => exact cloneW_some ad n c rs w h
  | none =>
    have hn : n = 0 := by
      have h1 := h.at_.1
      match rs, h1 with
      | [], h1 => simpa using h1.symm
      | r :: rs, _ => obtain ⟨b, off, e, _⟩ := h.at_.2 0 r rfl; cases e
    subst hn
    have hrs : rs = [] := List.eq_nil_of_length_eq_zero h.at_.1
    subst hrs
    have hc := h.nil rfl
    subst hc
    clear h
    have hnil := fun W : World => Lib.run_eql_slice_nil (P := Try.prog) W
    go_enter Try.func36, Try.ntmps36
    go_wp2
    go_ret
    exact ⟨none, 0, rfl, World.ownsRow_nil _ _ _ _, Below.refl _ _⟩

end Go.Proofs.Ytniomgngiiiklaa
