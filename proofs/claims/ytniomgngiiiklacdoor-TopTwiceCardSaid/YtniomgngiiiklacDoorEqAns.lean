/- The walk of slices.Equal at answers, at two slices of the same data. -/
import Derived.Test.YtniomgngiiiklacDoorAnsOk
import Derived.Test.YtniomgngiiiklacDoorCopy
namespace Go.Proofs.YtniomgngiiiklacDoor
open Go.RowKit

set_option maxHeartbeats 1000000 in
theorem equalAns_any (rs : List MAns) (A A' : Option Addr) (n c c' : Nat) (w : World) (h : AnsOk w w.heap.size A n rs) (h' : AnsOk w w.heap.size A' n rs) (hn : n ≤ maxLen) :
    Calls Tryd.prog 16 #[.slice A n c, .slice A' n c'] w
      fun e w' => e = .returned (.bool true) ∧ Below w.heap.size w w' := by
  unfold maxLen at hn
  have H1 := Lib.hid h
  have H2 := Lib.hid h'
  clear h h'
  go_enter Tryd.func16, Tryd.ntmps16
  go_wp2_with fail
  go_loopw [13] (fun i wr => (∃ k : Nat, k ≤ n ∧ i = .int .i64 k) ∧ Below w.heap.size w wr) (fun i _ => n - (intOf i).toNat)
  case atStart => exact ⟨⟨0, Nat.zero_le _, rfl⟩, Below.refl _ _⟩
  case round =>
    obtain ⟨⟨k, hk, rfl⟩, hb⟩ := hrel
    by_cases hlt : k < n
    · obtain ⟨x, b, off, hx, rfl, hbb, g0, g1, g2, g3, g4⟩ := AnsOk.ans (H1.out.below hb (Nat.le_refl _)) hlt
      obtain ⟨x', b', off', hx', rfl, hbb', g0', g1', g2', g3', g4'⟩ := AnsOk.ans (H2.out.below hb (Nat.le_refl _)) hlt
      obtain rfl : x' = x := by rw [hx] at hx'; injection hx' with e; exact e.symm
      clear hx hx'
      go_wp2_with fail
      go_quiet (fail)
      go_wp2
      go_roundw
      case rel => exact ⟨⟨k + 1, by omega, by go_num⟩, below_drewN hb _⟩
      case measure => simp [intOf]; omega
    · go_wp2
      go_ret
      exact ⟨rfl, hb⟩
end Go.Proofs.YtniomgngiiiklacDoor
