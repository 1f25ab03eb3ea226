/- The walk of keep's sameRow, and of slices.Equal, at two rows of the same data. -/
import Derived.Test.YtniomgngiiiklabDoorCopy
namespace Go.Proofs.YtniomgngiiiklabDoor
open Go.RowKit

set_option maxHeartbeats 1000000 in
theorem equalRecs_any (rs : List MRec) (A A' : Option Addr) (n c c' : Nat) (w : World) (h : RecsAt w w.heap.size A n rs) (h' : RecsAt w w.heap.size A' n rs) (hn : n ≤ maxLen) :
    Calls Tryd.prog 45 #[.slice A n c, .slice A' n c'] w
      fun e w' => e = .returned (.bool true) ∧ Below w.heap.size w w' := by
  unfold maxLen at hn
  have H1 := Lib.hid h
  have H2 := Lib.hid h'
  clear h h'
  go_enter Tryd.func45, Tryd.ntmps45
  go_wp2_with fail
  go_loopw [13] (fun i wr => (∃ k : Nat, k ≤ n ∧ i = .int .i64 k) ∧ Below w.heap.size w wr) (fun i _ => n - (intOf i).toNat)
  case atStart => exact ⟨⟨0, Nat.zero_le _, rfl⟩, Below.refl _ _⟩
  case round =>
    obtain ⟨⟨k, hk, rfl⟩, hb⟩ := hrel
    by_cases hlt : k < n
    · obtain ⟨x, b, off, hx, rfl, hbb, g0, g1, g2⟩ := (H1.out.below hb (Nat.le_refl _)).at_ hlt
      obtain ⟨x', b', off', hx', rfl, hbb', g0', g1', g2'⟩ := (H2.out.below hb (Nat.le_refl _)).at_ hlt
      obtain rfl : x' = x := by rw [hx] at hx'; injection hx' with e; exact e.symm
      clear hx hx'
      go_wp2_with fail
      go_quiet (fail)
      go_wp2
      go_roundw
      case rel => exact ⟨⟨k + 1, by omega, by go_num⟩, below_drewN hb _⟩
      case measure => simp [intOf]; omega
    · go_wp2
      go_ret
      exact ⟨rfl, hb⟩

theorem keepSame_any (r : MRow) (A A' : Option Addr) (n c c' : Nat) (w : World) (h : RecsAt w w.heap.size A n r.recs) (h' : RecsAt w w.heap.size A' n r.recs) (hn : n ≤ maxLen) :
    Calls Tryd.prog 25 #[.agg #[.string r.key, .int .i64 r.ls, .string r.lp, .string r.value, .slice A n c], .agg #[.string r.key, .int .i64 r.ls, .string r.lp, .string r.value, .slice A' n c']] w
      fun e w' => e = .returned (.bool true) ∧ Below w.heap.size w w' := by
  have H1 := Lib.hid h
  have H2 := Lib.hid h'
  have Hn := Lib.hid hn
  clear h h' hn
  go_enter Tryd.func25, Tryd.ntmps25
  go_wp2_with fail
  refine (equalRecs_any r.recs A A' n c c' _ ((H1.out.keep (fun q hq => (World.cell?_alloc_lt _ _ q (by simp; omega)).trans (World.cell?_alloc_lt _ _ q hq))).more (by simp; omega)) ((H2.out.keep (fun q hq => (World.cell?_alloc_lt _ _ q (by simp; omega)).trans (World.cell?_alloc_lt _ _ q hq))).more (by simp; omega)) Hn.out).mono ?_
  rintro e w1 ⟨rfl, hb⟩
  go_wp2_with fail
  go_ret
  exact ⟨rfl, (((Below.refl w.heap.size w).alloc (Nat.le_refl _) _).alloc (by simp) _).trans (hb.mono (by simp; omega))⟩
end Go.Proofs.YtniomgngiiiklabDoor
