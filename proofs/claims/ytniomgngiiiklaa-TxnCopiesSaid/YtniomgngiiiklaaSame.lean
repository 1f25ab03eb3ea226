/- The walk of the law's sameRow at two rows of the same data. -/
import Derived.Test.YtniomgngiiiklaaCopy
namespace Go.Proofs.Ytniomgngiiiklaa
open Go.RowKit

set_option maxHeartbeats 1000000 in
theorem sameRow_any (r : MRow) (A A' : Option Addr) (n c c' : Nat) (w : World) (h : RecsAt w w.heap.size A n r.recs) (h' : RecsAt w w.heap.size A' n r.recs) (hn : n ≤ maxLen) :
    Calls Try.prog 14 #[.agg #[.string r.key, .int .i64 r.ls, .string r.lp, .string r.value, .slice A n c], .agg #[.string r.key, .int .i64 r.ls, .string r.lp, .string r.value, .slice A' n c']] w
      fun e w' => e = .returned (.bool true) ∧ Below w.heap.size w w' := by
  unfold maxLen at hn
  have H1 := Lib.hid h
  have H2 := Lib.hid h'
  clear h h'
  go_enter Try.func14, Try.ntmps14
  go_wp2_with fail
  go_loopw [5] (fun i wr => (∃ k : Nat, k ≤ n ∧ i = .int .i64 k) ∧ Below w.heap.size w wr ∧ wr.heap[w.heap.size]? = some (.cells #[.string r.key, .int .i64 r.ls, .string r.lp, .string r.value, .slice A n c] 30 (0, 0)) ∧
    wr.heap[w.heap.size + 1]? = some (.cells #[.string r.key, .int .i64 r.ls, .string r.lp, .string r.value, .slice A' n c'] 30 (0, 0))) (fun i _ => n - (intOf i).toNat)
  case atStart => exact ⟨⟨0, Nat.zero_le _, rfl⟩, ((Below.refl _ _).alloc (Nat.le_refl _) _).alloc (by simp) _, blk_old (blk_new w _ _) _, by simpa using blk_new (w.alloc _) _ _⟩
  case round =>
    obtain ⟨⟨k, hk, rfl⟩, hb, hB0, hB1⟩ := hrel
    have HB0 := Lib.hid hB0
    have HB1 := Lib.hid hB1
    obtain ⟨hc0, _⟩ := blk_read hB0
    obtain ⟨hc1, _⟩ := blk_read hB1
    clear hB0 hB1
    by_cases hlt : k < n
    · obtain ⟨x, b, off, hx, rfl, hbb, g0, g1, g2⟩ := (H1.out.below hb (Nat.le_refl _)).at_ hlt
      obtain ⟨x', b', off', hx', rfl, hbb', g0', g1', g2'⟩ := (H2.out.below hb (Nat.le_refl _)).at_ hlt
      obtain rfl : x' = x := by rw [hx] at hx'; injection hx' with e; exact e.symm
      clear hx hx'
      go_wp2_with fail
      go_quiet (fail)
      go_wp2
      go_roundw
      case rel => exact ⟨⟨k + 1, by omega, by go_num⟩, below_drewN hb _, HB0.out, HB1.out⟩
      case measure => simp [intOf]; omega
    · go_wp2
      go_ret
      exact ⟨rfl, hb⟩
end Go.Proofs.Ytniomgngiiiklaa
