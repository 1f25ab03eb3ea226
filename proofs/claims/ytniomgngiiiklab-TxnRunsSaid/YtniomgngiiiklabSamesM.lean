/- The walk of the law's sameRow at two rows of the same data. -/
import Derived.Test.YtniomgngiiiklabCopiesM
import Derived.Test.YtniomgngiiiklabOwnsM
import Derived.StillTailTactics
namespace Go.Proofs.Ytniomgngiiiklab
open Go.RowKit

set_option maxHeartbeats 1000000 in
theorem sameRow_any (r : MRow) (A A' : Option Addr) (n c c' : Nat) (w : World) (h : RecsAt w w.heap.size A n r.recs) (h' : RecsAt w w.heap.size A' n r.recs) (hn : n ≤ maxLen) :
    Calls Try.prog 9 #[.agg #[.string r.key, .int .i64 r.ls, .string r.lp, .string r.value, .slice A n c], .agg #[.string r.key, .int .i64 r.ls, .string r.lp, .string r.value, .slice A' n c']] w
      fun e w' => e = .returned (.bool true) ∧ Below w.heap.size w w' := by
  unfold maxLen at hn
  have H1 := Lib.hid h
  have H2 := Lib.hid h'
  clear h h'
  go_enter Try.func9, Try.ntmps9
  go_wp2_with fail
  go_loopw [5] (fun i wr => (∃ k : Nat, k ≤ n ∧ i = .int .i64 k) ∧ Below w.heap.size w wr ∧ wr.heap[w.heap.size]? = some (.cells #[.string r.key, .int .i64 r.ls, .string r.lp, .string r.value, .slice A n c] 26 (0, 0)) ∧
    wr.heap[w.heap.size + 1]? = some (.cells #[.string r.key, .int .i64 r.ls, .string r.lp, .string r.value, .slice A' n c'] 26 (0, 0))) (fun i _ => n - (intOf i).toNat)
  case atStart => exact ⟨⟨0, Nat.zero_le _, rfl⟩, ((Below.refl _ _).alloc (Nat.le_refl _) _).alloc (by simp) _, blk_old (blk_new w _ _) _, by simpa using blk_new (w.alloc _) _ _⟩
  case round =>
    obtain ⟨⟨k, hk, rfl⟩, hb, hB0, hB1⟩ := hrel
    have HB0 := Lib.hid hB0
    have HB1 := Lib.hid hB1
    obtain ⟨hc0, _⟩ := blk_read hB0
    obtain ⟨hc1, _⟩ := blk_read hB1
    clear hB0 hB1
    by_cases hlt : k < n
    · obtain ⟨x, b, off, hx, rfl, hbb, g0, g1, g2⟩ := (H1.out.below hb (Nat.le_refl _)).at_ hlt
      obtain ⟨x', b', off', hx', rfl, hbb', g0', g1', g2'⟩ := (H2.out.below hb (Nat.le_refl _)).at_ hlt
      obtain rfl : x' = x := by rw [hx] at hx'; injection hx' with e; exact e.symm
      clear hx hx'
      go_wp2_with fail
      go_quiet (fail)
      go_wp2
      go_roundw
      case rel => exact ⟨⟨k + 1, by omega, by go_num⟩, below_drewN hb _, HB0.out, HB1.out⟩
      case measure => simp [intOf]; omega
    · go_wp2
      go_ret
      exact ⟨rfl, hb⟩
end Go.Proofs.Ytniomgngiiiklab

/- The walks of the law's sameClient and sameWorld at two readings of the same data. -/
namespace Go.Proofs.Ytniomgngiiiklab
open Go.RowKit

set_option maxRecDepth 100000 in
set_option maxHeartbeats 2000000 in
theorem sameClient_any (x : MClient) (A A' : Option Addr) (n c c' : Nat) (w : World) (h : WritesAt w w.heap.size A n x.writes) (h' : WritesAt w w.heap.size A' n x.writes) (hn : n ≤ maxLen) :
    Calls Try.prog 37 #[.agg #[.int .i64 x.phase, .int .i64 x.start, .int .i64 x.commit, .slice A n c, .int .i64 x.at_], .agg #[.int .i64 x.phase, .int .i64 x.start, .int .i64 x.commit, .slice A' n c', .int .i64 x.at_]] w
      fun e w' => e = .returned (.bool true) ∧ Below w.heap.size w w' := by
  unfold maxLen at hn
  have H1 := Lib.hid h
  have H2 := Lib.hid h'
  clear h h'
  go_enter Try.func37, Try.ntmps37
  go_wp2_with fail
  go_loopw [5] (fun i wr => (∃ k : Nat, k ≤ n ∧ i = .int .i64 k) ∧ Below w.heap.size w wr ∧ wr.heap[w.heap.size]? = some (.cells #[.int .i64 x.phase, .int .i64 x.start, .int .i64 x.commit, .slice A n c, .int .i64 x.at_] 58 (0, 0)) ∧
    wr.heap[w.heap.size + 1]? = some (.cells #[.int .i64 x.phase, .int .i64 x.start, .int .i64 x.commit, .slice A' n c', .int .i64 x.at_] 58 (0, 0))) (fun i _ => n - (intOf i).toNat)
  case atStart =>
    obtain ⟨h1, h2, h3⟩ := blk_new2 w (a := #[.int .i64 x.phase, .int .i64 x.start, .int .i64 x.commit, .slice A n c, .int .i64 x.at_]) (b := #[.int .i64 x.phase, .int .i64 x.start, .int .i64 x.commit, .slice A' n c', .int .i64 x.at_]) (ta := 58) (tb := 58)
    exact ⟨⟨0, Nat.zero_le _, rfl⟩, h1, h2, h3⟩
  case round =>
    obtain ⟨⟨k, hk, rfl⟩, hb, hB0, hB1⟩ := hrel
    have HB0 := Lib.hid hB0
    have HB1 := Lib.hid hB1
    clear hB0 hB1
    try clear hc0 hf0
    obtain ⟨hc0, hf0⟩ := blk_read HB0.out
    try clear hc1 hf1
    obtain ⟨hc1, hf1⟩ := blk_read HB1.out
    by_cases hlt : k < n
    · obtain ⟨y, b, off, hx, rfl, hbb, g0, g1⟩ := (H1.out.below hb (Nat.le_refl _)).at_ hlt
      obtain ⟨y', b', off', hx', rfl, hbb', g0', g1'⟩ := (H2.out.below hb (Nat.le_refl _)).at_ hlt
      obtain rfl : y' = y := by rw [hx] at hx'; injection hx' with e; exact e.symm
      clear hx hx'
      go_wp2_with fail
      go_quiet (fail)
      go_wp2
      go_roundw
      case rel => exact ⟨⟨k + 1, by omega, by go_num⟩, below_drewN hb _, HB0.out, HB1.out⟩
      case measure => simp [intOf]; omega
    · go_wp2
      go_ret
      exact ⟨rfl, hb⟩

set_option maxRecDepth 100000 in
set_option maxHeartbeats 4000000 in
theorem sameWorld_any (M : MWorld) (A B A' B' : Option Addr) (n c d n' c' d' : Nat) (w : World) (hr : RowsOk w w.heap.size A n c M.rows) (hr' : RowsOk w w.heap.size B n d M.rows) (hc : ClientsOk w w.heap.size A' n' c' M.clients) (hc' : ClientsOk w w.heap.size B' n' d' M.clients) :
    Calls Try.prog 13 #[.agg #[.slice A n c, .int .i64 M.clock, .slice A' n' c'], .agg #[.slice B n d, .int .i64 M.clock, .slice B' n' d']] w
      fun e w' => e = .returned (.bool true) ∧ Below w.heap.size w w' := by
  have H1 := Lib.hid hr
  have H2 := Lib.hid hr'
  have H3 := Lib.hid hc
  have H4 := Lib.hid hc'
  have hsm := hr.small
  have hsm' := hc.small
  clear hr hr' hc hc'
  go_enter Try.func13, Try.ntmps13
  go_wp2_with fail
  go_loopw [5] (fun i wr => (∃ k : Nat, k ≤ n ∧ i = .int .i64 k) ∧ Below w.heap.size w wr ∧ wr.heap[w.heap.size]? = some (.cells #[.slice A n c, .int .i64 M.clock, .slice A' n' c'] 36 (0, 0)) ∧
    wr.heap[w.heap.size + 1]? = some (.cells #[.slice B n d, .int .i64 M.clock, .slice B' n' d'] 36 (0, 0))) (fun i _ => n - (intOf i).toNat)
  case atStart =>
    obtain ⟨h1, h2, h3⟩ := blk_new2 w (a := #[.slice A n c, .int .i64 M.clock, .slice A' n' c']) (b := #[.slice B n d, .int .i64 M.clock, .slice B' n' d']) (ta := 36) (tb := 36)
    exact ⟨⟨0, Nat.zero_le _, rfl⟩, h1, h2, h3⟩
  case round =>
    obtain ⟨⟨k, hk, rfl⟩, hb, hB0, hB1⟩ := hrel
    have HL := Lib.hid hb
    have HB0 := Lib.hid hB0
    have HB1 := Lib.hid hB1
    clear hB0 hB1 hb
    try clear hc0 hf0
    obtain ⟨hc0, hf0⟩ := blk_read HB0.out
    try clear hc1 hf1
    obtain ⟨hc1, hf1⟩ := blk_read HB1.out
    by_cases hlt : k < n
    · obtain ⟨r, b, off, A2, n2, c2, hx, rfl, hbb, hok, g0, g1, g2, g3, g4⟩ := (H1.out.below HL.out (Nat.le_refl _)).row hlt
      obtain ⟨r', b', off', A2', n2', c2', hx', rfl, hbb', hok', g0', g1', g2', g3', g4'⟩ := (H2.out.below HL.out (Nat.le_refl _)).row hlt
      obtain rfl : r' = r := by rw [hx] at hx'; injection hx' with e; exact e.symm
      have e1 := hok.recs.at_.1
      have e2 := hok'.recs.at_.1
      subst e1
      obtain rfl : n2' = r'.recs.length := e2.symm
      have HO1 := Lib.hid hok.recs
      have HO2 := Lib.hid hok'.recs
      clear hx hx' hok hok' e2
      go_wp2_with fail
      go_still_tail 10, (by kernel_rfl)
      go_wp2_with fail
      refine (sameRow_any r' A2 A2' r'.recs.length c2 c2' _ (by exact HO1.out.at_.more HL.out.size) (by exact HO2.out.at_.more HL.out.size) (by have := HO1.out.small; unfold maxLen; omega)).mono ?_
      rintro e w1 ⟨rfl, hb⟩
      have hb' : Below wr.heap.size wr w1 := ((Below.refl _ wr).drew).trans hb
      first | have hold := old0 HL hb' (by first | exact Nat.le_refl _ | (simp; done) | (simp; omega)) | have hold := old1 HL hb' (by first | exact Nat.le_refl _ | (simp; done) | (simp; omega)) | have hold := old2 HL hb' (by first | exact Nat.le_refl _ | (simp; done) | (simp; omega)) | have hold := old3 HL hb' (by first | exact Nat.le_refl _ | (simp; done) | (simp; omega))
      replace HB0 := hold.blk HB0
      replace HB1 := hold.blk HB1
      first | replace HL := keepL0 HL hb' (by first | exact Nat.le_refl _ | (have := HL.out.size; omega) | (have := HL.out.size; simp at this; omega)) (by first | exact Nat.le_refl _ | (simp; done) | (simp; omega)) | replace HL := keepL1 HL hb' (by first | exact Nat.le_refl _ | (have := HL.out.size; omega) | (have := HL.out.size; simp at this; omega)) (by first | exact Nat.le_refl _ | (simp; done) | (simp; omega)) | replace HL := keepL2 HL hb' (by first | exact Nat.le_refl _ | (have := HL.out.size; omega) | (have := HL.out.size; simp at this; omega)) (by first | exact Nat.le_refl _ | (simp; done) | (simp; omega)) | replace HL := keepL3 HL hb' (by first | exact Nat.le_refl _ | (have := HL.out.size; omega) | (have := HL.out.size; simp at this; omega)) (by first | exact Nat.le_refl _ | (simp; done) | (simp; omega))
      clear hb' hold
      try clear hc0 hf0
      obtain ⟨hc0, hf0⟩ := blk_read HB0.out
      try clear hc1 hf1
      obtain ⟨hc1, hf1⟩ := blk_read HB1.out
      go_wp2
      go_roundw
      case rel => exact ⟨⟨k + 1, by omega, by go_num⟩, HL.out, HB0.out, HB1.out⟩
      case measure => simp [intOf]; omega
    · obtain rfl : k = n := by omega
      clear hlt hk
      go_wp2_with fail
      obtain ⟨wo, rfl⟩ : ∃ wo : World, wo = wr := ⟨_, rfl⟩
      go_loopw [6] (fun i wr => (∃ j : Nat, j ≤ n' ∧ i = .int .i64 j) ∧ Below w.heap.size w wr ∧ wr.heap[w.heap.size]? = some (.cells #[.slice A k c, .int .i64 M.clock, .slice A' n' c'] 36 (0, 0)) ∧
        wr.heap[w.heap.size + 1]? = some (.cells #[.slice B k d, .int .i64 M.clock, .slice B' n' d'] 36 (0, 0))) (fun i _ => n' - (intOf i).toNat)
      case atStart => exact ⟨⟨0, Nat.zero_le _, rfl⟩, HL.out, HB0.out, HB1.out⟩
      case round =>
        clear HL HB0 HB1
        try clear hc0 hf0 hc1 hf1
        obtain ⟨⟨j, hj, rfl⟩, hb, hB0, hB1⟩ := hrel
        have HL := Lib.hid hb
        have HB0 := Lib.hid hB0
        have HB1 := Lib.hid hB1
        clear hB0 hB1 hb
        try clear hc0 hf0
        obtain ⟨hc0, hf0⟩ := blk_read HB0.out
        try clear hc1 hf1
        obtain ⟨hc1, hf1⟩ := blk_read HB1.out
        by_cases hlt : j < n'
        · obtain ⟨x, b, off, A2, n2, c2, hx, rfl, hbb, hok, g0, g1, g2, g3, g4⟩ := (H3.out.below HL.out (Nat.le_refl _)).client hlt
          obtain ⟨x', b', off', A2', n2', c2', hx', rfl, hbb', hok', g0', g1', g2', g3', g4'⟩ := (H4.out.below HL.out (Nat.le_refl _)).client hlt
          obtain rfl : x' = x := by rw [hx] at hx'; injection hx' with e; exact e.symm
          have e1 := hok.writes.at_.1
          have e2 := hok'.writes.at_.1
          subst e1
          obtain rfl : n2' = x'.writes.length := e2.symm
          have HO1 := Lib.hid hok.writes
          have HO2 := Lib.hid hok'.writes
          clear hx hx' hok hok' e2
          go_wp2_with fail
          go_still_tail 10, (by kernel_rfl)
          go_wp2_with fail
          refine (sameClient_any x' A2 A2' x'.writes.length c2 c2' _ (by exact HO1.out.at_.more HL.out.size) (by exact HO2.out.at_.more HL.out.size) (by have := HO1.out.small; unfold maxLen; omega)).mono ?_
          rintro e w1 ⟨rfl, hb⟩
          have hb' : Below wr.heap.size wr w1 := ((Below.refl _ wr).drew).trans hb
          first | have hold := old0 HL hb' (by first | exact Nat.le_refl _ | (simp; done) | (simp; omega)) | have hold := old1 HL hb' (by first | exact Nat.le_refl _ | (simp; done) | (simp; omega)) | have hold := old2 HL hb' (by first | exact Nat.le_refl _ | (simp; done) | (simp; omega)) | have hold := old3 HL hb' (by first | exact Nat.le_refl _ | (simp; done) | (simp; omega))
          replace HB0 := hold.blk HB0
          replace HB1 := hold.blk HB1
          first | replace HL := keepL0 HL hb' (by first | exact Nat.le_refl _ | (have := HL.out.size; omega) | (have := HL.out.size; simp at this; omega)) (by first | exact Nat.le_refl _ | (simp; done) | (simp; omega)) | replace HL := keepL1 HL hb' (by first | exact Nat.le_refl _ | (have := HL.out.size; omega) | (have := HL.out.size; simp at this; omega)) (by first | exact Nat.le_refl _ | (simp; done) | (simp; omega)) | replace HL := keepL2 HL hb' (by first | exact Nat.le_refl _ | (have := HL.out.size; omega) | (have := HL.out.size; simp at this; omega)) (by first | exact Nat.le_refl _ | (simp; done) | (simp; omega)) | replace HL := keepL3 HL hb' (by first | exact Nat.le_refl _ | (have := HL.out.size; omega) | (have := HL.out.size; simp at this; omega)) (by first | exact Nat.le_refl _ | (simp; done) | (simp; omega))
          clear hb' hold
          try clear hc0 hf0
          obtain ⟨hc0, hf0⟩ := blk_read HB0.out
          try clear hc1 hf1
          obtain ⟨hc1, hf1⟩ := blk_read HB1.out
          go_wp2
          go_roundw
          case rel => exact ⟨⟨j + 1, by omega, by go_num⟩, HL.out, HB0.out, HB1.out⟩
          case measure => simp [intOf]; omega
        · go_wp2_with fail
          go_ret
          exact ⟨rfl, HL.out⟩
end Go.Proofs.Ytniomgngiiiklab
