/- The walk of slices.EqualFunc at rows with keep's sameRow, at two slices of the same data. -/
import Derived.Test.YtniomgngiiiklabDoorKeepSame
import Derived.Test.YtniomgngiiiklabDoorOwn
import Derived.LoopTactic
namespace Go.Proofs.YtniomgngiiiklabDoor
open Go.RowKit

set_option maxHeartbeats 1000000 in
theorem equalRows_any (l : List MRow) (A A' : Option Addr) (n c c' : Nat) (w : World) (h : RowsOk w w.heap.size A n c l) (h' : RowsOk w w.heap.size A' n c' l) :
    Calls Tryd.prog 30 #[.slice A n c, .slice A' n c', .func (.func 25) #[] #[]] w
      fun e w' => e = .returned (.bool true) ∧ Below w.heap.size w w' := by
  have H1 := Lib.hid h
  have H2 := Lib.hid h'
  have hn := h.small
  clear h h'
  go_enter Tryd.func30, Tryd.ntmps30
  go_wp2_with fail
  go_loopw [17] (fun i wr => (∃ k : Nat, k ≤ n ∧ i = .int .i64 k) ∧ Below w.heap.size w wr) (fun i _ => n - (intOf i).toNat)
  case atStart => exact ⟨⟨0, Nat.zero_le _, rfl⟩, Below.refl _ _⟩
  case round =>
    obtain ⟨⟨k, hk, rfl⟩, hb⟩ := hrel
    have HL := Lib.hid hb
    have hzw := hb.size
    clear hb
    by_cases hlt : k < n
    · obtain ⟨r, b, off, A1, n1, c1, hr, rfl, hbb, hok, g0, g1, g2, g3, g4⟩ := (H1.out.below HL.out (Nat.le_refl _)).row hlt
      obtain ⟨r', b', off', A2, n2, c2, hr', rfl, hbb', hok', g0', g1', g2', g3', g4'⟩ := (H2.out.below HL.out (Nat.le_refl _)).row hlt
      obtain rfl : r' = r := by rw [hr] at hr'; injection hr' with e; exact e.symm
      have hn2 : n2 = n1 := by have := hok.recs.at_.1; have := hok'.recs.at_.1; omega
      subst hn2
      have HOK := Lib.hid hok
      have HOK' := Lib.hid hok'
      clear hr hr' hok hok'
      have e2 : ∀ i u o, wr.cell? ⟨b', i, none⟩ = some u → (wr.alloc o).cell? ⟨b', i, none⟩ = some u := fun i u o hu => (World.cell?_alloc_past o b' i (by omega)).trans hu
      go_upto_region 7 with (fail)
      obtain ⟨v, hv⟩ : ∃ v, v = (wr.alloc (.cells #[.string r'.key, .int .i64 r'.ls, .string r'.lp, .string r'.value, .slice A1 n2 c1] 27)).alloc (.cells #[.string r'.key, .int .i64 r'.ls, .string r'.lp, .string r'.value, .slice A2 n2 c2] 27) := ⟨_, rfl⟩
      obtain ⟨g8, hg8⟩ : ∃ g8, g8 = wr.heap.size := ⟨_, rfl⟩
      rw [← hv, ← hg8]
      have HB8 : Hid (v.heap[g8]? = some (.cells #[.string r'.key, .int .i64 r'.ls, .string r'.lp, .string r'.value, .slice A1 n2 c1] 27 (0, 0))) := by show _ = _; rw [hv, hg8]; exact blk_old (blk_new wr _ _) _
      have HB9 : Hid (v.heap[g8 + 1]? = some (.cells #[.string r'.key, .int .i64 r'.ls, .string r'.lp, .string r'.value, .slice A2 n2 c2] 27 (0, 0))) := by
        show _ = _
        have e : (wr.alloc (.cells #[.string r'.key, .int .i64 r'.ls, .string r'.lp, .string r'.value, .slice A1 n2 c1] 27)).heap.size = g8 + 1 := by rw [hg8]; simp
        rw [← e, hv]; exact blk_new _ _ _
      have HLv : Hid (Below w.heap.size w v) := by show Below _ _ _; rw [hv]; exact (HL.out.alloc hzw _).alloc (by simp; omega) _
      have hbv : Below wr.heap.size wr v := by rw [hv]; exact ((Below.refl _ wr).alloc (Nat.le_refl _) _).alloc (by simp) _
      have HO1 := Lib.hid (((HOK.out.below hbv hzw).more (Nat.le_trans hzw hbv.size)))
      have HO2 := Lib.hid (((HOK'.out.below hbv hzw).more (Nat.le_trans hzw hbv.size)))
      clear hv hg8 hbv g0 g1 g2 g3 g4 g0' g1' g2' g3' g4' e2 HOK HOK'
      obtain ⟨hc8, hf8⟩ := blk_read HB8.out
      obtain ⟨hc9, hf9⟩ := blk_read HB9.out
      go_wp2_with fail
      refine (keepSame_any r' A1 A2 n2 c1 c2 v HO1.out.recs.at_ HO2.out.recs.at_ (by have := HO1.out.recs.small; unfold maxLen; omega)).mono ?_
      rintro e w1 ⟨rfl, hb⟩
      have HL1 := Lib.hid (HLv.out.trans (hb.mono HLv.out.size))
      clear hb hc8 hf8 hc9 hf9
      go_wp2_with fail
      go_roundw
      case rel => exact ⟨⟨k + 1, by omega, by go_num⟩, HL1.out⟩
      case measure => simp [intOf]; omega
    · go_wp2
      go_ret
      exact ⟨rfl, HL.out⟩
end Go.Proofs.YtniomgngiiiklabDoor
