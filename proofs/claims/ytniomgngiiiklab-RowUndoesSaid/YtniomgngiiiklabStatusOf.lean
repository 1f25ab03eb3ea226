/- The walk of the reference's StatusOf. -/
import Derived.Test.YtniomgngiiiklabMay
import Derived.Test.YtniomgngiiiklabStatus
namespace Go.Proofs.Ytniomgngiiiklab
open Go.RowKit

set_option maxHeartbeats 1000000 in
theorem statusOf_any (r : MRow) (st : Int) (A : Option Addr) (n c : Nat) (w : World) (h : RowOk w w.heap.size r A n c) :
    Calls Try.prog 19 #[.agg #[.string r.key, .int .i64 r.ls, .string r.lp, .string r.value, .slice A n c], .int .i64 st] w
      fun e w' => e = .returned (stVal (statusF r st)) ∧ Below w.heap.size w w' := by
  have HR := Lib.hid h
  have hsm := h.recs.small
  have hle := h.recs.le
  have hm : n ≤ maxLen := by unfold maxLen; omega
  have Hm := Lib.hid hm
  clear h hm
  go_enter Try.func19, Try.ntmps19
  go_wp2_with fail
  refine (may_any r A n c _ ((HR.out.recs.at_.below ((Below.refl w.heap.size w).alloc (Nat.le_refl _) _) (Nat.le_refl _)).more (by simp)) Hm.out HR.out.key HR.out.lp).mono ?_
  rintro e w1 ⟨rfl, hb⟩
  have HL := Lib.hid (((Below.refl w.heap.size w).alloc (Nat.le_refl _) _).trans (hb.mono (by simp)))
  have HB := Lib.hid (blk_keep hb (blk_new w _ _) (by simp))
  obtain ⟨hc0, hf0⟩ := blk_read HB.out
  have hz := blk_lt HB.out
  clear hb
  cases hr : rowB r
  · go_wp2_with fail
    go_ret3
    exact ⟨by simp [stVal, statusF, hr], HL.out⟩
  cases ht : timeB st
  · go_wp2_with fail
    refine (isTime_any _ _).mono ?_
    rintro e w2 ⟨rfl, rfl⟩
    go_wp2_with fail
    go_ret3
    exact ⟨by simp [stVal, statusF, hr, ht], HL.out⟩
  go_wp2_with fail
  refine (isTime_any _ _).mono ?_
  rintro e w2 ⟨rfl, rfl⟩
  by_cases hl : r.ls = st
  · have el : (r.ls == st) = true := by simpa using hl
    have HS : Hid (statusF r st = (1, 0, 0)) := by show _ = _; simp [statusF, hr, ht, hl]
    clear hl
    go_wp2_with fail
    go_ret3
    exact ⟨by rw [HS.out]; rfl, HL.out⟩
  have el : (r.ls == st) = false := by simpa using hl
  have Hl := Lib.hid hl
  clear hl
  go_wp2_with fail
  refine (recOf_any r st A n c w1 ((HR.out.recs.at_.below HL.out (Nat.le_refl _)).more HL.out.size) Hm.out).mono ?_
  rintro e w2 ⟨rfl, hb⟩
  have HL2 := Lib.hid (HL.out.trans (hb.mono HL.out.size))
  clear hb hc0 hf0 hz HL HB
  cases e2 : recFind r.recs st with
  | none =>
    have HS : Hid (statusF r st = (0, 0, 0)) := by show _ = _; simp [statusF, hr, ht, Hl.out, e2]
    clear e2
    simp only [recVal, MRec.val, MRec.zero, Option.isSome_none]
    go_wp2_with fail
    go_ret3
    exact ⟨by rw [HS.out]; rfl, HL2.out.alloc HL2.out.size _⟩
  | some x =>
    simp only [recVal, MRec.val, Option.isSome_some]
    by_cases h0 : x.commit = 0
    · have HS : Hid (statusF r st = (3, 0, 0)) := by show _ = _; simp [statusF, hr, ht, Hl.out, e2, h0]
      have e0 : (x.commit == 0) = true := by simpa using h0
      clear e2 h0
      go_wp2_with fail
      go_ret3
      exact ⟨by rw [HS.out]; rfl, HL2.out.alloc HL2.out.size _⟩
    · have HS : Hid (statusF r st = (2, x.commit, 0)) := by show _ = _; simp [statusF, hr, ht, Hl.out, e2, h0]
      have e0 : (x.commit == 0) = false := by simpa using h0
      clear e2 h0
      go_wp2_with fail
      go_quiet (fail)
      go_wp2_with fail
      go_ret3
      exact ⟨by rw [HS.out]; rfl, below_drewN (HL2.out.alloc HL2.out.size _) _⟩
end Go.Proofs.Ytniomgngiiiklab
