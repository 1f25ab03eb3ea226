/- The walk of the reference's StatusOf. -/
import Derived.Test.YtniomgngiiiklabMayAM
import Derived.Test.YtniomgngiiiklabRowsBM
import Derived.Test.YtniomgngiiiklabGroundM
namespace Go.Proofs.Ytniomgngiiiklab
open Go.RowKit

set_option maxHeartbeats 1000000 in
theorem statusOf_any (r : MRow) (st : Int) (A : Option Addr) (n c : Nat) (w : World) (h : RowOk w w.heap.size r A n c) :
    Calls Try.prog 19 #[.agg #[.string r.key, .int .i64 r.ls, .string r.lp, .string r.value, .slice A n c], .int .i64 st] w
      fun e w' => e = .returned (stVal (statusF r st)) ∧ Below w.heap.size w w' := by
  have HR := Lib.hid h
  have hsm := h.recs.small
  have hle := h.recs.le
  have hm : n ≤ maxLen := by unfold maxLen; omega
  have Hm := Lib.hid hm
  clear h hm
  go_enter Try.func19, Try.ntmps19
  go_wp2_with fail
  refine (may_any r A n c _ ((HR.out.recs.at_.below ((Below.refl w.heap.size w).alloc (Nat.le_refl _) _) (Nat.le_refl _)).more (by simp)) Hm.out HR.out.key HR.out.lp).mono ?_
  rintro e w1 ⟨rfl, hb⟩
  have HL := Lib.hid (((Below.refl w.heap.size w).alloc (Nat.le_refl _) _).trans (hb.mono (by simp)))
  have HB := Lib.hid (blk_keep hb (blk_new w _ _) (by simp))
  obtain ⟨hc0, hf0⟩ := blk_read HB.out
  have hz := blk_lt HB.out
  clear hb
  cases hr : rowB r
  · go_wp2_with fail
    go_ret3
    exact ⟨by simp [stVal, statusF, hr], HL.out⟩
  cases ht : timeB st
  · go_wp2_with fail
    refine (isTime_any _ _).mono ?_
    rintro e w2 ⟨rfl, rfl⟩
    go_wp2_with fail
    go_ret3
    exact ⟨by simp [stVal, statusF, hr, ht], HL.out⟩
  go_wp2_with fail
  refine (isTime_any _ _).mono ?_
  rintro e w2 ⟨rfl, rfl⟩
  by_cases hl : r.ls = st
  · have el : (r.ls == st) = true := by simpa using hl
    have HS : Hid (statusF r st = (1, 0, 0)) := by show _ = _; simp [statusF, hr, ht, hl]
    clear hl
    go_wp2_with fail
    go_ret3
    exact ⟨by rw [HS.out]; rfl, HL.out⟩
  have el : (r.ls == st) = false := by simpa using hl
  have Hl := Lib.hid hl
  clear hl
  go_wp2_with fail
  refine (recOf_any r st A n c w1 ((HR.out.recs.at_.below HL.out (Nat.le_refl _)).more HL.out.size) Hm.out).mono ?_
  rintro e w2 ⟨rfl, hb⟩
  have HL2 := Lib.hid (HL.out.trans (hb.mono HL.out.size))
  clear hb hc0 hf0 hz HL HB
  cases e2 : recFind r.recs st with
  | none =>
    have HS : Hid (statusF r st = (0, 0, 0)) := by show _ = _; simp [statusF, hr, ht, Hl.out, e2]
    clear e2
    simp only [recVal, MRec.val, MRec.zero, Option.isSome_none]
    go_wp2_with fail
    go_ret3
    exact ⟨by rw [HS.out]; rfl, HL2.out.alloc HL2.out.size _⟩
  | some x =>
    simp only [recVal, MRec.val, Option.isSome_some]
    by_cases h0 : x.commit = 0
    · have HS : Hid (statusF r st = (3, 0, 0)) := by show _ = _; simp [statusF, hr, ht, Hl.out, e2, h0]
      have e0 : (x.commit == 0) = true := by simpa using h0
      clear e2 h0
      go_wp2_with fail
      go_ret3
      exact ⟨by rw [HS.out]; rfl, HL2.out.alloc HL2.out.size _⟩
    · have HS : Hid (statusF r st = (2, x.commit, 0)) := by show _ = _; simp [statusF, hr, ht, Hl.out, e2, h0]
      have e0 : (x.commit == 0) = false := by simpa using h0
      clear e2 h0
      go_wp2_with fail
      go_quiet (fail)
      go_wp2_with fail
      go_ret3
      exact ⟨by rw [HS.out]; rfl, below_drewN (HL2.out.alloc HL2.out.size _) _⟩
end Go.Proofs.Ytniomgngiiiklab

/- The walk of the reference's ReadOf, and the plain law that its answer is row.Read's. -/
namespace Go.Proofs.Ytniomgngiiiklab
open Go.RowKit

def bestStep (t : Int) (b x : MRec) : MRec := if x.commit ≤ t ∧ b.commit < x.commit then x else b
def bestTo (rs : List MRec) (t : Int) (k : Nat) : MRec := (rs.take k).foldl (bestStep t) MRec.zero
theorem bestTo_succ {rs : List MRec} {t : Int} {k : Nat} {x : MRec} (hx : rs[k]? = some x) : bestTo rs t (k + 1) = bestStep t (bestTo rs t k) x := by
  obtain ⟨hk, rfl⟩ := List.getElem?_eq_some_iff.1 hx
  unfold bestTo
  rw [List.take_succ_eq_append_getElem hk, List.foldl_append]
  rfl

theorem lastHit_snoc (l : List MRec) (x : MRec) (t : Int) : lastHit (l ++ [x]) t = if hitB t x then some x else lastHit l t := by
  unfold lastHit
  rw [List.reverse_append]
  show List.find? (hitB t) ([x].reverse ++ l.reverse) = _
  simp only [List.reverse_singleton, List.singleton_append, List.find?_cons]
  cases hitB t x <;> rfl

theorem best_last {rs : List MRec} {t : Int} (hg : recsFold 0 0 rs ≠ none) : ∀ {k : Nat}, k ≤ rs.length →
    bestTo rs t k = (lastHit (rs.take k) t).getD MRec.zero ∧ 0 ≤ (bestTo rs t k).commit ∧ (decide (0 < (bestTo rs t k).commit) = (lastHit (rs.take k) t).isSome) ∧ (∀ last, recsTo rs k = some last → (bestTo rs t k).commit ≤ last)
  | 0, _ => ⟨rfl, Int.le_refl _, rfl, fun last h => by rw [recsTo_zero] at h; injection h with h; subst h; exact Int.le_refl _⟩
  | k + 1, hk => by
    have hx : rs[k]? = some rs[k] := List.getElem?_eq_getElem (by omega)
    obtain ⟨h1, h2, h3, h4⟩ := best_last (t := t) hg (k := k) (by omega)
    cases hto : recsTo rs k with
    | none => exact absurd (recsTo_bad hto) hg
    | some last =>
      cases hs : recStep (prevOf rs k) last rs[k] with
      | none => exact absurd (recsTo_bad (k := k + 1) (by rw [recsTo_succ hx, hto]; exact hs)) hg
      | some last' =>
        have hb := h4 last hto
        obtain ⟨ht, _, _, hc⟩ := recStep_some hs
        have htb := timeB_bounds ht
        have hn : recsTo rs (k + 1) = some last' := by rw [recsTo_succ hx, hto]; exact hs
        rw [bestTo_succ hx, List.take_succ_eq_append_getElem (show k < rs.length by omega), lastHit_snoc]
        have hiff : (rs[k].commit ≤ t ∧ (bestTo rs t k).commit < rs[k].commit) ↔ hitB t rs[k] = true := by
          simp only [hitB, Bool.and_eq_true, Bool.not_eq_true', decide_eq_false_iff_not, decide_eq_true_eq]
          rcases hc with ⟨c0, _, _⟩ | ⟨c0, c1, _, c3, _⟩
          · constructor
            · intro h; omega
            · intro h; exact absurd c0 h.1
          · constructor
            · intro h; exact ⟨c0, h.1⟩
            · intro h; exact ⟨h.2, by omega⟩
        unfold bestStep
        by_cases hh : hitB t rs[k] = true
        · rw [if_pos (hiff.2 hh), if_pos hh]
          have hlt := (hiff.2 hh).2
          refine ⟨rfl, by omega, by simp; omega, fun l hl => ?_⟩
          rw [hn] at hl; injection hl with hl; subst hl
          rcases hc with ⟨c0, _, _⟩ | ⟨_, _, _, _, rfl⟩
          · omega
          · exact Int.le_refl _
        · rw [if_neg (fun h => hh (hiff.1 h)), if_neg hh]
          refine ⟨h1, h2, h3, fun l hl => ?_⟩
          rw [hn] at hl; injection hl with hl; subst hl
          rcases hc with ⟨_, rfl, _⟩ | ⟨_, _, _, _, rfl⟩ <;> omega

theorem best_all {r : MRow} {t : Int} {n : Nat} (hr : rowB r = true) (hn : r.recs.length = n) : hitRes (lastHit r.recs t) = ((bestTo r.recs t n).value, decide (0 < (bestTo r.recs t n).commit), 0) := by
  have hg : recsFold 0 0 r.recs ≠ none := by
    intro e
    simp [rowB, e] at hr
  obtain ⟨h1, _, h3, _⟩ := best_last (t := t) hg (k := n) (by omega)
  rw [List.take_of_length_le (by omega)] at h1 h3
  rw [h3, h1]
  cases lastHit r.recs t <;> rfl

theorem row_lock_zero {r : MRow} (hr : rowB r = true) : r.ls = 0 ∨ 1 ≤ r.ls := by
  by_cases h0 : r.ls = 0
  · exact .inl h0
  · simp only [rowB, headB, lockB, h0, if_false, Bool.and_eq_true] at hr
    have := timeB_bounds hr.1.2.2.2.1
    exact .inr this.1

set_option maxHeartbeats 2000000 in
set_option maxRecDepth 100000 in
theorem readOf_any (r : MRow) (t : Int) (A : Option Addr) (n c : Nat) (w : World) (h : RowOk w w.heap.size r A n c) :
    Calls Try.prog 33 #[.agg #[.string r.key, .int .i64 r.ls, .string r.lp, .string r.value, .slice A n c], .int .i64 t] w
      fun e w' => e = .returned (readVal (readF r t)) ∧ Below w.heap.size w w' := by
  have HR := Lib.hid h
  have hsm := h.recs.small
  have hle := h.recs.le
  have hm : n ≤ 9223372036854775807 := by omega
  have Hm : Hid (n ≤ maxLen) := by show _ ≤ _; unfold maxLen; omega
  have Hn := Lib.hid h.recs.at_.1
  clear h
  go_enter Try.func33, Try.ntmps33
  go_wp2_with fail
  refine (may_any r A n c _ ((HR.out.recs.at_.below ((Below.refl w.heap.size w).alloc (Nat.le_refl _) _) (Nat.le_refl _)).more (by simp)) Hm.out HR.out.key HR.out.lp).mono ?_
  rintro e w1 ⟨rfl, hb⟩
  have HL := Lib.hid (((Below.refl w.heap.size w).alloc (Nat.le_refl _) _).trans (hb.mono (by simp)))
  have HB := Lib.hid (blk_keep hb (blk_new w _ _) (by simp))
  obtain ⟨hc0, hf0⟩ := blk_read HB.out
  have hz := blk_lt HB.out
  clear hb
  cases hr : rowB r
  · go_wp2_with fail
    go_ret3
    exact ⟨by simp [readVal, readF, hr], HL.out⟩
  cases ht : timeB t
  · go_wp2_with fail
    refine (isTime_any _ _).mono ?_
    rintro e w2 ⟨rfl, rfl⟩
    go_wp2_with fail
    go_ret3
    exact ⟨by simp [readVal, readF, hr, ht], HL.out⟩
  go_wp2_with fail
  refine (isTime_any _ _).mono ?_
  rintro e w2 ⟨rfl, rfl⟩
  by_cases hl : r.ls ≠ 0 ∧ r.ls ≤ t
  · have hin : inB r.ls 1 t = true := by have := row_lock_zero hr; simp [inB]; omega
    have HF : Hid (readF r t = (⟨#[]⟩, false, 7)) := by show _ = _; simp only [readF, hr, ht, if_true]; rw [if_pos hl]
    clear hl
    go_wp2_with fail
    refine (in_any _ _ _ _).mono ?_
    rintro e w2 ⟨rfl, rfl⟩
    go_wp2_with fail
    go_ret3
    exact ⟨by rw [HF.out]; rfl, HL.out⟩
  have hin : inB r.ls 1 t = false := by simp [inB]; omega
  have HF : Hid (readF r t = ((bestTo r.recs t n).value, decide (0 < (bestTo r.recs t n).commit), 0)) := by
    show _ = _
    rw [← best_all hr Hn.out]
    simp only [readF, hr, ht, if_true]
    rw [if_neg hl]
  clear hl
  go_wp2_with fail
  refine (in_any _ _ _ _).mono ?_
  rintro e w2 ⟨rfl, rfl⟩
  go_wp2_with fail
  have Hin := Lib.hid hin
  have Hr := Lib.hid hr
  have Ht := Lib.hid ht
  clear hin hr ht
  go_loopw [8] (fun i wr => (∃ k : Nat, k ≤ n ∧ i = .int .i64 k ∧ wr.heap[w1.heap.size]? = some (.cells #[.int .i64 (bestTo r.recs t k).start, .int .i64 (bestTo r.recs t k).commit, .string (bestTo r.recs t k).value] 55 (0, 0))) ∧ Below w.heap.size w wr ∧ wr.heap[w.heap.size]? = some (.cells #[.string r.key, .int .i64 r.ls, .string r.lp, .string r.value, .slice A n c] 26 (0, 0))) (fun i _ => n - (intOf i).toNat)
  case atStart => exact ⟨⟨0, Nat.zero_le _, rfl, blk_new w1 _ _⟩, HL.out.alloc HL.out.size _, blk_old HB.out _⟩
  case round =>
    obtain ⟨⟨k, hk, rfl, hbest⟩, hbel, hblk⟩ := hrel
    have HX := Lib.hid hbest
    have HL' := Lib.hid hbel
    have HB' := Lib.hid hblk
    clear hbest hbel hblk hc0 hf0
    obtain ⟨hc0, hf0⟩ := blk_read HB'.out
    generalize hbt : bestTo r.recs t k = bt at HX
    have HBT := Lib.hid hbt
    clear hbt
    obtain ⟨hcx, hfx⟩ := blk_read HX.out
    by_cases hlt : k < n
    · obtain ⟨x, b, off, hx, rfl, hbb, g0, g1, g2⟩ := (HR.out.recs.at_.below HL'.out (Nat.le_refl _)).at_ hlt
      have HS := Lib.hid (bestTo_succ (t := t) hx)
      have hkn : (k : Int) < (n : Int) := by omega
      have hk0 : (0 : Int) ≤ (k : Int) := by omega
      clear hx
      by_cases h1 : x.commit ≤ t
      · have d1 : decide (x.commit ≤ t) = true := decide_eq_true h1
        by_cases h2 : bt.commit < x.commit
        · have d2 : decide (bt.commit < x.commit) = true := decide_eq_true h2
          have HE : Hid (bestTo r.recs t (k + 1) = x) := by show _ = _; rw [HS.out, HBT.out]; unfold bestStep; rw [if_pos ⟨h1, h2⟩]
          clear h1 h2
          go_wp2_with fail
          go_quiet (fail)
          go_wp2_with fail
          go_roundw
          case rel =>
            refine ⟨⟨k + 1, by omega, by go_num, ?_⟩, ?_, ?_⟩
            · rw [HE.out]
              simpa using blk_set (blk_set (blk_set (blk_drewN HX.out nq) 0 (.int .i64 x.start)) 1 (.int .i64 x.commit)) 2 (.string x.value)
            · exact (((below_drewN HL'.out nq).setCell (by simp; omega) _).setCell (by simp; omega) _).setCell (by simp; omega) _
            · exact blk_far (blk_far (blk_far (blk_drewN HB'.out nq) (by simp; omega) _) (by simp; omega) _) (by simp; omega) _
          case measure => simp [intOf]; omega
        · have d2 : decide (bt.commit < x.commit) = false := decide_eq_false h2
          have HE : Hid (bestTo r.recs t (k + 1) = bt) := by show _ = _; rw [HS.out, HBT.out]; unfold bestStep; rw [if_neg (fun h => h2 h.2)]
          clear h1 h2
          go_wp2_with fail
          go_quiet (fail)
          go_wp2_with fail
          go_roundw
          case rel => exact ⟨⟨k + 1, by omega, by go_num, by rw [HE.out]; exact HX.out⟩, below_drewN HL'.out nq, HB'.out⟩
          case measure => simp [intOf]; omega
      · have d1 : decide (x.commit ≤ t) = false := decide_eq_false h1
        have HE : Hid (bestTo r.recs t (k + 1) = bt) := by show _ = _; rw [HS.out, HBT.out]; unfold bestStep; rw [if_neg (fun h => h1 h.1)]
        clear h1
        go_wp2_with fail
        go_quiet (fail)
        go_wp2_with fail
        go_roundw
        case rel => exact ⟨⟨k + 1, by omega, by go_num, by rw [HE.out]; exact HX.out⟩, below_drewN HL'.out nq, HB'.out⟩
        case measure => simp [intOf]; omega
    · have hkn : k = n := by omega
      have HK := Lib.hid hkn
      clear hkn
      go_wp2_with fail
      go_quiet (fail)
      go_wp2_with fail
      go_ret3
      refine ⟨?_, below_drewN HL'.out nq⟩
      rw [HF.out, ← HK.out, HBT.out]
      rfl
end Go.Proofs.Ytniomgngiiiklab
