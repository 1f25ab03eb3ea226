/- The walk of the reference's LockedOf. -/
import Derived.Test.YtniomgngiiiklabRowsBM
import Derived.Test.YtniomgngiiiklabStatGM
import Derived.Test.YtniomgngiiiklabCopiesM
import Derived.Deep.DeepCutAuto
import Derived.Test.YtniomgngiiiklabEndedM
import Derived.Test.YtniomgngiiiklabPlainM
import Derived.Test.YtniomgngiiiklabEndsM
namespace Go.Proofs.Ytniomgngiiiklab
open Go.RowKit

/-- A function's end whose result lies in a block that is known whole. -/
theorem bodyPost_blk {P : Program} {fn : Func} {R : Ending → World → Prop} {a : Act} {w : World} {v : Value} {g : Nat} {cs : Array Value} {t : TypeId}
    (hr : ∀ W : World, (∀ i, W.cell? ⟨g, i, none⟩ = cs[i]?) → (results fn a.tmps).run P W = .ok v W) (hc : w.heap[g]? = some (.cells cs t (0, 0))) (hd : a.defers = []) (hR : R (.returned v) w) : bodyPost P fn R .ret a w :=
  bodyPost_ret (hr w (blk_read hc).1) hd hR

/-- In a valid row what is committed was committed behind its start. -/
theorem row_rec {r : MRow} (hr : rowB r = true) {k : Nat} {x : MRec} (hx : r.recs[k]? = some x) : x.commit = 0 ∨ x.start < x.commit := by
  have hg : recsFold 0 0 r.recs ≠ none := by
    intro e
    simp [rowB, e] at hr
  cases hto : recsTo r.recs k with
  | none => exact absurd (recsTo_bad hto) hg
  | some last =>
    cases hs : recStep (prevOf r.recs k) last x with
    | none => exact absurd (recsTo_bad (k := k + 1) (by rw [recsTo_succ hx, hto]; exact hs)) hg
    | some last' =>
      obtain ⟨_, _, _, hc⟩ := recStep_some hs
      rcases hc with ⟨c0, _, _⟩ | ⟨_, c1, _, _, _⟩
      · exact .inl c0
      · exact .inr c1
theorem row_len {r : MRow} (hr : rowB r = true) : r.recs.length ≤ 100 := by
  simp only [rowB, headB, Bool.and_eq_true, decide_eq_true_eq] at hr
  exact hr.1.2.2.1
theorem status_late {r : MRow} {st s2 s3 : Int} (h : statusF r st = (2, s2, s3)) : (r.recs.any fun x => decide (st < x.commit)) = true := by
  unfold statusF at h
  cases hr : rowB r
  · rw [hr] at h; simp at h
  · cases ht : timeB st
    · rw [hr, ht] at h; simp at h
    · rw [hr, ht] at h
      simp only [if_true] at h
      by_cases hl : r.ls = st
      · rw [if_pos hl] at h; simp at h
      · rw [if_neg hl] at h
        cases hf : recFind r.recs st with
        | none => rw [hf] at h; simp at h
        | some x =>
          rw [hf] at h
          by_cases h0 : x.commit = 0
          · simp [h0] at h
          · unfold recFind at hf
            have hp := List.find?_some hf
            obtain ⟨k, hk, rfl⟩ := List.mem_iff_getElem.1 (List.mem_of_find?_eq_some hf)
            have hst : r.recs[k].start = st := by simpa using hp
            rcases row_rec hr (List.getElem?_eq_getElem hk) with h1 | h1
            · exact absurd h1 h0
            · exact any_hit (List.getElem?_eq_getElem hk) (by simp; omega)

set_option maxRecDepth 100000 in
set_option maxHeartbeats 8000000 in
theorem lockedOf_any (r : MRow) (st : Int) (p v : ByteArray) (A : Option Addr) (n c : Nat) (w : World) (h : RowOk w w.heap.size r A n c) (hp : p.size ≤ maxLen) :
    Calls Try.prog 66 #[.agg #[.string r.key, .int .i64 r.ls, .string r.lp, .string r.value, .slice A n c], .int .i64 st, .string p, .string v] w (RowRet w (lockRow r st p v) (lockCode r st p v)) := by
  have HR := Lib.hid h
  have hsm := h.recs.small
  have Hn := Lib.hid h.recs.at_.1
  have Hp := Lib.hid hp
  clear h hp
  go_enter Try.func66, Try.ntmps66
  go_wp2_with fail
  have hb0 := (((Below.refl w.heap.size w).alloc (Nat.le_refl _) (.cells #[.string r.key, .int .i64 r.ls, .string r.lp, .string r.value, .slice A n c] 26)).alloc (by simp) (.cells #[.string ⟨#[]⟩, .int .i64 0, .string ⟨#[]⟩, .string ⟨#[]⟩, .slice none 0 0] 26))
  refine (statusOf_any r st A n c _ ((HR.out.below hb0 (Nat.le_refl _)).more (by simp; omega))).mono ?_
  rintro e w1 ⟨rfl, hb⟩
  have HL := Lib.hid (hb0.trans (hb.mono (by simp; omega)))
  have HB0 := Lib.hid (blk_keep hb (g := w.heap.size) (blk_old (blk_new w _ _) _) (by simp; omega))
  have HB2 := Lib.hid (blk_keep hb (g := w.heap.size + 1) (blk_new_at (w.alloc _) _ _ (by simp)) (by simp))
  have hz := blk_lt HB2.out
  clear hb hb0
  obtain ⟨hc0, hf0⟩ := blk_read HB0.out
  obtain ⟨hc2, hf2⟩ := blk_read HB2.out
  obtain ⟨hs1, hs2⟩ := statusF_bounds r st
  have HLate : Hid (∀ s2 s3, statusF r st = (2, s2, s3) → (r.recs.any fun x => decide (st < x.commit)) = true) := fun s2 s3 h => status_late h
  generalize hstat : statusF r st = stt at hs1 hs2
  obtain ⟨s1, s2, s3⟩ := stt
  have HS := Lib.hid hstat
  clear hstat
  unfold stVal
  dsimp only at hs1 hs2 ⊢
  by_cases h3 : s3 = 0
  rotate_left
  · have HF : Hid (lockCode r st p v = s3) := by show _ = _; unfold lockCode; rw [HS.out]; exact if_pos h3
    have e3 : (s3 != 0) = true := by simpa using h3
    have HZ : Hid (lockRow r st p v = zeroRow) := by show _ = _; unfold lockRow; rw [HF.out, if_neg h3]
    clear h3 hs1 hs2
    go_wp2_with fail
    refine bodyPost_ret (v := .tuple #[.agg #[.string ⟨#[]⟩, .int .i64 0, .string ⟨#[]⟩, .string ⟨#[]⟩, .slice none 0 0], .int .i64 s3]) (by simp [results, Try.results66, go_sem, hc2]) rfl ?_
    rw [HF.out, HZ.out]
    refine rowRet_zero ?_
    have hb0 := HL.out
    repeat (refine Below.setCell ?_ (by first | (simp; done) | (simp; omega)) _)
    exact hb0
  subst h3
  clear hs2
  cases hk : keyB p
  · have HF : Hid (lockCode r st p v = 4) := by show _ = _; unfold lockCode; rw [HS.out]; simp [hk]
    have HZ : Hid (lockRow r st p v = zeroRow) := by show _ = _; unfold lockRow; rw [HF.out]; exact if_neg (by decide)
    clear hs1
    go_wp2_with fail
    refine (keyMay_any _ _ Hp.out).mono ?_
    rintro e w2 ⟨rfl, rfl⟩
    go_wp2_with fail
    refine bodyPost_ret (v := .tuple #[.agg #[.string ⟨#[]⟩, .int .i64 0, .string ⟨#[]⟩, .string ⟨#[]⟩, .slice none 0 0], .int .i64 4]) (by simp [results, Try.results66, go_sem, hc2]) rfl ?_
    rw [HF.out, HZ.out]
    refine rowRet_zero ?_
    have hb0 := HL.out
    repeat (refine Below.setCell ?_ (by first | (simp; done) | (simp; omega)) _)
    exact hb0
  go_wp2_with fail
  refine (keyMay_any _ _ Hp.out).mono ?_
  rintro e w2 ⟨rfl, rfl⟩
  by_cases hv : 20 < v.size
  · have HF : Hid (lockCode r st p v = 1) := by show _ = _; unfold lockCode; rw [HS.out]; simp [hk, hv]
    have HZ : Hid (lockRow r st p v = zeroRow) := by show _ = _; unfold lockRow; rw [HF.out]; exact if_neg (by decide)
    clear hs1
    go_wp2_with fail
    refine bodyPost_ret (v := .tuple #[.agg #[.string ⟨#[]⟩, .int .i64 0, .string ⟨#[]⟩, .string ⟨#[]⟩, .slice none 0 0], .int .i64 1]) (by simp [results, Try.results66, go_sem, hc2]) rfl ?_
    rw [HF.out, HZ.out]
    refine rowRet_zero ?_
    have hb0 := HL.out
    repeat (refine Below.setCell ?_ (by first | (simp; done) | (simp; omega)) _)
    exact hb0
  by_cases hg3 : s1 = 3
  · subst hg3
    have HF : Hid (lockCode r st p v = 9) := by show _ = _; unfold lockCode; rw [HS.out]; simp [hk, hv]
    have HZ : Hid (lockRow r st p v = zeroRow) := by show _ = _; unfold lockRow; rw [HF.out]; exact if_neg (by decide)
    clear hs1
    go_wp2_with fail
    refine bodyPost_ret (v := .tuple #[.agg #[.string ⟨#[]⟩, .int .i64 0, .string ⟨#[]⟩, .string ⟨#[]⟩, .slice none 0 0], .int .i64 9]) (by simp [results, Try.results66, go_sem, hc2]) rfl ?_
    rw [HF.out, HZ.out]
    refine rowRet_zero ?_
    have hb0 := HL.out
    repeat (refine Below.setCell ?_ (by first | (simp; done) | (simp; omega)) _)
    exact hb0
  have e3 : (s1 == 3) = false := by simpa using hg3
  have HA := Lib.hid hg3
  clear hg3 hs1
  have hr : rowB r = true := by
    have := HS.out
    unfold statusF at this
    cases hr : rowB r
    · rw [hr] at this; simp at this
    · rfl
  have hlen := row_len hr
  have HRB := Lib.hid hr
  clear hr
  rw [Hn.out] at hlen
  go_wp2_with fail
  go_loopw [13] (fun i wr => (∃ k : Nat, k ≤ n ∧ i = .int .i64 k ∧ ∀ (j : Nat) (y : MRec), j < k → r.recs[j]? = some y → decide (st < y.commit) = false) ∧ wr = w1) (fun i _ => n - (intOf i).toNat)
  case atStart => exact ⟨⟨0, Nat.zero_le _, rfl, by intro j y h; omega⟩, rfl⟩
  case round =>
    obtain ⟨⟨k, hkn, rfl, hall⟩, rfl⟩ := hrel
    have HAll := Lib.hid hall
    clear hall
    by_cases hlt : k < n
    · obtain ⟨x, b, off, hx, rfl, hbb, g0, g1, g2⟩ := (HR.out.recs.at_.below HL.out (Nat.le_refl _)).at_ hlt
      have HX := Lib.hid hx
      clear hx
      by_cases hlate : st < x.commit
      · have HF : Hid (lockCode r st p v = 8) := by
          show _ = _
          have := any_hit (p := fun x : MRec => decide (st < x.commit)) HX.out (decide_eq_true hlate)
          unfold lockCode; rw [HS.out]; simp [hk, hv, HA.out, this]
        have HZ : Hid (lockRow r st p v = zeroRow) := by show _ = _; unfold lockRow; rw [HF.out]; exact if_neg (by decide)
        go_wp2_with fail
        refine bodyPost_ret (v := .tuple #[.agg #[.string ⟨#[]⟩, .int .i64 0, .string ⟨#[]⟩, .string ⟨#[]⟩, .slice none 0 0], .int .i64 8]) (by simp [results, Try.results66, go_sem, hc2]) rfl ?_
        rw [HF.out, HZ.out]
        refine rowRet_zero ?_
        have hb0 := HL.out
        repeat (refine Below.setCell ?_ (by first | (simp; done) | (simp; omega)) _)
        exact hb0
      · have hd : decide (st < x.commit) = false := decide_eq_false hlate
        go_wp2_with fail
        go_roundw
        case rel => exact ⟨⟨k + 1, by omega, by go_num, none_snoc (p := fun y : MRec => decide (st < y.commit)) HX.out hd HAll.out⟩, trivial⟩
        case measure => simp [intOf]; omega
    · have hany : (r.recs.any fun x => decide (st < x.commit)) = false := any_none (none_all (p := fun y : MRec => decide (st < y.commit)) (k := k) (by have := Hn.out; omega) HAll.out)
      have hg2 : s1 ≠ 2 := by
        intro e
        have hS := HS.out
        rw [e] at hS
        have := HLate.out _ _ hS
        rw [hany] at this
        cases this
      have HA2 := Lib.hid hg2
      clear hg2
      by_cases hl : r.ls = 0
      rotate_left
      · have el : (r.ls != 0) = true := by simpa using hl
        have HF : Hid (lockCode r st p v = 7) := by show _ = _; unfold lockCode; rw [HS.out]; simp [HA.out, HA2.out, hk, hv, hany, hl]
        have HZ : Hid (lockRow r st p v = zeroRow) := by show _ = _; unfold lockRow; rw [HF.out]; exact if_neg (by decide)
        clear hany hl
        go_wp2_with fail
        refine bodyPost_ret (v := .tuple #[.agg #[.string ⟨#[]⟩, .int .i64 0, .string ⟨#[]⟩, .string ⟨#[]⟩, .slice none 0 0], .int .i64 7]) (by simp [results, Try.results66, go_sem, hc2]) rfl ?_
        rw [HF.out, HZ.out]
        refine rowRet_zero ?_
        have hb0 := HL.out
        repeat (refine Below.setCell ?_ (by first | (simp; done) | (simp; omega)) _)
        exact hb0
      have el : (r.ls != 0) = false := by simpa using hl
      have HLs := Lib.hid hl
      clear hl
      by_cases hn : n = 100
      · have Hn100 := Lib.hid hn
        have hn99 : 99 < n := by omega
        clear hn
        have HF : Hid (lockCode r st p v = 1) := by show _ = _; unfold lockCode; rw [HS.out]; simp [HA.out, HA2.out, hk, hv, hany, HLs.out, Hn.out, Hn100.out]
        have HZ : Hid (lockRow r st p v = zeroRow) := by show _ = _; unfold lockRow; rw [HF.out]; exact if_neg (by decide)
        clear hany
        go_wp2_with fail
        refine bodyPost_ret (v := .tuple #[.agg #[.string ⟨#[]⟩, .int .i64 0, .string ⟨#[]⟩, .string ⟨#[]⟩, .slice none 0 0], .int .i64 1]) (by simp [results, Try.results66, go_sem, hc2]) rfl ?_
        rw [HF.out, HZ.out]
        refine rowRet_zero ?_
        have hb0 := HL.out
        repeat (refine Below.setCell ?_ (by first | (simp; done) | (simp; omega)) _)
        exact hb0
      have HF : Hid (lockCode r st p v = 0) := by show _ = _; unfold lockCode; rw [HS.out]; simp [HA.out, HA2.out, hk, hv, hany, HLs.out, Hn.out, hn]
      have HZ : Hid (lockRow r st p v = { r with ls := st, lp := p, value := v }) := by show _ = _; unfold lockRow; rw [HF.out]; rfl
      have hn99 : n ≤ 99 := by omega
      clear hany hn
      go_wp2_with fail
      refine (refCopy_any r A n c _ ((HR.out.below HL.out (Nat.le_refl _)).more HL.out.size)).mono ?_
      rintro e w4 ⟨A', c', rfl, hown, hb⟩
      have HL4 := Lib.hid (HL.out.trans (hb.mono HL.out.size))
      have HO := Lib.hid (own_more hown HL.out.size)
      have HB24 := Lib.hid (blk_keep hb HB2.out hz)
      clear hb hown hc0 hf0 hc2 hf2 hz
      have hz := blk_lt HB24.out
      obtain ⟨hc2, hf2⟩ := blk_read HB24.out
      go_wp2_with fail
      refine bodyPost_blk (v := .tuple #[.agg #[.string r.key, .int .i64 st, .string p, .string v, .slice A' n c'], .int .i64 0]) (g := w.heap.size + 1) (fun W hW => by simp [results, Try.results66, go_sem, hW]) (blk_old (blk_row5 HB24.out _ _ _ _ _) _) rfl ?_
      rw [HF.out, HZ.out]
      refine ⟨A', c', by rw [Hn.out], ?_, ?_⟩
      · show World.ownsRow _ _ _ _ (.slice A' r.recs.length c') r.recs.length (recCells r.recs)
        rw [Hn.out]
        exact (own_row5_far HO.out (own_ne HO.out HB24.out (by decide)) _ _ _ _ _).alloc _
      · have hb5 := below_row5 (g := w.heap.size + 1) HL4.out (by omega) (.string r.key) (.int .i64 st) (.string p) (.string v) (.slice A' n c')
        exact hb5.alloc hb5.size _
end Go.Proofs.Ytniomgngiiiklab

/- ended's records are the code's. No program's walk. -/
namespace Go.Proofs.Ytniomgngiiiklab
open Go.RowKit

theorem ended_insRecs {r : MRow} {x : MRec} (hr : RowGood r) (hne : ∀ y ∈ r.recs, y.start ≠ x.start) : loRecs r.recs x.start ++ x :: hiRecs r.recs x.start = insRecs r.recs x := insRecs_filter hr.recs.pair hne
theorem status_locked_ne {r : MRow} {st s2 : Int} (h : statusF r st = (1, s2, 0)) : ∀ y ∈ r.recs, y.start ≠ st := by
  have h0 : (statusF r st).2.2 = 0 := by rw [h]
  have h1 : (statusF r st).1 = 1 := by rw [h]
  have hl := status_one h0 h1
  have hg := rowB_iff.1 (statusF_good h0).1
  have hb := timeB_bounds (statusF_good h0).2
  intro y hy
  have := ((hg.lock (by omega)).2.2.2.1 y hy).1
  rw [hl] at this; exact this
theorem own_insRecs {w : World} {base m n : Nat} {e : TypeId} {v : Value} {l : List MRec} {x : MRec} (h : w.ownsRow base e 3 v m (recCells (insRecs l x))) (hn : l.length = n) : m = n + 1 := by
  have := h.1
  rw [recCells_length, length_insRecs] at this
  omega

end Go.Proofs.Ytniomgngiiiklab

/- The walk of the reference's UndoneOf. -/
namespace Go.Proofs.Ytniomgngiiiklab
open Go.RowKit

set_option maxRecDepth 100000 in
set_option maxHeartbeats 8000000 in
theorem undoneOf_any (r : MRow) (st : Int) (A : Option Addr) (n c : Nat) (w : World) (h : RowOk w w.heap.size r A n c) :
    Calls Try.prog 8 #[.agg #[.string r.key, .int .i64 r.ls, .string r.lp, .string r.value, .slice A n c], .int .i64 st] w (RowRet w (undoRow r st) (undoCode r st)) := by
  have HR := Lib.hid h
  have hsm := h.recs.small
  have Hn := Lib.hid h.recs.at_.1
  have Hm : Hid (n ≤ maxLen) := by show _ ≤ _; unfold maxLen; omega
  have HG : Hid ((statusF r st).2.2 = 0 → n ≤ 100) := fun h0 => by
    have := (rowB_iff.1 (statusF_good h0).1).len
    rw [Hn.out] at this; exact this
  clear h
  go_enter Try.func8, Try.ntmps8
  go_wp2_with fail
  have hb0 := (((Below.refl w.heap.size w).alloc (Nat.le_refl _) (.cells #[.string r.key, .int .i64 r.ls, .string r.lp, .string r.value, .slice A n c] 26)).alloc (by simp) (.cells #[.string ⟨#[]⟩, .int .i64 0, .string ⟨#[]⟩, .string ⟨#[]⟩, .slice none 0 0] 26))
  refine (statusOf_any r st A n c _ ((HR.out.below hb0 (Nat.le_refl _)).more (by simp; omega))).mono ?_
  rintro e w1 ⟨rfl, hb⟩
  have HL := Lib.hid (hb0.trans (hb.mono (by simp; omega)))
  have HB0 := Lib.hid (blk_keep hb (g := w.heap.size) (blk_old (blk_new w _ _) _) (by simp; omega))
  have HB1 := Lib.hid (blk_keep hb (g := w.heap.size + 1) (blk_new_at (w.alloc _) _ _ (by simp)) (by simp))
  clear hb hb0
  have hz := blk_lt HB1.out
  try clear hc0 hf0
  obtain ⟨hc0, hf0⟩ := blk_read HB0.out
  try clear hc1 hf1
  obtain ⟨hc1, hf1⟩ := blk_read HB1.out
  obtain ⟨hs1, hs2⟩ := statusF_bounds r st
  generalize hstat : statusF r st = stt at hs1 hs2
  obtain ⟨s1, s2, s3⟩ := stt
  have HS := Lib.hid hstat
  clear hstat
  unfold stVal
  dsimp only at hs1 hs2 ⊢
  by_cases h3 : s3 = 0
  rotate_left
  · have HF : Hid (undoCode r st = s3) := by show _ = _; unfold undoCode; rw [HS.out]; exact if_pos h3
    have e3 : (s3 != 0) = true := by simpa using h3
    have HZ : Hid (undoRow r st = zeroRow) := by show _ = _; unfold undoRow; rw [HF.out, if_neg h3]
    clear h3 hs1 hs2
    go_wp2_with fail
    refine bodyPost_ret (v := .tuple #[.agg #[.string ⟨#[]⟩, .int .i64 0, .string ⟨#[]⟩, .string ⟨#[]⟩, .slice none 0 0], .int .i64 s3]) (by simp [results, Try.results8, go_sem, hc1]) rfl ?_
    rw [HF.out, HZ.out]
    exact rowRet_zero (below_row5 HL.out (by omega) _ _ _ _ _)
  subst h3
  have hn100 : n ≤ 100 := HG.out (by rw [HS.out])
  clear hs2
  by_cases hls : r.ls = 0
  · have el : (r.ls != 0) = false := by simpa using hls
    have HLS := Lib.hid hls
    clear hls
    by_cases hg2 : s1 = 2
    · subst hg2
      have HF : Hid (undoCode r st = 6) := by show _ = _; unfold undoCode; rw [HS.out]; simp
      have HZ : Hid (undoRow r st = zeroRow) := by show _ = _; unfold undoRow; rw [HF.out]; exact if_neg (by decide)
      clear hs1
      go_wp2_with fail
      refine bodyPost_ret (v := .tuple #[.agg #[.string ⟨#[]⟩, .int .i64 0, .string ⟨#[]⟩, .string ⟨#[]⟩, .slice none 0 0], .int .i64 6]) (by simp [results, Try.results8, go_sem, hc1]) rfl ?_
      rw [HF.out, HZ.out]
      exact rowRet_zero (below_row5 HL.out (by omega) _ _ _ _ _)
    have e2 : (s1 == 2) = false := by simpa using hg2
    by_cases hg3 : s1 = 3
    · subst hg3
      have HF : Hid (undoCode r st = 0) := by show _ = _; unfold undoCode; rw [HS.out]; simp
      have HZ : Hid (undoRow r st = r) := by show _ = _; unfold undoRow; rw [HF.out, HS.out]; simp
      clear hs1 hg2
      go_wp2_with fail
      refine (refCopy_any r A n c w1 ((HR.out.below HL.out (Nat.le_refl _)).more HL.out.size)).mono ?_
      rintro e w2 ⟨A2, c2, rfl, hown, hb⟩
      have HO := Lib.hid (own_more (base' := w.heap.size) hown HL.out.size)
      clear hown
      first | have hold := old0 HL hb (by first | exact Nat.le_refl _ | (simp; done) | (simp; omega)) | have hold := old1 HL hb (by first | exact Nat.le_refl _ | (simp; done) | (simp; omega)) | have hold := old2 HL hb (by first | exact Nat.le_refl _ | (simp; done) | (simp; omega)) | have hold := old3 HL hb (by first | exact Nat.le_refl _ | (simp; done) | (simp; omega))
      replace HB0 := hold.blk HB0
      replace HB1 := hold.blk HB1
      first | replace HL := keepL0 HL hb (by first | exact Nat.le_refl _ | (have := HL.out.size; omega) | (have := HL.out.size; simp at this; omega)) (by first | exact Nat.le_refl _ | (simp; done) | (simp; omega)) | replace HL := keepL1 HL hb (by first | exact Nat.le_refl _ | (have := HL.out.size; omega) | (have := HL.out.size; simp at this; omega)) (by first | exact Nat.le_refl _ | (simp; done) | (simp; omega)) | replace HL := keepL2 HL hb (by first | exact Nat.le_refl _ | (have := HL.out.size; omega) | (have := HL.out.size; simp at this; omega)) (by first | exact Nat.le_refl _ | (simp; done) | (simp; omega)) | replace HL := keepL3 HL hb (by first | exact Nat.le_refl _ | (have := HL.out.size; omega) | (have := HL.out.size; simp at this; omega)) (by first | exact Nat.le_refl _ | (simp; done) | (simp; omega))
      clear hb hold
      try clear hc0 hf0
      obtain ⟨hc0, hf0⟩ := blk_read HB0.out
      try clear hc1 hf1
      obtain ⟨hc1, hf1⟩ := blk_read HB1.out
      have hz := blk_lt HB1.out
      go_wp2_with fail
      refine bodyPost_ret (v := .tuple #[.agg #[.string r.key, .int .i64 r.ls, .string r.lp, .string r.value, .slice A2 n c2], .int .i64 0]) (by simp [results, Try.results8, go_sem, hc1]) rfl ?_
      rw [HF.out, HZ.out]
      refine ⟨A2, c2, by rw [Hn.out], ?_, below_row5 HL.out (by omega) _ _ _ _ _⟩
      rw [Hn.out]
      exact own_row5_far HO.out (own_ne HO.out HB1.out (by decide)) _ _ _ _ _
    have e3 : (s1 == 3) = false := by simpa using hg3
    have HG3 := Lib.hid hg3
    have HG2 := Lib.hid hg2
    clear hg3 hg2
    by_cases hfull : s1 = 0 ∧ 100 ≤ n
    · have HF : Hid (undoCode r st = 1) := by show _ = _; unfold undoCode; rw [HS.out, Hn.out]; simp only [HG2.out, HG3.out]; simp; have := HLS.out; exact ⟨hfull.1, fun h => by omega⟩
      have HZ : Hid (undoRow r st = zeroRow) := by show _ = _; unfold undoRow; rw [HF.out]; exact if_neg (by decide)
      obtain ⟨h0, hf⟩ := hfull
      have e0 : (s1 == 0) = true := by simpa using h0
      have hge : (100 : Int) ≤ (n : Int) := by omega
      clear hs1 h0 hf
      go_wp2_with fail
      refine bodyPost_ret (v := .tuple #[.agg #[.string ⟨#[]⟩, .int .i64 0, .string ⟨#[]⟩, .string ⟨#[]⟩, .slice none 0 0], .int .i64 1]) (by simp [results, Try.results8, go_sem, hc1]) rfl ?_
      rw [HF.out, HZ.out]
      exact rowRet_zero (below_row5 HL.out (by omega) _ _ _ _ _)
    have HF : Hid (undoCode r st = 0) := by show _ = _; unfold undoCode; rw [HS.out, Hn.out]; have := HLS.out; simp only [HG2.out, HG3.out]; rw [if_neg (by omega), if_neg (by simp), if_neg (by simp), if_neg (by omega)]
    have HZ : Hid (undoRow r st = withF r ⟨st, 0, ⟨#[]⟩⟩) := by show _ = _; unfold undoRow; rw [HF.out, HS.out]; simp [HG3.out]
    have HRF : Hid (recFind r.recs st = none) := by
      obtain ⟨_, _, hh⟩ := undoCode_ok HF.out
      rcases hh with ⟨h3, _⟩ | ⟨_, hf, _⟩
      · rw [HS.out] at h3; exact absurd h3 HG3.out
      · exact hf
    have HRB : Hid (rowB r = true) := (undoCode_ok HF.out).1
    by_cases h0 : s1 = 0
    · have e0 : (s1 == 0) = true := by simpa using h0
      have hlt : (n : Int) < (100 : Int) := by omega
      have hnn : ¬ (100 : Int) ≤ (n : Int) := by omega
      clear hs1 h0 hfull
      go_wp2_with fail
      refine (ended_any r ⟨st, 0, ⟨#[]⟩⟩ A n c w1 ((HR.out.below HL.out (Nat.le_refl _)).more HL.out.size) hn100).mono ?_
      rintro e w2 ⟨A2, n2, c2, rfl, hown, hb⟩
      have HO := Lib.hid (own_more (base' := w.heap.size) hown HL.out.size)
      rw [ended_insRecs (x := ⟨st, 0, ⟨#[]⟩⟩) (rowB_iff.1 HRB.out) (recFind_none HRF.out)] at HO
      obtain rfl : n2 = n + 1 := own_insRecs HO.out Hn.out
      clear hown
      first | have hold := old0 HL hb (by first | exact Nat.le_refl _ | (simp; done) | (simp; omega)) | have hold := old1 HL hb (by first | exact Nat.le_refl _ | (simp; done) | (simp; omega)) | have hold := old2 HL hb (by first | exact Nat.le_refl _ | (simp; done) | (simp; omega)) | have hold := old3 HL hb (by first | exact Nat.le_refl _ | (simp; done) | (simp; omega))
      replace HB0 := hold.blk HB0
      replace HB1 := hold.blk HB1
      first | replace HL := keepL0 HL hb (by first | exact Nat.le_refl _ | (have := HL.out.size; omega) | (have := HL.out.size; simp at this; omega)) (by first | exact Nat.le_refl _ | (simp; done) | (simp; omega)) | replace HL := keepL1 HL hb (by first | exact Nat.le_refl _ | (have := HL.out.size; omega) | (have := HL.out.size; simp at this; omega)) (by first | exact Nat.le_refl _ | (simp; done) | (simp; omega)) | replace HL := keepL2 HL hb (by first | exact Nat.le_refl _ | (have := HL.out.size; omega) | (have := HL.out.size; simp at this; omega)) (by first | exact Nat.le_refl _ | (simp; done) | (simp; omega)) | replace HL := keepL3 HL hb (by first | exact Nat.le_refl _ | (have := HL.out.size; omega) | (have := HL.out.size; simp at this; omega)) (by first | exact Nat.le_refl _ | (simp; done) | (simp; omega))
      clear hb hold
      try clear hc0 hf0
      obtain ⟨hc0, hf0⟩ := blk_read HB0.out
      try clear hc1 hf1
      obtain ⟨hc1, hf1⟩ := blk_read HB1.out
      have hz := blk_lt HB1.out
      go_wp2_with fail
      refine bodyPost_ret (v := .tuple #[.agg #[.string r.key, .int .i64 (withF r ⟨st, 0, ⟨#[]⟩⟩).ls, .string (withF r ⟨st, 0, ⟨#[]⟩⟩).lp, .string (withF r ⟨st, 0, ⟨#[]⟩⟩).value, .slice A2 (n + 1) c2], .int .i64 0]) (by simp [results, Try.results8, go_sem, hc1]) rfl ?_
      rw [HF.out, HZ.out]
      exact rowRet_with Hn.out (own_row5_far HO.out (own_ne HO.out HB1.out (by decide)) _ _ _ _ _) (below_row5 HL.out (by omega) _ _ _ _ _)
    · have e0 : (s1 == 0) = false := by simpa using h0
      clear hs1 h0 hfull
      go_wp2_with fail
      refine (ended_any r ⟨st, 0, ⟨#[]⟩⟩ A n c w1 ((HR.out.below HL.out (Nat.le_refl _)).more HL.out.size) hn100).mono ?_
      rintro e w2 ⟨A2, n2, c2, rfl, hown, hb⟩
      have HO := Lib.hid (own_more (base' := w.heap.size) hown HL.out.size)
      rw [ended_insRecs (x := ⟨st, 0, ⟨#[]⟩⟩) (rowB_iff.1 HRB.out) (recFind_none HRF.out)] at HO
      obtain rfl : n2 = n + 1 := own_insRecs HO.out Hn.out
      clear hown
      first | have hold := old0 HL hb (by first | exact Nat.le_refl _ | (simp; done) | (simp; omega)) | have hold := old1 HL hb (by first | exact Nat.le_refl _ | (simp; done) | (simp; omega)) | have hold := old2 HL hb (by first | exact Nat.le_refl _ | (simp; done) | (simp; omega)) | have hold := old3 HL hb (by first | exact Nat.le_refl _ | (simp; done) | (simp; omega))
      replace HB0 := hold.blk HB0
      replace HB1 := hold.blk HB1
      first | replace HL := keepL0 HL hb (by first | exact Nat.le_refl _ | (have := HL.out.size; omega) | (have := HL.out.size; simp at this; omega)) (by first | exact Nat.le_refl _ | (simp; done) | (simp; omega)) | replace HL := keepL1 HL hb (by first | exact Nat.le_refl _ | (have := HL.out.size; omega) | (have := HL.out.size; simp at this; omega)) (by first | exact Nat.le_refl _ | (simp; done) | (simp; omega)) | replace HL := keepL2 HL hb (by first | exact Nat.le_refl _ | (have := HL.out.size; omega) | (have := HL.out.size; simp at this; omega)) (by first | exact Nat.le_refl _ | (simp; done) | (simp; omega)) | replace HL := keepL3 HL hb (by first | exact Nat.le_refl _ | (have := HL.out.size; omega) | (have := HL.out.size; simp at this; omega)) (by first | exact Nat.le_refl _ | (simp; done) | (simp; omega))
      clear hb hold
      try clear hc0 hf0
      obtain ⟨hc0, hf0⟩ := blk_read HB0.out
      try clear hc1 hf1
      obtain ⟨hc1, hf1⟩ := blk_read HB1.out
      have hz := blk_lt HB1.out
      go_wp2_with fail
      refine bodyPost_ret (v := .tuple #[.agg #[.string r.key, .int .i64 (withF r ⟨st, 0, ⟨#[]⟩⟩).ls, .string (withF r ⟨st, 0, ⟨#[]⟩⟩).lp, .string (withF r ⟨st, 0, ⟨#[]⟩⟩).value, .slice A2 (n + 1) c2], .int .i64 0]) (by simp [results, Try.results8, go_sem, hc1]) rfl ?_
      rw [HF.out, HZ.out]
      exact rowRet_with Hn.out (own_row5_far HO.out (own_ne HO.out HB1.out (by decide)) _ _ _ _ _) (below_row5 HL.out (by omega) _ _ _ _ _)
  · have el : (r.ls != 0) = true := by simpa using hls
    have HLS := Lib.hid hls
    clear hls
    by_cases hg2 : s1 = 2
    · subst hg2
      have HF : Hid (undoCode r st = 6) := by show _ = _; unfold undoCode; rw [HS.out]; simp
      have HZ : Hid (undoRow r st = zeroRow) := by show _ = _; unfold undoRow; rw [HF.out]; exact if_neg (by decide)
      clear hs1
      go_wp2_with fail
      refine bodyPost_ret (v := .tuple #[.agg #[.string ⟨#[]⟩, .int .i64 0, .string ⟨#[]⟩, .string ⟨#[]⟩, .slice none 0 0], .int .i64 6]) (by simp [results, Try.results8, go_sem, hc1]) rfl ?_
      rw [HF.out, HZ.out]
      exact rowRet_zero (below_row5 HL.out (by omega) _ _ _ _ _)
    have e2 : (s1 == 2) = false := by simpa using hg2
    by_cases hg3 : s1 = 3
    · subst hg3
      have HF : Hid (undoCode r st = 0) := by show _ = _; unfold undoCode; rw [HS.out]; simp
      have HZ : Hid (undoRow r st = r) := by show _ = _; unfold undoRow; rw [HF.out, HS.out]; simp
      clear hs1 hg2
      go_wp2_with fail
      refine (refCopy_any r A n c w1 ((HR.out.below HL.out (Nat.le_refl _)).more HL.out.size)).mono ?_
      rintro e w2 ⟨A2, c2, rfl, hown, hb⟩
      have HO := Lib.hid (own_more (base' := w.heap.size) hown HL.out.size)
      clear hown
      first | have hold := old0 HL hb (by first | exact Nat.le_refl _ | (simp; done) | (simp; omega)) | have hold := old1 HL hb (by first | exact Nat.le_refl _ | (simp; done) | (simp; omega)) | have hold := old2 HL hb (by first | exact Nat.le_refl _ | (simp; done) | (simp; omega)) | have hold := old3 HL hb (by first | exact Nat.le_refl _ | (simp; done) | (simp; omega))
      replace HB0 := hold.blk HB0
      replace HB1 := hold.blk HB1
      first | replace HL := keepL0 HL hb (by first | exact Nat.le_refl _ | (have := HL.out.size; omega) | (have := HL.out.size; simp at this; omega)) (by first | exact Nat.le_refl _ | (simp; done) | (simp; omega)) | replace HL := keepL1 HL hb (by first | exact Nat.le_refl _ | (have := HL.out.size; omega) | (have := HL.out.size; simp at this; omega)) (by first | exact Nat.le_refl _ | (simp; done) | (simp; omega)) | replace HL := keepL2 HL hb (by first | exact Nat.le_refl _ | (have := HL.out.size; omega) | (have := HL.out.size; simp at this; omega)) (by first | exact Nat.le_refl _ | (simp; done) | (simp; omega)) | replace HL := keepL3 HL hb (by first | exact Nat.le_refl _ | (have := HL.out.size; omega) | (have := HL.out.size; simp at this; omega)) (by first | exact Nat.le_refl _ | (simp; done) | (simp; omega))
      clear hb hold
      try clear hc0 hf0
      obtain ⟨hc0, hf0⟩ := blk_read HB0.out
      try clear hc1 hf1
      obtain ⟨hc1, hf1⟩ := blk_read HB1.out
      have hz := blk_lt HB1.out
      go_wp2_with fail
      refine bodyPost_ret (v := .tuple #[.agg #[.string r.key, .int .i64 r.ls, .string r.lp, .string r.value, .slice A2 n c2], .int .i64 0]) (by simp [results, Try.results8, go_sem, hc1]) rfl ?_
      rw [HF.out, HZ.out]
      refine ⟨A2, c2, by rw [Hn.out], ?_, below_row5 HL.out (by omega) _ _ _ _ _⟩
      rw [Hn.out]
      exact own_row5_far HO.out (own_ne HO.out HB1.out (by decide)) _ _ _ _ _
    have e3 : (s1 == 3) = false := by simpa using hg3
    have HG3 := Lib.hid hg3
    have HG2 := Lib.hid hg2
    clear hg3 hg2
    by_cases hfull : s1 = 0 ∧ 99 ≤ n
    · have HF : Hid (undoCode r st = 1) := by show _ = _; unfold undoCode; rw [HS.out, Hn.out]; simp only [HG2.out, HG3.out]; simp; have := HLS.out; exact ⟨hfull.1, fun h => by omega⟩
      have HZ : Hid (undoRow r st = zeroRow) := by show _ = _; unfold undoRow; rw [HF.out]; exact if_neg (by decide)
      obtain ⟨h0, hf⟩ := hfull
      have e0 : (s1 == 0) = true := by simpa using h0
      have hge : (99 : Int) ≤ (n : Int) := by omega
      clear hs1 h0 hf
      go_wp2_with fail
      refine bodyPost_ret (v := .tuple #[.agg #[.string ⟨#[]⟩, .int .i64 0, .string ⟨#[]⟩, .string ⟨#[]⟩, .slice none 0 0], .int .i64 1]) (by simp [results, Try.results8, go_sem, hc1]) rfl ?_
      rw [HF.out, HZ.out]
      exact rowRet_zero (below_row5 HL.out (by omega) _ _ _ _ _)
    have HF : Hid (undoCode r st = 0) := by show _ = _; unfold undoCode; rw [HS.out, Hn.out]; have := HLS.out; simp only [HG2.out, HG3.out]; rw [if_neg (by omega), if_neg (by simp), if_neg (by simp), if_neg (by omega)]
    have HZ : Hid (undoRow r st = withF r ⟨st, 0, ⟨#[]⟩⟩) := by show _ = _; unfold undoRow; rw [HF.out, HS.out]; simp [HG3.out]
    have HRF : Hid (recFind r.recs st = none) := by
      obtain ⟨_, _, hh⟩ := undoCode_ok HF.out
      rcases hh with ⟨h3, _⟩ | ⟨_, hf, _⟩
      · rw [HS.out] at h3; exact absurd h3 HG3.out
      · exact hf
    have HRB : Hid (rowB r = true) := (undoCode_ok HF.out).1
    by_cases h0 : s1 = 0
    · have e0 : (s1 == 0) = true := by simpa using h0
      have hlt : (n : Int) < (99 : Int) := by omega
      have hnn : ¬ (99 : Int) ≤ (n : Int) := by omega
      clear hs1 h0 hfull
      go_wp2_with fail
      refine (ended_any r ⟨st, 0, ⟨#[]⟩⟩ A n c w1 ((HR.out.below HL.out (Nat.le_refl _)).more HL.out.size) hn100).mono ?_
      rintro e w2 ⟨A2, n2, c2, rfl, hown, hb⟩
      have HO := Lib.hid (own_more (base' := w.heap.size) hown HL.out.size)
      rw [ended_insRecs (x := ⟨st, 0, ⟨#[]⟩⟩) (rowB_iff.1 HRB.out) (recFind_none HRF.out)] at HO
      obtain rfl : n2 = n + 1 := own_insRecs HO.out Hn.out
      clear hown
      first | have hold := old0 HL hb (by first | exact Nat.le_refl _ | (simp; done) | (simp; omega)) | have hold := old1 HL hb (by first | exact Nat.le_refl _ | (simp; done) | (simp; omega)) | have hold := old2 HL hb (by first | exact Nat.le_refl _ | (simp; done) | (simp; omega)) | have hold := old3 HL hb (by first | exact Nat.le_refl _ | (simp; done) | (simp; omega))
      replace HB0 := hold.blk HB0
      replace HB1 := hold.blk HB1
      first | replace HL := keepL0 HL hb (by first | exact Nat.le_refl _ | (have := HL.out.size; omega) | (have := HL.out.size; simp at this; omega)) (by first | exact Nat.le_refl _ | (simp; done) | (simp; omega)) | replace HL := keepL1 HL hb (by first | exact Nat.le_refl _ | (have := HL.out.size; omega) | (have := HL.out.size; simp at this; omega)) (by first | exact Nat.le_refl _ | (simp; done) | (simp; omega)) | replace HL := keepL2 HL hb (by first | exact Nat.le_refl _ | (have := HL.out.size; omega) | (have := HL.out.size; simp at this; omega)) (by first | exact Nat.le_refl _ | (simp; done) | (simp; omega)) | replace HL := keepL3 HL hb (by first | exact Nat.le_refl _ | (have := HL.out.size; omega) | (have := HL.out.size; simp at this; omega)) (by first | exact Nat.le_refl _ | (simp; done) | (simp; omega))
      clear hb hold
      try clear hc0 hf0
      obtain ⟨hc0, hf0⟩ := blk_read HB0.out
      try clear hc1 hf1
      obtain ⟨hc1, hf1⟩ := blk_read HB1.out
      have hz := blk_lt HB1.out
      go_wp2_with fail
      refine bodyPost_ret (v := .tuple #[.agg #[.string r.key, .int .i64 (withF r ⟨st, 0, ⟨#[]⟩⟩).ls, .string (withF r ⟨st, 0, ⟨#[]⟩⟩).lp, .string (withF r ⟨st, 0, ⟨#[]⟩⟩).value, .slice A2 (n + 1) c2], .int .i64 0]) (by simp [results, Try.results8, go_sem, hc1]) rfl ?_
      rw [HF.out, HZ.out]
      exact rowRet_with Hn.out (own_row5_far HO.out (own_ne HO.out HB1.out (by decide)) _ _ _ _ _) (below_row5 HL.out (by omega) _ _ _ _ _)
    · have e0 : (s1 == 0) = false := by simpa using h0
      clear hs1 h0 hfull
      go_wp2_with fail
      refine (ended_any r ⟨st, 0, ⟨#[]⟩⟩ A n c w1 ((HR.out.below HL.out (Nat.le_refl _)).more HL.out.size) hn100).mono ?_
      rintro e w2 ⟨A2, n2, c2, rfl, hown, hb⟩
      have HO := Lib.hid (own_more (base' := w.heap.size) hown HL.out.size)
      rw [ended_insRecs (x := ⟨st, 0, ⟨#[]⟩⟩) (rowB_iff.1 HRB.out) (recFind_none HRF.out)] at HO
      obtain rfl : n2 = n + 1 := own_insRecs HO.out Hn.out
      clear hown
      first | have hold := old0 HL hb (by first | exact Nat.le_refl _ | (simp; done) | (simp; omega)) | have hold := old1 HL hb (by first | exact Nat.le_refl _ | (simp; done) | (simp; omega)) | have hold := old2 HL hb (by first | exact Nat.le_refl _ | (simp; done) | (simp; omega)) | have hold := old3 HL hb (by first | exact Nat.le_refl _ | (simp; done) | (simp; omega))
      replace HB0 := hold.blk HB0
      replace HB1 := hold.blk HB1
      first | replace HL := keepL0 HL hb (by first | exact Nat.le_refl _ | (have := HL.out.size; omega) | (have := HL.out.size; simp at this; omega)) (by first | exact Nat.le_refl _ | (simp; done) | (simp; omega)) | replace HL := keepL1 HL hb (by first | exact Nat.le_refl _ | (have := HL.out.size; omega) | (have := HL.out.size; simp at this; omega)) (by first | exact Nat.le_refl _ | (simp; done) | (simp; omega)) | replace HL := keepL2 HL hb (by first | exact Nat.le_refl _ | (have := HL.out.size; omega) | (have := HL.out.size; simp at this; omega)) (by first | exact Nat.le_refl _ | (simp; done) | (simp; omega)) | replace HL := keepL3 HL hb (by first | exact Nat.le_refl _ | (have := HL.out.size; omega) | (have := HL.out.size; simp at this; omega)) (by first | exact Nat.le_refl _ | (simp; done) | (simp; omega))
      clear hb hold
      try clear hc0 hf0
      obtain ⟨hc0, hf0⟩ := blk_read HB0.out
      try clear hc1 hf1
      obtain ⟨hc1, hf1⟩ := blk_read HB1.out
      have hz := blk_lt HB1.out
      go_wp2_with fail
      refine bodyPost_ret (v := .tuple #[.agg #[.string r.key, .int .i64 (withF r ⟨st, 0, ⟨#[]⟩⟩).ls, .string (withF r ⟨st, 0, ⟨#[]⟩⟩).lp, .string (withF r ⟨st, 0, ⟨#[]⟩⟩).value, .slice A2 (n + 1) c2], .int .i64 0]) (by simp [results, Try.results8, go_sem, hc1]) rfl ?_
      rw [HF.out, HZ.out]
      exact rowRet_with Hn.out (own_row5_far HO.out (own_ne HO.out HB1.out (by decide)) _ _ _ _ _) (below_row5 HL.out (by omega) _ _ _ _ _)
end Go.Proofs.Ytniomgngiiiklab
