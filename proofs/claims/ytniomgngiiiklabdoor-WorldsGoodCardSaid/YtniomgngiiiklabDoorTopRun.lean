/- The walk of top's run. -/
import Derived.Test.YtniomgngiiiklabDoorRunW
namespace Go.Proofs.YtniomgngiiiklabDoor
open Go.RowKit

theorem length_runStep {p : List MAns × MWorld} {a : MAct} : (runStep p a).1.length = p.1.length + 1 := by
  unfold runStep
  split <;> simp
theorem length_fold : ∀ (l : List MAct) (p : List MAns × MWorld), (l.foldl runStep p).1.length = p.1.length + l.length
  | [], p => by simp
  | a :: l, p => by rw [List.foldl_cons, length_fold l, length_runStep, List.length_cons]; omega
theorem length_runM (n : Nat) (l : List MAct) : (runM n l).1.length = l.length := by
  unfold runM
  rw [length_fold]
  show 0 + _ = _
  omega
theorem len_of_cells {α : Type} {f : α → List Value} {s n : Nat} {l : List α} {w : World} {base c : Nat} {e : TypeId} {A : Option Addr} (hf : ∀ x, (f x).length = s) (hs : 0 < s) (h : w.ownsRow base e s (.slice A n c) n (l.flatMap f)) : n = l.length := by
  have h1 := h.1
  rw [flat_length hf l] at h1
  exact (Nat.eq_of_mul_eq_mul_right hs h1).symm

set_option maxRecDepth 100000 in
set_option maxHeartbeats 2000000 in
theorem topRun_any (l : List MAct) (A : Option Addr) (m c : Nat) (w : World) (h : ActsOk w w.heap.size A m l) (hm : m ≤ 400) :
    Calls Tryd.prog 15 #[.slice A m c] w (RunRet w ((runM 4 l).1, (runM 4 l).2, 0)) := by
  have HA := Lib.hid h
  have HM := Lib.hid h.len
  clear h
  have hmm : m ≤ maxLen := by unfold maxLen; omega
  have HMM := Lib.hid hmm
  clear hmm
  obtain ⟨R, hR⟩ : ∃ R, R = runM 4 l := ⟨_, rfl⟩
  rw [← hR]
  have HLN : Hid (R.1.length = l.length) := by show _ = _; rw [hR]; exact length_runM 4 l
  have e4 : runAll 4 l = (R.1, R.2, 0) := by rw [hR]; exact runAll_ok (n := 4) (by decide) (by decide) (by rw [HM.out]; exact hm)
  have HE4 := Lib.hid e4
  clear e4 hR
  go_enter Tryd.func15, Tryd.ntmps15
  go_wp2_with fail
  obtain ⟨v, hv⟩ : ∃ v, v = w.alloc (.cells #[.slice none 0 0, .int .i64 0, .slice none 0 0] 37) := ⟨_, rfl⟩
  rw [← hv]
  have HL0 : Hid (Below w.heap.size w v) := by show Below _ _ _; rw [hv]; exact (Below.refl _ w).alloc (Nat.le_refl _) _
  have HB0 : Hid (v.heap[w.heap.size]? = some (.cells #[.slice none 0 0, .int .i64 0, .slice none 0 0] 37 (0, 0))) := by show _ = _; rw [hv]; exact blk_new w _ _
  obtain ⟨g3, hg3⟩ : ∃ g3, g3 = w.heap.size := ⟨_, rfl⟩
  rw [← hg3] at HB0 ⊢
  have HG3 : Hid (g3 = w.heap.size) := hg3
  clear hv hg3
  refine (txnRun_any 4 l A m c v (((HA.out.below HL0.out (Nat.le_refl _)).more HL0.out.size)) HMM.out).mono ?_
  rintro e w1 hr
  rw [HE4.out] at hr
  obtain ⟨A1, k, c1, B1, n1, e1, hs, B2, n2, e2, hs', rfl, ho, hor, hoc, hb⟩ := hr
  have hk := len_of_cells (f := MAns.cells) (s := 5) (fun _ => rfl) (by decide) ho
  rw [HLN.out, HM.out] at hk
  subst hk
  have HO := Lib.hid (own_more ho HL0.out.size)
  have HOR := Lib.hid (hor.more HL0.out.size)
  have HOC := Lib.hid (hoc.more HL0.out.size)
  have HL1 := Lib.hid (HL0.out.trans (hb.mono HL0.out.size))
  have HB1 := Lib.hid (blk_keep hb HB0.out (blk_lt HB0.out))
  clear ho hor hoc hb HB0 HL0
  dsimp only
  go_upto_region 2 with (fail)
  obtain ⟨v2, hv2⟩ : ∃ v2, v2 = w1.alloc (.cells #[.slice B1 n1 e1, .int .i64 R.2.clock, .slice B2 n2 e2] 37) := ⟨_, rfl⟩
  rw [← hv2]
  have HB6 : Hid (v2.heap[w1.heap.size]? = some (.cells #[.slice B1 n1 e1, .int .i64 R.2.clock, .slice B2 n2 e2] 37 (0, 0))) := by show _ = _; rw [hv2]; exact blk_new w1 _ _
  have HB3 : Hid (v2.heap[g3]? = some (.cells #[.slice none 0 0, .int .i64 0, .slice none 0 0] 37 (0, 0))) := by show _ = _; rw [hv2]; exact blk_old HB1.out _
  have hb2 : Below w1.heap.size w1 v2 := by rw [hv2]; exact (Below.refl _ w1).alloc (Nat.le_refl _) _
  have HL2 := Lib.hid (HL1.out.trans (hb2.mono HL1.out.size))
  have HO2 := Lib.hid (own_at HO.out (fun g hg => hb2.block g hg))
  have HOR2 := Lib.hid (HOR.out.below hb2 (Nat.le_refl _))
  have HOC2 := Lib.hid (HOC.out.below hb2 (Nat.le_refl _))
  obtain ⟨g6, hg6⟩ : ∃ g6, g6 = w1.heap.size := ⟨_, rfl⟩
  rw [← hg6] at HB6 ⊢
  have n1' : ¬ (g3 = g6) := by have := blk_lt HB1.out; omega
  have n2' : ¬ (g6 = g3) := by have := blk_lt HB1.out; omega
  clear hv2 hg6 hb2 HB1 HO HOR HOC HL1
  obtain ⟨hc6, hf6⟩ := blk_read HB6.out
  obtain ⟨hc3, hf3⟩ := blk_read HB3.out
  go_upto_region 4 with (fail)
  go_cut [2, 4] (fun a b wx => a = .slice A1 k c1 ∧ b = .int .i64 0 ∧ wx.heap[g3]? = some (.cells #[.slice B1 n1 e1, .int .i64 R.2.clock, .slice B2 n2 e2] 37 (0, 0)) ∧ Keeps [37] w.heap.size v2 wx)
  case first =>
    go_region
    all_goals
      go_wp2_with fail
      go_meet
      exact ⟨rfl, rfl, blk_row3 HB3.out _ _ _, (Keeps.set3 (ts := [37]) HB3.out (by simp) (by rw [HG3.out]; exact Nat.le_refl _) _ _ _ _ _ _).drew⟩
  case rest =>
    obtain ⟨rfl, rfl, hb5, hk3⟩ := hcut
    have HO3 := Lib.hid (hk3.own HO2.out (by decide))
    have HOR3 := Lib.hid (hk3.rows HOR2.out (by decide) (by decide))
    have HOC3 := Lib.hid (hk3.clients HOC2.out (by decide) (by decide))
    have HL3 := Lib.hid (HL2.out.trans hk3.below)
    clear hk3 hc6 hf6 hc3 hf3
    obtain ⟨hc5, hf5⟩ := blk_read hb5
    clear hb5
    go_wp2_with fail
    refine bodyPost_ret (v := .tuple #[.slice A1 k c1, .agg #[.slice B1 n1 e1, .int .i64 R.2.clock, .slice B2 n2 e2], .int .i64 0]) (by simp [results, Tryd.results15, go_sem, hc5]) rfl ?_
    exact ⟨A1, k, c1, B1, n1, e1, hs, B2, n2, e2, hs', rfl, HO3.out, HOR3.out, HOC3.out, HL3.out⟩
end Go.Proofs.YtniomgngiiiklabDoor
