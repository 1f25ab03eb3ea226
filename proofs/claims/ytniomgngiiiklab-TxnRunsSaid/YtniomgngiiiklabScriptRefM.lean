/- The walk of the reference's ScriptOf. -/
import Derived.Test.YtniomgngiiiklabRunWM
import Derived.Test.YtniomgngiiiklabDidRefM
namespace Go.Proofs.Ytniomgngiiiklab
open Go.RowKit

section
variable {w2 : World} {B g g' : Nat} {a b c a' b' c' d' e' p q r : Value} {cs : Array Value}
theorem twoA (hB : B ≤ w2.heap.size) : ((w2.alloc (.cells #[a, b, c] 36)).alloc (.cells #[a', b', c', d', e'] 41)).heap[w2.heap.size]? = some (.cells #[a, b, c] 36 (0, 0)) ∧ ((w2.alloc (.cells #[a, b, c] 36)).alloc (.cells #[a', b', c', d', e'] 41)).heap[w2.heap.size + 1]? = some (.cells #[a', b', c', d', e'] 41 (0, 0)) ∧
    Keeps [36, 41] B w2 ((w2.alloc (.cells #[a, b, c] 36)).alloc (.cells #[a', b', c', d', e'] 41)) := by
  obtain ⟨_, h1, h2⟩ := blk_new2 w2 (a := #[a, b, c]) (b := #[a', b', c', d', e']) (ta := 36) (tb := 41)
  exact ⟨h1, h2, ((Keeps.refl _ _ w2).alloc _ hB).alloc _ (by simp; omega)⟩
theorem twoB (hB : B ≤ w2.heap.size) : ((w2.alloc (.cells #[a', b', c', d', e'] 41)).alloc (.cells #[a, b, c] 36)).heap[w2.heap.size + 1]? = some (.cells #[a, b, c] 36 (0, 0)) ∧ ((w2.alloc (.cells #[a', b', c', d', e'] 41)).alloc (.cells #[a, b, c] 36)).heap[w2.heap.size]? = some (.cells #[a', b', c', d', e'] 41 (0, 0)) ∧
    Keeps [36, 41] B w2 ((w2.alloc (.cells #[a', b', c', d', e'] 41)).alloc (.cells #[a, b, c] 36)) := by
  obtain ⟨_, h1, h2⟩ := blk_new2 w2 (a := #[a', b', c', d', e']) (b := #[a, b, c]) (ta := 41) (tb := 36)
  exact ⟨h2, h1, ((Keeps.refl _ _ w2).alloc _ hB).alloc _ (by simp; omega)⟩
theorem twoC (hB : B ≤ g) (hg : w2.heap[g]? = some (.cells #[p, q, r] 36 (0, 0))) :
    ((((w2.setCell ⟨g, 0, none⟩ a).setCell ⟨g, 1, none⟩ b).setCell ⟨g, 2, none⟩ c).alloc (.cells #[a', b', c', d', e'] 41)).heap[g]? = some (.cells #[a, b, c] 36 (0, 0)) ∧ ((((w2.setCell ⟨g, 0, none⟩ a).setCell ⟨g, 1, none⟩ b).setCell ⟨g, 2, none⟩ c).alloc (.cells #[a', b', c', d', e'] 41)).heap[w2.heap.size]? = some (.cells #[a', b', c', d', e'] 41 (0, 0)) ∧
    Keeps [36, 41] B w2 ((((w2.setCell ⟨g, 0, none⟩ a).setCell ⟨g, 1, none⟩ b).setCell ⟨g, 2, none⟩ c).alloc (.cells #[a', b', c', d', e'] 41)) :=
  ⟨blk_old (blk_row3r hg a b c) _, blk_new_at _ _ _ (by simp), (Keeps.set3r hg (by simp) hB 0 1 2 a b c).alloc _ (by have := blk_lt hg; simp; omega)⟩
theorem twoD {x0 x1 x2 x3 x4 : Value} (hB : B ≤ g) (hg : w2.heap[g]? = some (.cells #[x0, x1, x2, x3, x4] 41 (0, 0))) :
    ((((((w2.setCell ⟨g, 0, none⟩ a').setCell ⟨g, 1, none⟩ b').setCell ⟨g, 2, none⟩ c').setCell ⟨g, 3, none⟩ d').setCell ⟨g, 4, none⟩ e').alloc (.cells #[a, b, c] 36)).heap[w2.heap.size]? = some (.cells #[a, b, c] 36 (0, 0)) ∧ ((((((w2.setCell ⟨g, 0, none⟩ a').setCell ⟨g, 1, none⟩ b').setCell ⟨g, 2, none⟩ c').setCell ⟨g, 3, none⟩ d').setCell ⟨g, 4, none⟩ e').alloc (.cells #[a, b, c] 36)).heap[g]? = some (.cells #[a', b', c', d', e'] 41 (0, 0)) ∧
    Keeps [36, 41] B w2 ((((((w2.setCell ⟨g, 0, none⟩ a').setCell ⟨g, 1, none⟩ b').setCell ⟨g, 2, none⟩ c').setCell ⟨g, 3, none⟩ d').setCell ⟨g, 4, none⟩ e').alloc (.cells #[a, b, c] 36)) :=
  ⟨blk_new_at _ _ _ (by simp), blk_old (blk_row5 hg a' b' c' d' e') _, (Keeps.set5 hg (by simp) hB 0 1 2 3 4 a' b' c' d' e').alloc _ (by have := blk_lt hg; simp; omega)⟩
theorem twoE {x0 x1 x2 x3 x4 : Value} (hB : B ≤ g) (hB' : B ≤ g') (hne : g ≠ g') (hg : w2.heap[g]? = some (.cells #[p, q, r] 36 (0, 0))) (hg' : w2.heap[g']? = some (.cells #[x0, x1, x2, x3, x4] 41 (0, 0))) :
    ((((((((w2.setCell ⟨g, 0, none⟩ a).setCell ⟨g, 1, none⟩ b).setCell ⟨g, 2, none⟩ c).setCell ⟨g', 0, none⟩ a').setCell ⟨g', 1, none⟩ b').setCell ⟨g', 2, none⟩ c').setCell ⟨g', 3, none⟩ d').setCell ⟨g', 4, none⟩ e').heap[g]? = some (.cells #[a, b, c] 36 (0, 0)) ∧
    ((((((((w2.setCell ⟨g, 0, none⟩ a).setCell ⟨g, 1, none⟩ b).setCell ⟨g, 2, none⟩ c).setCell ⟨g', 0, none⟩ a').setCell ⟨g', 1, none⟩ b').setCell ⟨g', 2, none⟩ c').setCell ⟨g', 3, none⟩ d').setCell ⟨g', 4, none⟩ e').heap[g']? = some (.cells #[a', b', c', d', e'] 41 (0, 0)) ∧
    Keeps [36, 41] B w2 ((((((((w2.setCell ⟨g, 0, none⟩ a).setCell ⟨g, 1, none⟩ b).setCell ⟨g, 2, none⟩ c).setCell ⟨g', 0, none⟩ a').setCell ⟨g', 1, none⟩ b').setCell ⟨g', 2, none⟩ c').setCell ⟨g', 3, none⟩ d').setCell ⟨g', 4, none⟩ e') := by
  have hf : (((w2.setCell ⟨g, 0, none⟩ a).setCell ⟨g, 1, none⟩ b).setCell ⟨g, 2, none⟩ c).heap[g']? = some (.cells #[x0, x1, x2, x3, x4] 41 (0, 0)) := blk_far (blk_far (blk_far hg' (p := ⟨g, 0, none⟩) (fun e => hne e.symm) a) (p := ⟨g, 1, none⟩) (fun e => hne e.symm) b) (p := ⟨g, 2, none⟩) (fun e => hne e.symm) c
  exact ⟨blk_row5_far (blk_row3r hg a b c) hne a' b' c' d' e', blk_row5 hf a' b' c' d' e', (Keeps.set3r (ts := [36, 41]) hg (by simp) hB 0 1 2 a b c).trans (Keeps.set5 hf (by simp) hB' 0 1 2 3 4 a' b' c' d' e')⟩
end

set_option maxRecDepth 100000 in
set_option maxHeartbeats 8000000 in
theorem scriptOf_any (n : Int) (l : List MAct) (A : Option Addr) (m c : Nat) (w : World) (h : ActsOk w w.heap.size A m l) (hm : m ≤ maxLen) (hkk : ∀ a ∈ l, a.key.size ≤ maxLen) :
    Calls Try.prog 15 #[.int .i64 n, .slice A m c] w (RunRet w (runAll n l)) := by
  unfold maxLen at hm
  obtain ⟨i0, hi0, hz0, hz1, hz2⟩ := info_parts info_ans
  obtain ⟨j0, hj0, hy0, hy1, hy2⟩ := info_parts info_client
  have HA := Lib.hid h
  have HM := Lib.hid h.len
  have HKEYS := Lib.hid hkk
  clear h hkk
  by_cases hn : n < 1 ∨ 5 < n
  · have HC : Hid (runCode n l = 2) := by show _ = _; unfold runCode; rw [if_pos hn]
    have HX : Hid (inB n 1 5 = false) := by show _ = _; unfold inB; simp only [Bool.and_eq_false_iff, decide_eq_false_iff_not]; omega
    clear hn
    go_enter Try.func15, Try.ntmps15
    go_wp2_with fail
    obtain ⟨v, hv⟩ : ∃ v, v = w.alloc (.cells #[.slice none 0 0, .int .i64 0, .slice none 0 0] 36) := ⟨_, rfl⟩
    rw [← hv]
    have HB5 : Hid (v.heap[w.heap.size]? = some (.cells #[.slice none 0 0, .int .i64 0, .slice none 0 0] 36 (0, 0))) := by show _ = _; rw [hv]; exact blk_new _ _ _
    have HL : Hid (Below w.heap.size w v) := by show Below _ _ _; rw [hv]; exact (Below.refl _ w).alloc (Nat.le_refl _) _
    clear hv
    refine (in_is HX.out v).mono ?_
    rintro e w' ⟨rfl, rfl⟩
    obtain ⟨hc5, hf5⟩ := blk_read HB5.out
    go_wp2_with fail
    refine bodyPost_ret (v := .tuple #[.slice none 0 0, .agg #[.slice none 0 0, .int .i64 0, .slice none 0 0], .int .i64 2]) (by simp [results, Try.results15, go_sem, hc5]) rfl ?_
    exact runRet_bad HC.out (by decide) (HL.out.trans (Keeps.set3r (ts := [36]) HB5.out (by simp) (Nat.le_refl _) 0 1 2 _ _ _).below)
  obtain ⟨N, rfl⟩ : ∃ N : Nat, n = N := ⟨n.toNat, by omega⟩
  have hN1 : 1 ≤ N := by omega
  have hN5 : N ≤ 5 := by omega
  have HX : Hid (inB (N : Int) 1 5 = true) := by show _ = _; unfold inB; simp only [Bool.and_eq_true, decide_eq_true_eq]; omega
  by_cases hl : 400 < m
  · have HC : Hid (runCode N l = 1) := by show _ = _; unfold runCode; rw [if_neg hn, if_pos (by rw [HM.out]; exact hl)]
    have d3 : decide ((400 : Int) < (m : Int)) = true := decide_eq_true (by omega)
    clear hn
    go_enter Try.func15, Try.ntmps15
    go_wp2_with fail
    obtain ⟨v, hv⟩ : ∃ v, v = w.alloc (.cells #[.slice none 0 0, .int .i64 0, .slice none 0 0] 36) := ⟨_, rfl⟩
    rw [← hv]
    have HB5 : Hid (v.heap[w.heap.size]? = some (.cells #[.slice none 0 0, .int .i64 0, .slice none 0 0] 36 (0, 0))) := by show _ = _; rw [hv]; exact blk_new _ _ _
    have HL : Hid (Below w.heap.size w v) := by show Below _ _ _; rw [hv]; exact (Below.refl _ w).alloc (Nat.le_refl _) _
    clear hv
    refine (in_is HX.out v).mono ?_
    rintro e w' ⟨rfl, rfl⟩
    obtain ⟨hc5, hf5⟩ := blk_read HB5.out
    go_wp2_with fail
    refine bodyPost_ret (v := .tuple #[.slice none 0 0, .agg #[.slice none 0 0, .int .i64 0, .slice none 0 0], .int .i64 1]) (by simp [results, Try.results15, go_sem, hc5]) rfl ?_
    exact runRet_bad HC.out (by decide) (HL.out.trans (Keeps.set3r (ts := [36]) HB5.out (by simp) (Nat.le_refl _) 0 1 2 _ _ _).below)
  have HRA : Hid (runAll N l = ((runM N l).1, (runM N l).2, 0)) := runAll_ok hN1 hN5 (by rw [HM.out]; omega)
  have d3 : decide ((400 : Int) < (m : Int)) = false := decide_eq_false (by omega)
  clear hn
  go_enter Try.func15, Try.ntmps15
  go_wp2_with fail
  refine (in_is HX.out _).mono ?_
  rintro e w' ⟨rfl, rfl⟩
  go_wp2_with (refine wpList_make_full _ rfl _ _ 34 rfl w.heap.size 58 j0 _ 5 Try.underlying34 hj0 hy0 hy1 .i64 .i64 N N N rfl rfl rfl rfl ?c1 ?c2 ?c3 ?_)
  case c1 => rw [hy2]; omega
  case c2 => unfold maxLen; omega
  case c3 => simp
  intro w1 hown hg1
  have HOC1 := Lib.hid (own_start hN1 hN5 hown)
  have HB1 := Lib.hid (blk_grown (blk_new w #[.slice none 0 0, .int .i64 0, .slice none 0 0] 36) hg1 (by simp))
  have HL1 := Lib.hid ((((Below.refl w.heap.size w).alloc (Nat.le_refl _) _)).grown hg1 (by simp) (fun j hj => by cases hj))
  clear hown hg1
  obtain ⟨gl, hgl⟩ : ∃ gl, gl = w.heap.size + 1 := ⟨_, rfl⟩
  rw [← hgl] at HOC1 ⊢
  clear hgl
  obtain ⟨g5, hg5⟩ : ∃ g5, g5 = w.heap.size := ⟨_, rfl⟩
  rw [← hg5] at HB1 ⊢
  have HG5 : Hid (g5 = w.heap.size) := hg5
  clear hg5
  obtain ⟨hc5, hf5⟩ := blk_read HB1.out
  have hz1 := HL1.out.size
  go_upto_region 6 with (fail)
  obtain ⟨v, hv⟩ : ∃ v, v = w1.alloc (.cells #[.slice none 0 0, .int .i64 0, .slice (some ⟨gl, 0, none⟩) N N] 36) := ⟨_, rfl⟩
  rw [← hv]
  obtain ⟨g7, hg7⟩ : ∃ g7, g7 = w1.heap.size := ⟨_, rfl⟩
  rw [← hg7]
  have HB7 : Hid (v.heap[g7]? = some (.cells #[.slice none 0 0, .int .i64 0, .slice (some ⟨gl, 0, none⟩) N N] 36 (0, 0))) := by show _ = _; rw [hv, hg7]; exact blk_new _ _ _
  have HB5 : Hid (v.heap[g5]? = some (.cells #[.slice none 0 0, .int .i64 0, .slice none 0 0] 36 (0, 0))) := by show _ = _; rw [hv]; exact blk_old HB1.out _
  have HOCv : Hid (OwnClients v w.heap.size (some ⟨gl, 0, none⟩) N N (startW N).clients (List.replicate N (none, 0))) := by
    show OwnClients _ _ _ _ _ _ _; rw [hv]; exact HOC1.out.below ((Below.refl w1.heap.size w1).alloc (Nat.le_refl _) _) (Nat.le_refl _)
  have HLv : Hid (Below w.heap.size w v) := by show Below _ _ _; rw [hv]; exact HL1.out.alloc hz1 _
  have HG57 : Hid (g5 < g7 ∧ w.heap.size ≤ g7) := by show _ ∧ _; exact ⟨by rw [hg7]; exact blk_lt HB1.out, by rw [hg7]; exact hz1⟩
  clear hv hg7 hz1 hc5 hf5 HB1 HOC1 HL1
  go_wp2_with fail
  go_loopw [8, 9] (fun out i wr => (∃ k : Nat, k ≤ m ∧ i = .int .i64 k ∧ ∃ R : List MAns × MWorld, R = runM N (l.take k) ∧ ∃ A1 c1 B1 n1 d1 hs B2 n2 d2 hs', out = .slice A1 k c1 ∧ wr.ownsRow w.heap.size 41 5 (.slice A1 k c1) k (ansList R.1) ∧
      OwnRows wr w.heap.size B1 n1 d1 R.2.rows hs ∧ OwnClients wr w.heap.size B2 n2 d2 R.2.clients hs' ∧ wr.heap[g7]? = some (.cells #[.slice B1 n1 d1, .int .i64 R.2.clock, .slice B2 n2 d2] 36 (0, 0)) ∧ WorldGood R.2) ∧
    Below w.heap.size w wr ∧ wr.heap[g5]? = some (.cells #[.slice none 0 0, .int .i64 0, .slice none 0 0] 36 (0, 0))) (fun _ i _ => m - (intOf i).toNat)
  case atStart => exact ⟨⟨0, Nat.zero_le _, rfl, ([], startW N), rfl, none, 0, none, 0, 0, [], _, N, N, _, rfl, World.ownsRow_nil _ _ _ _, OwnRows.nil _ _, HOCv.out, HB7.out, startW_good hN5⟩, HLv.out, HB5.out⟩
  case round =>
    clear HB7 HB5 HOCv HLv
    obtain ⟨⟨k, hk, rfl, R, hR, A1, c1, B1, n1, e1, hs, B2, n2, e2, hs', rfl, ho, hor, hoc, hb7, hgood⟩, hbel, hb5⟩ := hrel
    have HRR := Lib.hid hR
    have HO := Lib.hid ho
    have HOR := Lib.hid hor
    have HOC := Lib.hid hoc
    have HB7 := Lib.hid hb7
    have HGOOD := Lib.hid hgood
    have HL := Lib.hid hbel
    have HB5 := Lib.hid hb5
    clear hR ho hor hoc hb7 hgood hbel hb5
    have hzw := HL.out.size
    by_cases hlt : k < m
    · obtain ⟨a, b, off, ha, rfl, hbb, g0, g1, g2, g3⟩ := (HA.out.below HL.out (Nat.le_refl _)).act hlt
      have HAK := Lib.hid ha
      have HKA : Hid (a.key.size ≤ maxLen) := HKEYS.out a (List.mem_of_getElem? ha)
      have hd1 : decide ((k : Int) < (m : Int)) = true := decide_eq_true (by omega)
      have hd2 : decide (k < m) = true := decide_eq_true hlt
      have hk0 : (0 : Int) ≤ (k : Int) := by omega
      have hki : (k : Int) < (m : Int) := by omega
      have hz7 := blk_lt HB7.out
      have hbw : b < wr.heap.size := Nat.lt_of_lt_of_le hbb hzw
      have hcell : ∀ W : World, Below wr.heap.size wr W → W.cell? ⟨g7, 0, none⟩ = some (.slice B1 n1 e1) ∧ W.cell? ⟨g7, 1, none⟩ = some (.int .i64 R.2.clock) ∧ W.cell? ⟨g7, 2, none⟩ = some (.slice B2 n2 e2) ∧ W.cell? ⟨b, off + k * 4, none⟩ = some (.int .i64 a.kind) ∧ W.cell? ⟨b, off + k * 4 + 1, none⟩ = some (.int .i64 a.c) ∧ W.cell? ⟨b, off + k * 4 + 2, none⟩ = some (.string a.key) ∧ W.cell? ⟨b, off + k * 4 + 3, none⟩ = some (.string a.value) := fun W hW => by
        obtain ⟨hc7, _⟩ := blk_read HB7.out
        exact ⟨(hW.cell (p := ⟨g7, 0, none⟩) hz7).trans (by simpa using hc7 0), (hW.cell (p := ⟨g7, 1, none⟩) hz7).trans (by simpa using hc7 1), (hW.cell (p := ⟨g7, 2, none⟩) hz7).trans (by simpa using hc7 2), (hW.cell (p := ⟨b, off + k * 4, none⟩) hbw).trans g0, (hW.cell (p := ⟨b, off + k * 4 + 1, none⟩) hbw).trans g1, (hW.cell (p := ⟨b, off + k * 4 + 2, none⟩) hbw).trans g2, (hW.cell (p := ⟨b, off + k * 4 + 3, none⟩) hbw).trans g3⟩
      have HS0 := Lib.hid hcell
      obtain ⟨P, hP⟩ : ∃ P, P = doM R.2 a := ⟨_, rfl⟩
      have HPP : Hid (doM R.2 a = P) := hP.symm
      have HDC : Hid (∀ W : World, Below wr.heap.size wr W → Calls Try.prog 12 #[.agg #[.slice B1 n1 e1, .int .i64 R.2.clock, .slice B2 n2 e2], .agg #[.int .i64 a.kind, .int .i64 a.c, .string a.key, .string a.value]] W fun e w' =>
          ∃ A3 n3 e3 h3 A4 n4 e4 h4, e = .returned (.tuple #[.agg #[.slice A3 n3 e3, .int .i64 P.1.clock, .slice A4 n4 e4], .agg #[.int .i64 P.2.1.code, .bool P.2.1.is, .string P.2.1.value, .int .i64 P.2.1.phase, .int .i64 P.2.1.time], .int .i64 P.2.2]) ∧ OwnRows w' wr.heap.size A3 n3 e3 P.1.rows h3 ∧ OwnClients w' wr.heap.size A4 n4 e4 P.1.clients h4 ∧ Below W.heap.size W w' ∧ Below wr.heap.size wr w') := fun W hW => by
        have hrW : OwnRows W w.heap.size B1 n1 e1 R.2.rows hs := HOR.out.below hW (Nat.le_refl _)
        have hcW : OwnClients W w.heap.size B2 n2 e2 R.2.clients hs' := HOC.out.below hW (Nat.le_refl _)
        refine (didOf_any R.2 a.kind a.c a.key a.value B1 B2 n1 e1 n2 e2 W (hrW.ok HGOOD.out.sized.1) (hcW.ok HGOOD.out.sized.2) HKA.out).mono ?_
        rintro e w' hdo
        rw [show (⟨a.kind, a.c, a.key, a.value⟩ : MAct) = a from rfl, ← hP] at hdo
        obtain ⟨A3, n3, e3, h3, A4, n4, e4, h4, he, hor, hoc, hb⟩ := hdo
        exact ⟨A3, n3, e3, h3, A4, n4, e4, h4, he, hor.more hW.size, hoc.more hW.size, hb, hW.trans (hb.mono hW.size)⟩
      obtain ⟨M', o, cd⟩ := P
      dsimp only at HDC
      clear hP ha hcell hbb
      have HN2 : Hid ((wr.alloc (.cells #[.slice none 0 0, .int .i64 0, .slice none 0 0] 36)).heap[wr.heap.size]? = some (.cells #[.slice none 0 0, .int .i64 0, .slice none 0 0] 36 (0, 0))) := blk_new wr _ _
      have HN3 : Hid ((wr.alloc (.cells #[.int .i64 0, .bool false, .string ⟨#[]⟩, .int .i64 0, .int .i64 0] 41)).heap[wr.heap.size]? = some (.cells #[.int .i64 0, .bool false, .string ⟨#[]⟩, .int .i64 0, .int .i64 0] 41 (0, 0))) := blk_new wr _ _
      have HN4 : Hid (((wr.alloc (.cells #[.slice none 0 0, .int .i64 0, .slice none 0 0] 36)).alloc (.cells #[.int .i64 0, .bool false, .string ⟨#[]⟩, .int .i64 0, .int .i64 0] 41)).heap[wr.heap.size]? = some (.cells #[.slice none 0 0, .int .i64 0, .slice none 0 0] 36 (0, 0)) ∧ ((wr.alloc (.cells #[.slice none 0 0, .int .i64 0, .slice none 0 0] 36)).alloc (.cells #[.int .i64 0, .bool false, .string ⟨#[]⟩, .int .i64 0, .int .i64 0] 41)).heap[wr.heap.size + 1]? = some (.cells #[.int .i64 0, .bool false, .string ⟨#[]⟩, .int .i64 0, .int .i64 0] 41 (0, 0))) := by
        show _ ∧ _; obtain ⟨_, h1, h2⟩ := blk_new2 wr (a := #[.slice none 0 0, .int .i64 0, .slice none 0 0]) (b := #[.int .i64 0, .bool false, .string ⟨#[]⟩, .int .i64 0, .int .i64 0]) (ta := 36) (tb := 41); exact ⟨h1, h2⟩
      have HN5 : Hid (((wr.alloc (.cells #[.int .i64 0, .bool false, .string ⟨#[]⟩, .int .i64 0, .int .i64 0] 41)).alloc (.cells #[.slice none 0 0, .int .i64 0, .slice none 0 0] 36)).heap[wr.heap.size]? = some (.cells #[.int .i64 0, .bool false, .string ⟨#[]⟩, .int .i64 0, .int .i64 0] 41 (0, 0)) ∧ ((wr.alloc (.cells #[.int .i64 0, .bool false, .string ⟨#[]⟩, .int .i64 0, .int .i64 0] 41)).alloc (.cells #[.slice none 0 0, .int .i64 0, .slice none 0 0] 36)).heap[wr.heap.size + 1]? = some (.cells #[.slice none 0 0, .int .i64 0, .slice none 0 0] 36 (0, 0))) := by
        show _ ∧ _; obtain ⟨_, h1, h2⟩ := blk_new2 wr (a := #[.int .i64 0, .bool false, .string ⟨#[]⟩, .int .i64 0, .int .i64 0]) (b := #[.slice none 0 0, .int .i64 0, .slice none 0 0]) (ta := 41) (tb := 36); exact ⟨h1, h2⟩
      have HQ1 : Hid (Below wr.heap.size wr wr.drew) := (Below.refl _ _).drew
      have HQ2 : Hid (Below wr.heap.size wr (wr.alloc (.cells #[.slice none 0 0, .int .i64 0, .slice none 0 0] 36)).drew) := ((Below.refl _ _).alloc (Nat.le_refl _) _).drew
      have HQ3 : Hid (Below wr.heap.size wr (wr.alloc (.cells #[.int .i64 0, .bool false, .string ⟨#[]⟩, .int .i64 0, .int .i64 0] 41)).drew) := ((Below.refl _ _).alloc (Nat.le_refl _) _).drew
      have HQ4 : Hid (Below wr.heap.size wr ((wr.alloc (.cells #[.slice none 0 0, .int .i64 0, .slice none 0 0] 36)).alloc (.cells #[.int .i64 0, .bool false, .string ⟨#[]⟩, .int .i64 0, .int .i64 0] 41)).drew) := (((Below.refl _ _).alloc (Nat.le_refl _) _).alloc (by simp) _).drew
      have HQ5 : Hid (Below wr.heap.size wr ((wr.alloc (.cells #[.int .i64 0, .bool false, .string ⟨#[]⟩, .int .i64 0, .int .i64 0] 41)).alloc (.cells #[.slice none 0 0, .int .i64 0, .slice none 0 0] 36)).drew) := (((Below.refl _ _).alloc (Nat.le_refl _) _).alloc (by simp) _).drew
      go_upto_region 10 with (fail)
      go_cut [10, 11, 12] (fun p q s wx => ∃ g10 g11 A3 n3 e3 h3 A4 n4 e4 h4, p = .pointer (some ⟨g10, 0, none⟩) ∧ q = .pointer (some ⟨g11, 0, none⟩) ∧ s = .int .i64 cd ∧ wx.heap[g10]? = some (.cells #[.slice A3 n3 e3, .int .i64 M'.clock, .slice A4 n4 e4] 36 (0, 0)) ∧ wx.heap[g11]? = some (.cells #[.int .i64 o.code, .bool o.is, .string o.value, .int .i64 o.phase, .int .i64 o.time] 41 (0, 0)) ∧
        OwnRows wx w.heap.size A3 n3 e3 M'.rows h3 ∧ OwnClients wx w.heap.size A4 n4 e4 M'.clients h4 ∧ Below wr.heap.size wr wx ∧ wr.heap.size ≤ g10 ∧ wr.heap.size ≤ g11)
      case first =>
        go_region_held3 (fun w' => w'.cell? ⟨g7, 0, none⟩ = some (.slice B1 n1 e1) ∧ w'.cell? ⟨g7, 1, none⟩ = some (.int .i64 R.2.clock) ∧ w'.cell? ⟨g7, 2, none⟩ = some (.slice B2 n2 e2) ∧ w'.cell? ⟨b, off + k * 4, none⟩ = some (.int .i64 a.kind) ∧ w'.cell? ⟨b, off + k * 4 + 1, none⟩ = some (.int .i64 a.c) ∧ w'.cell? ⟨b, off + k * 4 + 2, none⟩ = some (.string a.key) ∧ w'.cell? ⟨b, off + k * 4 + 3, none⟩ = some (.string a.value))
          (first | with_reducible exact HS0.out _ HQ1.out | with_reducible exact HS0.out _ HQ2.out | with_reducible exact HS0.out _ HQ3.out | with_reducible exact HS0.out _ HQ4.out | with_reducible exact HS0.out _ HQ5.out | with_reducible exact HS0.out _ hW | with_reducible exact HS0.out _ (hW.alloc hW.size _) | with_reducible exact HS0.out _ ((hW.alloc hW.size _).alloc (by have := hW.size; simp; omega) _) | with_reducible exact HS0.out _ (kC3 _) | with_reducible exact HS0.out _ (kD3 _) | with_reducible exact HS0.out _ (hW.trans kC.below) | with_reducible exact HS0.out _ (hW.trans kD.below) | with_reducible exact HS0.out _ (hW.trans kC2.below) | with_reducible exact HS0.out _ (hW.trans kE.below) | with_reducible exact HS0.out _ (hW.trans kF.below) | fail)
          ((first
            | (go_simp; go_at_call 12; refine (HDC.out _ HQ1.out).mono ?_; rintro e w2 ⟨A3, n3, e3, h3, A4, n4, e4, h4, rfl, hor, hoc, hb1, hW⟩)
            | (go_simp; go_at_call 12; refine (HDC.out _ HQ2.out).mono ?_; rintro e w2 ⟨A3, n3, e3, h3, A4, n4, e4, h4, rfl, hor, hoc, hb2, hW⟩; have HBc := Lib.hid (blk_keep (g := wr.heap.size) hb2 (drew_blkr HN2.out) (blk_lt (drew_blkr HN2.out))); obtain ⟨hcc, hfc⟩ := blk_read HBc.out; obtain ⟨hcc2, hfc2⟩ := blk_read (blk_old HBc.out (.cells #[.int .i64 0, .bool false, .string ⟨#[]⟩, .int .i64 0, .int .i64 0] 41)); have hlt2 := blk_lt HBc.out; have kC := Keeps.set3r (ts := [36, 41]) HBc.out (by simp) (Nat.le_refl _) 0 1 2 (.slice A3 n3 e3) (.int .i64 M'.clock) (.slice A4 n4 e4); have kC3 := fun (o : Obj) => (hW.trans kC.below).alloc (hW.trans kC.below).size o)
            | (go_simp; go_at_call 12; refine (HDC.out _ HQ3.out).mono ?_; rintro e w2 ⟨A3, n3, e3, h3, A4, n4, e4, h4, rfl, hor, hoc, hb3, hW⟩; have HBd := Lib.hid (blk_keep (g := wr.heap.size) hb3 (drew_blkr HN3.out) (blk_lt (drew_blkr HN3.out))); obtain ⟨hcc, hfc⟩ := blk_read HBd.out; obtain ⟨hcc2, hfc2⟩ := blk_read (blk_old HBd.out (.cells #[.slice A3 n3 e3, .int .i64 M'.clock, .slice A4 n4 e4] 36)); have hlt2 := blk_lt HBd.out; have kD := Keeps.set5 (ts := [36, 41]) HBd.out (by simp) (Nat.le_refl _) 0 1 2 3 4 (.int .i64 o.code) (.bool o.is) (.string o.value) (.int .i64 o.phase) (.int .i64 o.time); have kD3 := fun (o : Obj) => (hW.trans kD.below).alloc (hW.trans kD.below).size o)
            | (go_simp; go_at_call 12; refine (HDC.out _ HQ4.out).mono ?_; rintro e w2 ⟨A3, n3, e3, h3, A4, n4, e4, h4, rfl, hor, hoc, hb4, hW⟩; have HBe := Lib.hid (blk_keep (g := wr.heap.size) hb4 (drew_blkr HN4.out.1) (blk_lt (drew_blkr HN4.out.1))); have HBe' := Lib.hid (blk_keep (g := wr.heap.size + 1) hb4 (drew_blkr HN4.out.2) (blk_lt (drew_blkr HN4.out.2))); obtain ⟨hcc, hfc⟩ := blk_read HBe.out; obtain ⟨hcd, hfd⟩ := blk_read HBe'.out; have kC2 := Keeps.set3r (ts := [36, 41]) HBe.out (by simp) (Nat.le_refl _) 0 1 2 (.slice A3 n3 e3) (.int .i64 M'.clock) (.slice A4 n4 e4); have kE := (twoE (g := wr.heap.size) (g' := wr.heap.size + 1) (B := wr.heap.size) (a := .slice A3 n3 e3) (b := .int .i64 M'.clock) (c := .slice A4 n4 e4) (a' := .int .i64 o.code) (b' := .bool o.is) (c' := .string o.value) (d' := .int .i64 o.phase) (e' := .int .i64 o.time) (Nat.le_refl _) (Nat.le_succ _) (by omega) HBe.out HBe'.out).2.2)
            | (go_simp; go_at_call 12; refine (HDC.out _ HQ5.out).mono ?_; rintro e w2 ⟨A3, n3, e3, h3, A4, n4, e4, h4, rfl, hor, hoc, hb5, hW⟩; have HBf := Lib.hid (blk_keep (g := wr.heap.size) hb5 (drew_blkr HN5.out.1) (blk_lt (drew_blkr HN5.out.1))); have HBf' := Lib.hid (blk_keep (g := wr.heap.size + 1) hb5 (drew_blkr HN5.out.2) (blk_lt (drew_blkr HN5.out.2))); obtain ⟨hcc, hfc⟩ := blk_read HBf.out; obtain ⟨hcd, hfd⟩ := blk_read HBf'.out; have kC2 := Keeps.set3r (ts := [36, 41]) HBf'.out (by simp) (Nat.le_succ _) 0 1 2 (.slice A3 n3 e3) (.int .i64 M'.clock) (.slice A4 n4 e4); have kF := (twoE (g := wr.heap.size + 1) (g' := wr.heap.size) (B := wr.heap.size) (a := .slice A3 n3 e3) (b := .int .i64 M'.clock) (c := .slice A4 n4 e4) (a' := .int .i64 o.code) (b' := .bool o.is) (c' := .string o.value) (d' := .int .i64 o.phase) (e' := .int .i64 o.time) (Nat.le_succ _) (Nat.le_refl _) (by omega) HBf'.out HBf.out).2.2)))
        all_goals
          go_wp2_with fail
          go_meet
          first
            | (have h' := hb1; have z := twoA (w2 := w2) (B := wr.heap.size) (a := .slice A3 n3 e3) (b := .int .i64 M'.clock) (c := .slice A4 n4 e4) (a' := .int .i64 o.code) (b' := .bool o.is) (c' := .string o.value) (d' := .int .i64 o.phase) (e' := .int .i64 o.time) hW.size; exact ⟨w2.heap.size, w2.heap.size + 1, A3, n3, e3, h3, A4, n4, e4, h4, rfl, rfl, rfl, z.1, z.2.1, (z.2.2.rows hor (by decide) (by decide)).more hzw, (z.2.2.clients hoc (by decide) (by decide)).more hzw, hW.trans z.2.2.below, hW.size, by have := hW.size; omega⟩)
            | (have h' := hb1; have z := twoB (w2 := w2) (B := wr.heap.size) (a := .slice A3 n3 e3) (b := .int .i64 M'.clock) (c := .slice A4 n4 e4) (a' := .int .i64 o.code) (b' := .bool o.is) (c' := .string o.value) (d' := .int .i64 o.phase) (e' := .int .i64 o.time) hW.size; exact ⟨w2.heap.size + 1, w2.heap.size, A3, n3, e3, h3, A4, n4, e4, h4, rfl, rfl, rfl, z.1, z.2.1, (z.2.2.rows hor (by decide) (by decide)).more hzw, (z.2.2.clients hoc (by decide) (by decide)).more hzw, hW.trans z.2.2.below, by have := hW.size; omega, hW.size⟩)
            | (have h' := HBc; have z := twoC (w2 := w2) (B := wr.heap.size) (a := .slice A3 n3 e3) (b := .int .i64 M'.clock) (c := .slice A4 n4 e4) (a' := .int .i64 o.code) (b' := .bool o.is) (c' := .string o.value) (d' := .int .i64 o.phase) (e' := .int .i64 o.time) (Nat.le_refl _) HBc.out; exact ⟨wr.heap.size, w2.heap.size, A3, n3, e3, h3, A4, n4, e4, h4, rfl, rfl, rfl, z.1, z.2.1, (z.2.2.rows hor (by decide) (by decide)).more hzw, (z.2.2.clients hoc (by decide) (by decide)).more hzw, hW.trans z.2.2.below, Nat.le_refl _, hW.size⟩)
            | (have h' := HBd; have z := twoD (w2 := w2) (B := wr.heap.size) (a := .slice A3 n3 e3) (b := .int .i64 M'.clock) (c := .slice A4 n4 e4) (a' := .int .i64 o.code) (b' := .bool o.is) (c' := .string o.value) (d' := .int .i64 o.phase) (e' := .int .i64 o.time) (Nat.le_refl _) HBd.out; exact ⟨w2.heap.size, wr.heap.size, A3, n3, e3, h3, A4, n4, e4, h4, rfl, rfl, rfl, z.1, z.2.1, (z.2.2.rows hor (by decide) (by decide)).more hzw, (z.2.2.clients hoc (by decide) (by decide)).more hzw, hW.trans z.2.2.below, hW.size, Nat.le_refl _⟩)
            | (have h' := HBe; have z := twoE (w2 := w2) (g := wr.heap.size) (g' := wr.heap.size + 1) (B := wr.heap.size) (a := .slice A3 n3 e3) (b := .int .i64 M'.clock) (c := .slice A4 n4 e4) (a' := .int .i64 o.code) (b' := .bool o.is) (c' := .string o.value) (d' := .int .i64 o.phase) (e' := .int .i64 o.time) (Nat.le_refl _) (Nat.le_succ _) (by omega) HBe.out HBe'.out; exact ⟨wr.heap.size, wr.heap.size + 1, A3, n3, e3, h3, A4, n4, e4, h4, rfl, rfl, rfl, z.1, z.2.1, (z.2.2.rows hor (by decide) (by decide)).more hzw, (z.2.2.clients hoc (by decide) (by decide)).more hzw, hW.trans z.2.2.below, Nat.le_refl _, Nat.le_succ _⟩)
            | (have h' := HBf; have z := twoE (w2 := w2) (g := wr.heap.size + 1) (g' := wr.heap.size) (B := wr.heap.size) (a := .slice A3 n3 e3) (b := .int .i64 M'.clock) (c := .slice A4 n4 e4) (a' := .int .i64 o.code) (b' := .bool o.is) (c' := .string o.value) (d' := .int .i64 o.phase) (e' := .int .i64 o.time) (Nat.le_succ _) (Nat.le_refl _) (by omega) HBf'.out HBf.out; exact ⟨wr.heap.size + 1, wr.heap.size, A3, n3, e3, h3, A4, n4, e4, h4, rfl, rfl, rfl, z.1, z.2.1, (z.2.2.rows hor (by decide) (by decide)).more hzw, (z.2.2.clients hoc (by decide) (by decide)).more hzw, hW.trans z.2.2.below, Nat.le_succ _, Nat.le_refl _⟩)
      case rest =>
        clear HN2 HN3 HN4 HN5 HQ1 HQ2 HQ3 HQ4 HQ5 HDC HS0 g0 g1 g2 g3 hbw hz7 hki hk0
        obtain ⟨g10, g11, A3, n3, e3, h3, A4, n4, e4, h4, rfl, rfl, rfl, hb10, hb11, hor, hoc, hbx, hg10, hg11⟩ := hcut
        have HKv : Hid (Old wr wc) := old_below hbx (Nat.le_refl _)
        have HLv2 := Lib.hid (HL.out.trans (hbx.mono hzw))
        have HORv := Lib.hid hor
        have HOCv := Lib.hid hoc
        have HB11 := Lib.hid hb10
        have HB12 := Lib.hid hb11
        have HGE : Hid (wr.heap.size ≤ g11) := hg11
        have HOv := Lib.hid (own_at HO.out HKv.out.block)
        have HB7v := Lib.hid ((HKv.out.block _ (blk_lt HB7.out)).trans HB7.out)
        have HB5v := Lib.hid ((HKv.out.block _ (blk_lt HB5.out)).trans HB5.out)
        have HORr : Hid (OwnRows wc w.heap.size B1 n1 e1 R.2.rows hs) := HOR.out.below hbx (Nat.le_refl _)
        have HOCr : Hid (OwnClients wc w.heap.size B2 n2 e2 R.2.clients hs') := HOC.out.below hbx (Nat.le_refl _)
        have HLEN : Hid ((ansList R.1).length = k * 5) := HO.out.1
        clear hb10 hb11 hor hoc hbx hg10 hg11
        have HRS : Hid (runM N (l.take (k + 1)) = runStep R a) := by show _ = _; rw [run_take HAK.out, HRR.out]
        obtain ⟨hc11, hf11⟩ := blk_read HB11.out
        obtain ⟨hc12, hf12⟩ := blk_read HB12.out
        obtain ⟨hc7, hf7⟩ := blk_read HB7v.out
        by_cases hcd : cd = 0
        · have HST : Hid (runStep R a = (R.1 ++ [o], M')) := by show _ = _; rw [runStep_ok (by rw [HPP.out]; exact hcd), HPP.out]
          have HGN : Hid (WorldGood M') := by
            have h0 : doCode R.2 a = 0 := by rw [← doM_code, HPP.out]; exact hcd
            have := doM_good h0
            rw [HPP.out] at this
            exact this
          subst hcd
          go_upto_region 14 with (fail)
          obtain ⟨v3, hv3⟩ : ∃ v3, v3 = ((wc.setCell ⟨g7, 0, none⟩ (.slice A3 n3 e3)).setCell ⟨g7, 1, none⟩ (.int .i64 M'.clock)).setCell ⟨g7, 2, none⟩ (.slice A4 n4 e4) := ⟨_, rfl⟩
          rw [← hv3]
          have HK3 : Hid (Keeps [36] w.heap.size wc v3) := by show Keeps _ _ _ _; rw [hv3]; exact Keeps.set3r HB7v.out (by simp) HG57.out.2 _ _ _ _ _ _
          have HB73 : Hid (v3.heap[g7]? = some (.cells #[.slice A3 n3 e3, .int .i64 M'.clock, .slice A4 n4 e4] 36 (0, 0))) := by show _ = _; rw [hv3]; exact blk_row3r HB7v.out _ _ _
          have HB53 : Hid (v3.heap[g5]? = some (.cells #[.slice none 0 0, .int .i64 0, .slice none 0 0] 36 (0, 0))) := by
            show _ = _
            have hne : g5 ≠ g7 := by have := HG57.out.1; omega
            rw [hv3]; exact blk_far (blk_far (blk_far HB5v.out (p := ⟨g7, 0, none⟩) hne _) (p := ⟨g7, 1, none⟩) hne _) (p := ⟨g7, 2, none⟩) hne _
          have HB123 := Lib.hid (HK3.out.blk HB12.out (by decide))
          have HO3 := Lib.hid (HK3.out.own HOv.out (by decide))
          have HOR3 := Lib.hid (HK3.out.rows HORv.out (by decide) (by decide))
          have HOC3 := Lib.hid (HK3.out.clients HOCv.out (by decide) (by decide))
          have HL3 := Lib.hid (HLv2.out.trans HK3.out.below)
          clear hv3 hc11 hf11 hc12 hf12 hc7 hf7
          obtain ⟨hc12, hf12⟩ := blk_read HB123.out
          have hz3 := HL3.out.size
          go_wp2_with (at_builtin; refine wpList_append_own _ rfl _ _ 47 rfl w.heap.size 41 i0 _ 5 48 Try.underlying47 hi0 hz0 hz1 hz2 rfl (by decide) (.slice A1 k c1) k (ansList R.1) rfl (HO3.out.alloc _) ⟨v3.heap.size, 0, none⟩ 1 1 o.cells rfl rfl ?c1 ?c2 ?c3 ?c4 ?c5 ?_)
          case c1 => first | exact fun j u h => h | exact news5 (by exact blk_new _ _ _)
          case c2 => exact ans_one
          case c3 => unfold maxLen; omega
          case c4 => omega
          case c5 => first | omega | (simp; omega)
          intro v' w4 hown4 hg4 _
          obtain ⟨A5, c5, hv⟩ := own_slice hown4
          rw [hv] at hown4 ⊢
          have hkw : ∀ (g : Nat) (cs : Array Value) (t : TypeId), v3.heap[g]? = some (.cells cs t (0, 0)) → t ≠ 41 → w4.heap[g]? = v3.heap[g]? := fun g cs t hgg ht =>
            (hg4.block g (by have := blk_lt hgg; simp; omega) (own_ne HO3.out hgg (fun e => ht e.symm))).trans (Below.heap_alloc _ _ g (blk_lt hgg))
          have HO4 := Lib.hid hown4
          have HL4 := Lib.hid ((HL3.out.alloc hz3 _).grown hg4 (by simp; omega) (fun j hj => own_base HO3.out j hj))
          have HOR4 := Lib.hid (HOR3.out.typed (w' := w4) fun g cs t _ hgg ht => hkw g cs t hgg (by rcases ht with rfl | rfl <;> decide))
          have HOC4 := Lib.hid (HOC3.out.typed (w' := w4) fun g cs t _ hgg ht => hkw g cs t hgg (by rcases ht with rfl | rfl <;> decide))
          have HB74 := Lib.hid ((hkw _ _ _ HB73.out (by decide)).trans HB73.out)
          have HB54 := Lib.hid ((hkw _ _ _ HB53.out (by decide)).trans HB53.out)
          clear hv hown4 hg4 hkw hc12 hf12
          go_wp2_with fail
          go_roundw
          case rel =>
            refine ⟨⟨k + 1, by omega, by go_num, (R.1 ++ [o], M'), ?_, A5, c5, A3, n3, e3, h3, A4, n4, e4, h4, rfl, ?_, HOR4.out, HOC4.out, HB74.out, HGN.out⟩, HL4.out, HB54.out⟩
            · rw [HRS.out, HST.out]
            · dsimp only; rw [ansList_snoc]; exact HO4.out
          case measure => simp [intOf]; omega
        · have HST : Hid (runStep R a = (R.1 ++ [{ zeroAns with code := cd }], R.2)) := by show _ = _; rw [runStep_bad (by rw [HPP.out]; exact hcd), HPP.out]
          have hd3 : (cd == 0) = false := by simpa using hcd
          clear hcd
          go_upto_region 14 with (fail)
          obtain ⟨v3, hv3⟩ : ∃ v3, v3 = ((((wc.setCell ⟨g11, 0, none⟩ (.int .i64 cd)).setCell ⟨g11, 1, none⟩ (.bool false)).setCell ⟨g11, 2, none⟩ (.string ⟨#[]⟩)).setCell ⟨g11, 3, none⟩ (.int .i64 0)).setCell ⟨g11, 4, none⟩ (.int .i64 0) := ⟨_, rfl⟩
          rw [← hv3]
          have HK3 : Hid (Keeps [41] wr.heap.size wc v3) := by show Keeps _ _ _ _; rw [hv3]; exact Keeps.set5 HB12.out (by simp) HGE.out _ _ _ _ _ _ _ _ _ _
          have HB73 := Lib.hid (HK3.out.blk HB7v.out (by decide))
          have HB53 := Lib.hid (HK3.out.blk HB5v.out (by decide))
          have HB123 : Hid (v3.heap[g11]? = some (.cells #[.int .i64 cd, .bool false, .string ⟨#[]⟩, .int .i64 0, .int .i64 0] 41 (0, 0))) := by show _ = _; rw [hv3]; exact blk_row5 HB12.out _ _ _ _ _
          have HO3 : Hid (v3.ownsRow w.heap.size 41 5 (.slice A1 k c1) k (ansList R.1)) := own_at HO.out (fun g hg => (HK3.out.below.block g hg).trans (HKv.out.block g hg))
          have HOR3 : Hid (OwnRows v3 w.heap.size B1 n1 e1 R.2.rows hs) := HORr.out.typed fun g cs t _ hg ht => HK3.out.block g cs t hg (by rcases ht with rfl | rfl <;> decide)
          have HOC3 : Hid (OwnClients v3 w.heap.size B2 n2 e2 R.2.clients hs') := HOCr.out.typed fun g cs t _ hg ht => HK3.out.block g cs t hg (by rcases ht with rfl | rfl <;> decide)
          have HL3 := Lib.hid (HLv2.out.trans (HK3.out.below.mono hzw))
          clear hv3 hc11 hf11 hc12 hf12 hc7 hf7
          obtain ⟨hc12, hf12⟩ := blk_read HB123.out
          have hz3 := HL3.out.size
          go_wp2_with (at_builtin; refine wpList_append_own _ rfl _ _ 47 rfl w.heap.size 41 i0 _ 5 48 Try.underlying47 hi0 hz0 hz1 hz2 rfl (by decide) (.slice A1 k c1) k (ansList R.1) rfl (HO3.out.alloc _) ⟨v3.heap.size, 0, none⟩ 1 1 (failAns cd).cells rfl rfl ?c1 ?c2 ?c3 ?c4 ?c5 ?_)
          case c1 => first | exact fun j u h => h | exact news5 (by exact blk_new _ _ _)
          case c2 => exact ans_one
          case c3 => unfold maxLen; omega
          case c4 => omega
          case c5 => first | omega | (simp; omega)
          intro v' w4 hown4 hg4 _
          obtain ⟨A5, c5, hv⟩ := own_slice hown4
          rw [hv] at hown4 ⊢
          have hkw : ∀ (g : Nat) (cs : Array Value) (t : TypeId), v3.heap[g]? = some (.cells cs t (0, 0)) → t ≠ 41 → w4.heap[g]? = v3.heap[g]? := fun g cs t hgg ht =>
            (hg4.block g (by have := blk_lt hgg; simp; omega) (own_ne HO3.out hgg (fun e => ht e.symm))).trans (Below.heap_alloc _ _ g (blk_lt hgg))
          have HO4 := Lib.hid hown4
          have HL4 := Lib.hid ((HL3.out.alloc hz3 _).grown hg4 (by simp; omega) (fun j hj => own_base HO3.out j hj))
          have HOR4 := Lib.hid (HOR3.out.typed (w' := w4) fun g cs t _ hgg ht => hkw g cs t hgg (by rcases ht with rfl | rfl <;> decide))
          have HOC4 := Lib.hid (HOC3.out.typed (w' := w4) fun g cs t _ hgg ht => hkw g cs t hgg (by rcases ht with rfl | rfl <;> decide))
          have HB74 := Lib.hid ((hkw _ _ _ HB73.out (by decide)).trans HB73.out)
          have HB54 := Lib.hid ((hkw _ _ _ HB53.out (by decide)).trans HB53.out)
          clear hv hown4 hg4 hkw hc12 hf12
          go_wp2_with fail
          go_roundw
          case rel =>
            refine ⟨⟨k + 1, by omega, by go_num, (R.1 ++ [{ zeroAns with code := cd }], R.2), ?_, A5, c5, B1, n1, e1, hs, B2, n2, e2, hs', rfl, ?_, HOR4.out, HOC4.out, HB74.out, HGOOD.out⟩, HL4.out, HB54.out⟩
            · rw [HRS.out, HST.out]
            · dsimp only; rw [ansList_snoc]; exact HO4.out
          case measure => simp [intOf]; omega
    · have hkm : l.take k = l := List.take_of_length_le (by rw [HM.out]; omega)
      have HRR' : Hid (R = runM N l) := by show _ = _; rw [HRR.out, hkm]
      have hd1 : decide ((k : Int) < (m : Int)) = false := decide_eq_false (by omega)
      have hd2 : decide (k < m) = false := decide_eq_false hlt
      have n1' : ¬ (g5 = g7) := by have := HG57.out.1; omega
      have n2' : ¬ (g7 = g5) := by have := HG57.out.1; omega
      obtain ⟨hc7, hf7⟩ := blk_read HB7.out
      obtain ⟨hc5, hf5⟩ := blk_read HB5.out
      clear hkm
      go_upto_region 15 with (fail)
      go_cut [4, 6] (fun a b wx => a = .slice A1 k c1 ∧ b = .int .i64 0 ∧ wx.heap[g5]? = some (.cells #[.slice B1 n1 e1, .int .i64 R.2.clock, .slice B2 n2 e2] 36 (0, 0)) ∧ Keeps [36] w.heap.size wr wx)
      case first =>
        go_region
        all_goals
          go_wp2_with fail
          go_meet
          exact ⟨rfl, rfl, blk_row3r HB5.out _ _ _, (Keeps.set3r (ts := [36]) HB5.out (by simp) (by rw [HG5.out]; exact Nat.le_refl _) _ _ _ _ _ _).drew⟩
      case rest =>
        obtain ⟨rfl, rfl, hb5, hk3⟩ := hcut
        have HO3 := Lib.hid (hk3.own HO.out (by decide))
        have HOR3 := Lib.hid (hk3.rows HOR.out (by decide) (by decide))
        have HOC3 := Lib.hid (hk3.clients HOC.out (by decide) (by decide))
        have HL3 := Lib.hid (HL.out.trans hk3.below)
        clear hk3 hc7 hf7 hc5 hf5
        obtain ⟨hc5, hf5⟩ := blk_read hb5
        clear hb5
        go_wp2_with fail
        refine bodyPost_ret (v := .tuple #[.slice A1 k c1, .agg #[.slice B1 n1 e1, .int .i64 R.2.clock, .slice B2 n2 e2], .int .i64 0]) (by simp [results, Try.results15, go_sem, hc5]) rfl ?_
        rw [HRA.out, ← HRR'.out]
        exact ⟨A1, k, c1, B1, n1, e1, hs, B2, n2, e2, hs', rfl, HO3.out, HOR3.out, HOC3.out, HL3.out⟩
end Go.Proofs.Ytniomgngiiiklab
