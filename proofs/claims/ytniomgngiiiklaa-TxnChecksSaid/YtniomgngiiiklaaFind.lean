/- The walks of the closures over records, of slices.IndexFunc and ContainsFunc at records, and of row.find. -/
import Derived.Test.YtniomgngiiiklaaOpen
namespace Go.Proofs.Ytniomgngiiiklaa
open Go.RowKit

theorem find1_any (r : MRec) (g : Nat) (st : Int) (w : World) (hg : g < w.heap.size) (hc : w.cell? ⟨g, 0, none⟩ = some (.int .i64 st)) :
    Calls Try.prog 51 #[.agg #[.int .i64 r.start, .int .i64 r.commit, .string r.value], .pointer (some ⟨g, 0, none⟩)] w fun e w' => e = .returned (.bool (r.start == st)) ∧ Below w.heap.size w w' := by
  go_enter Try.func51, Try.ntmps51
  go_wp2
  go_ret
  exact ⟨rfl, (Below.refl _ _).alloc (Nat.le_refl _) _⟩

theorem late1_any (r : MRec) (g : Nat) (st : Int) (w : World) (hg : g < w.heap.size) (hc : w.cell? ⟨g, 0, none⟩ = some (.int .i64 st)) :
    Calls Try.prog 46 #[.agg #[.int .i64 r.start, .int .i64 r.commit, .string r.value], .pointer (some ⟨g, 0, none⟩)] w fun e w' => e = .returned (.bool (decide (st < r.commit))) ∧ Below w.heap.size w w' := by
  go_enter Try.func46, Try.ntmps46
  go_wp2
  go_ret
  exact ⟨rfl, (Below.refl _ _).alloc (Nat.le_refl _) _⟩

theorem with1_any (r : MRec) (g : Nat) (st : Int) (w : World) (hg : g < w.heap.size) (hc : w.cell? ⟨g, 0, none⟩ = some (.int .i64 st)) :
    Calls Try.prog 54 #[.agg #[.int .i64 r.start, .int .i64 r.commit, .string r.value], .pointer (some ⟨g, 0, none⟩)] w fun e w' => e = .returned (.bool (decide (st < r.start))) ∧ Below w.heap.size w w' := by
  go_enter Try.func54, Try.ntmps54
  go_wp2
  go_ret
  exact ⟨rfl, (Below.refl _ _).alloc (Nat.le_refl _) _⟩

set_option maxHeartbeats 1000000 in
theorem idxR_any (f : FuncId) (hf : f = 51 ∨ f = 46 ∨ f = 54) (p : MRec → Bool) (a : Addr) (A : Option Addr) (n c : Nat) (rs : List MRec) (w : World) (h : RecsAt w w.heap.size A n rs) (hm : n ≤ maxLen)
    (hp : ∀ (r : MRec) (W : World), Below w.heap.size w W → Calls Try.prog f #[.agg #[.int .i64 r.start, .int .i64 r.commit, .string r.value], .pointer (some a)] W fun e W' => e = .returned (.bool (p r)) ∧ Below W.heap.size W W') :
    Calls Try.prog 50 #[.slice A n c, .func (.func f) #[] #[.pointer (some a)]] w
      fun e w' => e = .returned (.int .i64 (fstIdx p rs)) ∧ Below w.heap.size w w' := by
  unfold maxLen at hm
  have H := Lib.hid h
  have HP := Lib.hid hp
  clear h hp
  rcases hf with rfl | rfl | rfl
  all_goals
    go_enter Try.func50, Try.ntmps50
    go_wp2_with fail
    go_loopw [8] (fun i wr => (∃ k : Nat, k ≤ n ∧ i = .int .i64 k ∧ ∀ (j : Nat) (y : MRec), j < k → rs[j]? = some y → p y = false) ∧ Below w.heap.size w wr) (fun i _ => n - (intOf i).toNat)
    case atStart => exact ⟨⟨0, Nat.zero_le _, rfl, by intro j y h; omega⟩, Below.refl _ _⟩
    case round =>
      obtain ⟨⟨k, hk, rfl, hb⟩, hbel⟩ := hrel
      have HB := Lib.hid hb
      have HL := Lib.hid hbel
      clear hb hbel
      by_cases hlt : k < n
      · obtain ⟨x, b, off, hx, rfl, hbb, g0, g1, g2⟩ := (H.out.below HL.out (Nat.le_refl _)).at_ hlt
        have HX := Lib.hid hx
        clear hx
        cases hpx : p x
        · go_wp2_with fail
          refine (HP.out x wr HL.out).mono ?_
          rintro e w1 ⟨rfl, hb1⟩
          have HL1 := Lib.hid (HL.out.trans (hb1.mono HL.out.size))
          clear hb1
          go_wp2
          go_roundw
          case rel => exact ⟨⟨k + 1, by omega, by go_num, none_snoc HX.out hpx HB.out⟩, HL1.out⟩
          case measure => simp [intOf]; omega
        · go_wp2_with fail
          refine (HP.out x wr HL.out).mono ?_
          rintro e w1 ⟨rfl, hb1⟩
          have HL1 := Lib.hid (HL.out.trans (hb1.mono HL.out.size))
          clear hb1
          go_wp2
          go_ret
          exact ⟨ret_int (fstIdx_hit p rs k x HX.out hpx HB.out).symm, HL1.out⟩
      · go_wp2
        go_ret
        exact ⟨ret_int (fstIdx_miss _ _ (none_all (k := k) (by have := H.out.1; omega) HB.out)).symm, HL.out⟩

theorem hasR_any (g : Nat) (st : Int) (A : Option Addr) (n c : Nat) (rs : List MRec) (w : World) (h : RecsAt w w.heap.size A n rs) (hm : n ≤ maxLen) (hg : g < w.heap.size) (hc : w.cell? ⟨g, 0, none⟩ = some (.int .i64 st)) :
    Calls Try.prog 45 #[.slice A n c, .func (.func 46) #[] #[.pointer (some ⟨g, 0, none⟩)]] w
      fun e w' => e = .returned (.bool (rs.any fun r => decide (st < r.commit))) ∧ Below w.heap.size w w' := by
  have H := Lib.hid (idxR_any 46 (.inr (.inl rfl)) (fun r => decide (st < r.commit)) ⟨g, 0, none⟩ A n c rs w h hm (fun r W hb => late1_any r g st W (by have := hb.size; omega) ((hb.cell (p := ⟨g, 0, none⟩) hg).trans hc)))
  clear h hc
  rw [← fstIdx_nonneg]
  go_enter Try.func45, Try.ntmps45
  go_wp2_with fail
  refine H.out.mono ?_
  rintro e w1 ⟨rfl, hb1⟩
  go_wp2
  go_ret
  exact ⟨rfl, hb1⟩

def findB (r : MRow) (st : Int) : Int := fstIdx (fun x : MRec => x.start == st) r.recs

theorem find_any (r : MRow) (st : Int) (A : Option Addr) (n c : Nat) (w : World) (h : RecsAt w w.heap.size A n r.recs) (hm : n ≤ maxLen) :
    Calls Try.prog 39 #[.agg #[.string r.key, .int .i64 r.ls, .string r.lp, .string r.value, .slice A n c], .int .i64 st] w fun e w' => e = .returned (.int .i64 (findB r st)) ∧ Below w.heap.size w w' := by
  have H := Lib.hid h
  clear h
  unfold findB
  go_enter Try.func39, Try.ntmps39
  go_wp2_with fail
  refine (idxR_any 51 (.inl rfl) (fun x : MRec => x.start == st) _ A n c r.recs _ ((H.out.below (((Below.refl w.heap.size w).alloc (Nat.le_refl _) _).alloc (by simp) _) (Nat.le_refl _)).more (by simp; omega)) hm (fun x W hb => find1_any x (w.heap.size + 1) st W (by have := hb.size; simp at this; omega) ((hb.cell (p := ⟨w.heap.size + 1, 0, none⟩) (by simp)).trans (by simp)))).mono ?_
  rintro e w1 ⟨rfl, hb1⟩
  have HL := Lib.hid ((((Below.refl w.heap.size w).alloc (Nat.le_refl _) _).alloc (by simp) _).trans (hb1.mono (by simp; omega)))
  clear hb1
  go_wp2
  go_ret
  exact ⟨rfl, HL.out⟩
end Go.Proofs.Ytniomgngiiiklaa
