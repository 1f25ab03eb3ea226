/- The walks of keep's picked and Key, and of strconv.Itoa at numbers below ten. -/
import Derived.Test.YtniomgngiiiklabDoorRows
import Derived.Test.YtniomgngiiiklabDoorKey
namespace Go.Proofs.YtniomgngiiiklabDoor
open Go.RowKit

/-- A number from 0 to m - 1. -/
def pickF (n m : Int) : Int := (if n < 0 then -(n + 1) else n) % m
theorem pickF_lt (n : Int) {m : Int} (hm : 0 < m) : 0 ≤ pickF n m ∧ pickF n m < m := ⟨Int.emod_nonneg _ (by omega), Int.emod_lt_of_pos _ hm⟩
def InI64 (n : Int) : Prop := -9223372036854775808 ≤ n ∧ n ≤ 9223372036854775807

theorem picked_any (n m : Int) (w : World) (hn : InI64 n) (hm : 0 < m) (hm' : m ≤ 1000000) :
    Calls Tryd.prog 17 #[.int .i64 n, .int .i64 m] w fun e w' => e = .returned (.int .i64 (pickF n m)) ∧ w = w' := by
  obtain ⟨h1, h2⟩ := hn
  unfold pickF
  by_cases h0 : n < 0
  · rw [if_pos h0]
    have e1 : (m == 0) = false := by simp; omega
    go_enter Tryd.func17, Tryd.ntmps17
    go_wp2
    go_ret
    exact ⟨ret_int (by rw [← Int.neg_tmod]; exact Int.tmod_eq_emod_of_nonneg (by omega)), rfl⟩
  · rw [if_neg h0]
    have h3 : 0 ≤ n := by omega
    have e1 : (m == 0) = false := by simp; omega
    go_enter Tryd.func17, Tryd.ntmps17
    go_wp2
    go_ret
    exact ⟨rfl, rfl⟩

def keyN (n : Int) : ByteArray := if n = 0 then ⟨#[97, 98]⟩ else if n = 1 then ⟨#[98]⟩ else if n = 2 then ⟨#[99, 111, 119]⟩ else ⟨#[100, 111, 103]⟩
def keyF (n : Int) : ByteArray := keyN (pickF n 4)
theorem keepKey_any (n : Int) (w : World) (hn : InI64 n) :
    Calls Tryd.prog 35 #[.int .i64 n] w fun e w' => e = .returned (.string (keyF n)) ∧ Below w.heap.size w w' := by
  unfold keyF
  obtain ⟨h1, h2⟩ := pickF_lt n (m := 4) (by omega)
  have HN := Lib.hid hn
  obtain ⟨p, hpe⟩ : ∃ p, pickF n 4 = p := ⟨_, rfl⟩
  rw [hpe] at h1 h2 ⊢
  have HP := Lib.hid hpe
  clear hn hpe
  go_enter Tryd.func35, Tryd.ntmps35
  go_wp2_with fail
  refine (picked_any n 4 _ HN.out (by omega) (by omega)).mono ?_
  rintro e w1 ⟨rfl, rfl⟩
  rw [HP.out]
  have hp : p = 0 ∨ p = 1 ∨ p = 2 ∨ p = 3 := by omega
  clear h1 h2
  rcases hp with rfl | rfl | rfl | rfl
  all_goals
    go_wp2
    go_ret
    exact ⟨rfl, (Below.refl _ _).alloc (Nat.le_refl _) _⟩

def digitS (n : Int) : ByteArray := ⟨#[UInt8.ofNat (48 + n.toNat)]⟩
theorem itoa_small (n : Int) (w : World) (h1 : 0 ≤ n) (h2 : n < 10) :
    Calls Tryd.prog 36 #[.int .i64 n] w fun e w' => e = .returned (.string (digitS n)) ∧ w = w' := by
  have hp : n = 0 ∨ n = 1 ∨ n = 2 ∨ n = 3 ∨ n = 4 ∨ n = 5 ∨ n = 6 ∨ n = 7 ∨ n = 8 ∨ n = 9 := by omega
  clear h1 h2
  rcases hp with rfl | rfl | rfl | rfl | rfl | rfl | rfl | rfl | rfl | rfl
  all_goals
    go_enter Tryd.func36, Tryd.ntmps36
    go_wp2_with (go_in)
    go_ret
    exact ⟨rfl, rfl⟩
end Go.Proofs.YtniomgngiiiklabDoor
