/- The walks of the reference's In, isTime and KeyMay. -/
import Derived.Test.YtniomgngiiiklaaKey
namespace Go.Proofs.Ytniomgngiiiklaa
open Go.RowKit

theorem in_any (n lo hi : Int) (w : World) :
    Calls Try.prog 35 #[.int .i64 n, .int .i64 lo, .int .i64 hi] w fun e w' => e = .returned (.bool (inB n lo hi)) ∧ w = w' := by
  unfold inB
  by_cases h1 : lo ≤ n
  · go_enter Try.func35, Try.ntmps35
    go_wp2
    go_ret
    simp [h1]
  · go_enter Try.func35, Try.ntmps35
    go_wp2
    go_ret
    simp; omega

theorem isTime_any (n : Int) (w : World) :
    Calls Try.prog 41 #[.int .i64 n] w fun e w' => e = .returned (.bool (timeB n)) ∧ w = w' := by
  go_enter Try.func41, Try.ntmps41
  go_wp2_with (go_at_call 35; refine (in_any _ _ _ _).mono ?_; rintro e w' ⟨rfl, rfl⟩)
  go_ret
  exact ⟨rfl, rfl⟩

theorem inB_bad (y : UInt8) : inB y.toNat 97 122 = !badB y.toNat := by
  unfold inB badB
  by_cases h1 : 97 ≤ (y.toNat : Int) <;> by_cases h2 : (y.toNat : Int) ≤ 122 <;> simp [h1, h2] <;> omega

set_option maxHeartbeats 400000 in
theorem keyMay_any (s : ByteArray) (w : World) (hs : s.size ≤ maxLen) :
    Calls Try.prog 16 #[.string s] w fun e w' => e = .returned (.bool (keyB s)) ∧ w = w' := by
  unfold maxLen at hs
  go_enter Try.func16, Try.ntmps16
  go_wp2_with fail
  go_loop [3] (fun i => ∃ k : Nat, k ≤ s.size ∧ i = .int .i64 k ∧ ∀ (j : Nat) (y : UInt8), j < k → s.data.toList[j]? = some y → badB y.toNat = false) (fun i => s.size - (intOf i).toNat)
  case atStart => exact ⟨0, Nat.zero_le _, rfl, by intro j y h; omega⟩
  case round =>
    obtain ⟨k, hk, rfl, hb⟩ := hrel
    have HB := Lib.hid hb
    clear hb
    by_cases hlt : k < s.size
    · have Hy : Hid (s.data.toList[k]? = some s[k]) := by
        show _ = _
        rw [List.getElem?_eq_getElem (by rw [Array.length_toList]; exact hlt)]
        rfl
      have hr := s[k].toNat_lt
      cases hbad : badB s[k].toNat
      · have hin : inB s[k].toNat 97 122 = true := by rw [inB_bad, hbad]; rfl
        go_wp2_with (go_at_call 35; refine (in_any _ _ _ _).mono ?_; rintro e w' ⟨rfl, rfl⟩)
        go_round
        case rel => exact ⟨k + 1, by omega, by go_num, none_snoc (p := fun u : UInt8 => badB u.toNat) Hy.out hbad HB.out⟩
        case measure => simp [intOf]; omega
      · have hin : inB s[k].toNat 97 122 = false := by rw [inB_bad, hbad]; rfl
        go_wp2_with (go_at_call 35; refine (in_any _ _ _ _).mono ?_; rintro e w' ⟨rfl, rfl⟩)
        go_ret
        refine ⟨ret_bool ?_, rfl⟩
        have : (s.data.toList.any fun u : UInt8 => badB u.toNat) = true := any_hit Hy.out hbad
        simp only [keyB, this, Bool.not_true, Bool.and_false]
    · go_wp2_with (go_at_call 35; refine (in_any _ _ _ _).mono ?_; rintro e w' ⟨rfl, rfl⟩)
      go_ret
      refine ⟨ret_bool ?_, rfl⟩
      have : (s.data.toList.any fun u : UInt8 => badB u.toNat) = false := any_none (none_all (k := k) (by rw [Array.length_toList]; show s.size ≤ k; omega) HB.out)
      simp only [keyB, this, inB]
      by_cases h1 : 1 ≤ s.size <;> by_cases h2 : s.size ≤ 6 <;> simp [h1, h2] <;> omega
end Go.Proofs.Ytniomgngiiiklaa
