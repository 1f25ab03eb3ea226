/- The walks of row.Key, row.time and what they call. -/
import Derived.Test.YtniomgngiiiklabRows
import Derived.Test.YtniomgngiiiklabGroundM
import Derived.Lib.ConvBytes
namespace Go.Proofs.Ytniomgngiiiklab
open Go.RowKit

def inB (n lo hi : Int) : Bool := decide (lo ≤ n) && decide (n ≤ hi)
def timeB (n : Int) : Bool := inB n 1 1099511627776
def badB (c : Int) : Bool := decide (c < 97) || decide (122 < c)
def keyB (s : ByteArray) : Bool := decide (1 ≤ s.size) && (decide (s.size ≤ 6) && !(s.data.toList.any fun u => badB u.toNat))

theorem time_any (n : Int) (w : World) :
    Calls Try.prog 39 #[.int .i64 n] w fun e w' => e = .returned (.bool (timeB n)) ∧ w = w' := by
  unfold timeB inB
  by_cases h1 : 1 ≤ n
  · go_enter Try.func39, Try.ntmps39
    go_wp2
    go_ret
    simp [h1]
  · go_enter Try.func39, Try.ntmps39
    go_wp2
    go_ret
    simp; omega

theorem key1_any (c : Int) (w : World) :
    Calls Try.prog 75 #[.int .u8 c] w fun e w' => e = .returned (.bool (badB c)) ∧ w = w' := by
  unfold badB
  by_cases h1 : c < 97
  · go_enter Try.func75, Try.ntmps75
    go_wp2
    go_ret
    simp [h1]
  · go_enter Try.func75, Try.ntmps75
    go_wp2
    go_ret
    simp; omega

set_option maxHeartbeats 400000 in
theorem idxB_any (g : Nat) (bs : List UInt8) (n c : Nat) (w : World) (hn : bs.length = n) (hm : n ≤ maxLen)
    (hcell : ∀ j y, bs[j]? = some y → w.cell? ⟨g, j, none⟩ = some (.int .u8 y.toNat)) :
    Calls Try.prog 90 #[.slice (some ⟨g, 0, none⟩) n c, .func (.func 75) #[] #[]] w
      fun e w' => e = .returned (.int .i64 (fstIdx (fun u : UInt8 => badB u.toNat) bs)) ∧ w = w' := by
  unfold maxLen at hm
  have Hn : Hid (bs.length = n) := hn
  clear hn
  have HC := Lib.hid hcell
  clear hcell
  go_enter Try.func90, Try.ntmps90
  go_wp2_with fail
  go_loop [8] (fun i => ∃ k : Nat, k ≤ n ∧ i = .int .i64 k ∧ ∀ (j : Nat) (y : UInt8), j < k → bs[j]? = some y → badB y.toNat = false) (fun i => n - (intOf i).toNat)
  case atStart => exact ⟨0, Nat.zero_le _, rfl, by intro j y h; omega⟩
  case round =>
    obtain ⟨k, hk, rfl, hb⟩ := hrel
    have HB := Lib.hid hb
    clear hb
    by_cases hlt : k < n
    · obtain ⟨y, hy⟩ : ∃ y, bs[k]? = some y := ⟨_, List.getElem?_eq_getElem (by have := Hn.out; omega)⟩
      have hc := HC.out k y hy
      have Hy : Hid (bs[k]? = some y) := hy
      clear hy
      cases hbad : badB y.toNat
      · go_wp2_with (go_at_call 75; refine (key1_any _ _).mono ?_; rintro e w' ⟨rfl, rfl⟩)
        go_round
        case rel => exact ⟨k + 1, by omega, by go_num, none_snoc (p := fun u : UInt8 => badB u.toNat) Hy.out hbad HB.out⟩
        case measure => simp [intOf]; omega
      · go_wp2_with (go_at_call 75; refine (key1_any _ _).mono ?_; rintro e w' ⟨rfl, rfl⟩)
        go_ret
        exact ⟨ret_int (fstIdx_hit (fun u : UInt8 => badB u.toNat) bs k y Hy.out hbad HB.out).symm, rfl⟩
    · go_wp2
      go_ret
      exact ⟨ret_int (fstIdx_miss _ _ (none_all (k := k) (by have := Hn.out; omega) HB.out)).symm, rfl⟩

theorem hasB_any (g : Nat) (bs : List UInt8) (n c : Nat) (w : World) (hn : bs.length = n) (hm : n ≤ maxLen)
    (hcell : ∀ j y, bs[j]? = some y → w.cell? ⟨g, j, none⟩ = some (.int .u8 y.toNat)) :
    Calls Try.prog 74 #[.slice (some ⟨g, 0, none⟩) n c, .func (.func 75) #[] #[]] w
      fun e w' => e = .returned (.bool (bs.any fun u : UInt8 => badB u.toNat)) ∧ w = w' := by
  have H := Lib.hid (idxB_any g bs n c w hn hm hcell)
  clear hcell hn hm
  rw [← fstIdx_nonneg]
  go_enter Try.func74, Try.ntmps74
  go_wp2_with (go_at_call 90; refine H.out.mono ?_; rintro e w' ⟨rfl, rfl⟩)
  go_ret
  exact ⟨rfl, rfl⟩

theorem bytes_cells (w : World) (s : ByteArray) (j : Nat) (y : UInt8) (h : s.data.toList[j]? = some y) : (Lib.bytesWorld w 5 s).cell? ⟨w.heap.size, j, none⟩ = some (.int .u8 y.toNat) := by
  have hl := (List.getElem?_eq_some_iff.1 h).1
  rw [Lib.bytesWorld_cell w 5 s j (by rw [Array.length_toList] at hl; exact hl)]
  simp [List.getD_eq_getElem?_getD, h]
theorem bytes_below (w : World) (s : ByteArray) : Below w.heap.size w (Lib.bytesWorld w 5 s) := by
  refine ⟨?_, ?_, ?_, ?_, fun k hk => Lib.bytesWorld_at_old w _ s k hk⟩
  · rfl
  · rfl
  · rfl
  · rw [Lib.bytesWorld_size]; omega

set_option maxHeartbeats 400000 in
theorem key_any (s : ByteArray) (w : World) :
    Calls Try.prog 50 #[.string s] w fun e w' => e = .returned (.bool (keyB s)) ∧ Below w.heap.size w w' := by
  have hconv := fun W : World => Lib.run_convert_string_bytes (P := Try.prog) W 9 119 5 s Try.underlying9 Try.underlying119 Try.underlying5
  by_cases h1 : 1 ≤ s.size
  · by_cases h6 : s.size ≤ 6
    · obtain ⟨e1, e2⟩ := str_some h1
      have HK := Lib.hid (fun w => hasB_any w.heap.size s.data.toList s.size (grownCap w s.size 0 5) (Lib.bytesWorld w 5 s) Array.length_toList (by unfold maxLen; omega) (bytes_cells w s))
      go_enter Try.func50, Try.ntmps50
      go_wp2_with (go_at_call 74; refine (HK.out _).mono ?_; rintro e w' ⟨rfl, rfl⟩)
      go_ret
      refine ⟨ret_bool ?_, bytes_below w s⟩
      simp [keyB, h1, h6]
    · obtain ⟨e1, e2⟩ := str_some h1
      go_enter Try.func50, Try.ntmps50
      go_wp2
      go_ret
      exact ⟨ret_bool (by simp [keyB]; omega), Below.refl _ _⟩
  · obtain ⟨e1, e2⟩ := str_none h1
    go_enter Try.func50, Try.ntmps50
    go_wp2
    go_ret
    exact ⟨ret_bool (by simp [keyB]; omega), Below.refl _ _⟩
end Go.Proofs.Ytniomgngiiiklab

/- The walks of the reference's In, isTime and KeyMay. -/
namespace Go.Proofs.Ytniomgngiiiklab
open Go.RowKit

theorem in_any (n lo hi : Int) (w : World) :
    Calls Try.prog 29 #[.int .i64 n, .int .i64 lo, .int .i64 hi] w fun e w' => e = .returned (.bool (inB n lo hi)) ∧ w = w' := by
  unfold inB
  by_cases h1 : lo ≤ n
  · go_enter Try.func29, Try.ntmps29
    go_wp2
    go_ret
    simp [h1]
  · go_enter Try.func29, Try.ntmps29
    go_wp2
    go_ret
    simp; omega

theorem isTime_any (n : Int) (w : World) :
    Calls Try.prog 46 #[.int .i64 n] w fun e w' => e = .returned (.bool (timeB n)) ∧ w = w' := by
  go_enter Try.func46, Try.ntmps46
  go_wp2_with (go_at_call 29; refine (in_any _ _ _ _).mono ?_; rintro e w' ⟨rfl, rfl⟩)
  go_ret
  exact ⟨rfl, rfl⟩

theorem inB_bad (y : UInt8) : inB y.toNat 97 122 = !badB y.toNat := by
  unfold inB badB
  by_cases h1 : 97 ≤ (y.toNat : Int) <;> by_cases h2 : (y.toNat : Int) ≤ 122 <;> simp [h1, h2] <;> omega

set_option maxHeartbeats 400000 in
theorem keyMay_any (s : ByteArray) (w : World) (hs : s.size ≤ maxLen) :
    Calls Try.prog 31 #[.string s] w fun e w' => e = .returned (.bool (keyB s)) ∧ w = w' := by
  unfold maxLen at hs
  go_enter Try.func31, Try.ntmps31
  go_wp2_with fail
  go_loop [3] (fun i => ∃ k : Nat, k ≤ s.size ∧ i = .int .i64 k ∧ ∀ (j : Nat) (y : UInt8), j < k → s.data.toList[j]? = some y → badB y.toNat = false) (fun i => s.size - (intOf i).toNat)
  case atStart => exact ⟨0, Nat.zero_le _, rfl, by intro j y h; omega⟩
  case round =>
    obtain ⟨k, hk, rfl, hb⟩ := hrel
    have HB := Lib.hid hb
    clear hb
    by_cases hlt : k < s.size
    · have Hy : Hid (s.data.toList[k]? = some s[k]) := by
        show _ = _
        rw [List.getElem?_eq_getElem (by rw [Array.length_toList]; exact hlt)]
        rfl
      have hr := s[k].toNat_lt
      cases hbad : badB s[k].toNat
      · have hin : inB s[k].toNat 97 122 = true := by rw [inB_bad, hbad]; rfl
        go_wp2_with (go_at_call 29; refine (in_any _ _ _ _).mono ?_; rintro e w' ⟨rfl, rfl⟩)
        go_round
        case rel => exact ⟨k + 1, by omega, by go_num, none_snoc (p := fun u : UInt8 => badB u.toNat) Hy.out hbad HB.out⟩
        case measure => simp [intOf]; omega
      · have hin : inB s[k].toNat 97 122 = false := by rw [inB_bad, hbad]; rfl
        go_wp2_with (go_at_call 29; refine (in_any _ _ _ _).mono ?_; rintro e w' ⟨rfl, rfl⟩)
        go_ret
        refine ⟨ret_bool ?_, rfl⟩
        have : (s.data.toList.any fun u : UInt8 => badB u.toNat) = true := any_hit Hy.out hbad
        simp only [keyB, this, Bool.not_true, Bool.and_false]
    · go_wp2_with (go_at_call 29; refine (in_any _ _ _ _).mono ?_; rintro e w' ⟨rfl, rfl⟩)
      go_ret
      refine ⟨ret_bool ?_, rfl⟩
      have : (s.data.toList.any fun u : UInt8 => badB u.toNat) = false := any_none (none_all (k := k) (by rw [Array.length_toList]; show s.size ≤ k; omega) HB.out)
      simp only [keyB, this, inB]
      by_cases h1 : 1 ≤ s.size <;> by_cases h2 : s.size ≤ 6 <;> simp [h1, h2] <;> omega
end Go.Proofs.Ytniomgngiiiklab
