/- What the scripts of keep's laws answer, act by act; no program in sight. -/
import Derived.Test.YtniomgngiiiklabDoorLawPlain
import Derived.Test.YtniomgngiiiklabDoorScripts
namespace Go.Proofs.YtniomgngiiiklabDoor
open Go.RowKit

theorem ansAt_of {x : List MAns} {i : Nat} (h : i < x.length) : x[i]? = some (ansAt x i) := by
  unfold ansAt
  rw [List.getElem?_eq_getElem h]; rfl
theorem run3 {l : List MAct} (hl : l.length ≤ 400) (ha : ∀ a ∈ l, ActOk 3 a) : (runM 3 l).1 = ansFrom (startW 3) l := by
  rw [run_ok (n := 3) (by decide) hl ha]
theorem deedA_ok {st : Nat} {keys : List ByteArray} : ∀ a ∈ deedA 0 st keys, ActOk 3 a := by
  intro a h
  unfold deedA at h
  rcases List.mem_append.1 h with h | h
  · rcases List.mem_cons.1 h with rfl | h
    · unfold ActOk; decide
    · obtain ⟨k, _, rfl⟩ := List.mem_map.1 h
      unfold ActOk; dsimp only; omega
  · rw [(List.mem_replicate.1 h).2]; unfold ActOk; decide
theorem lookA_ok {keys : List ByteArray} : ∀ a ∈ lookA 1 keys, ActOk 3 a := by
  intro a h
  unfold lookA at h
  rcases List.mem_cons.1 h with rfl | h
  · unfold ActOk; decide
  · obtain ⟨k, _, rfl⟩ := List.mem_map.1 h
    unfold ActOk; dsimp only; omega
theorem deedA_length {st : Nat} {keys : List ByteArray} {c : Nat} : (deedA c st keys).length = 1 + keys.length + st := by
  unfold deedA; simp; omega
theorem lookA_length {keys : List ByteArray} {c : Nat} : (lookA c keys).length = 1 + keys.length := by
  unfold lookA; simp; omega
theorem keysK_length (k : Nat) : (keysK k).length = k := by unfold keysK; simp

theorem late_plain {key : ByteArray} (hk : key ∈ keys4) : ∃ Y : List MAns, (runM 3 (lateActs key)).1 = Y ∧ Y.length = 9 ∧ (ansAt Y 5).code = 7 ∧ (ansAt Y 5).phase = 2 ∧ (ansAt Y 7).phase = 0 ∧ (ansAt Y 7).code = 0 ∧ (ansAt Y 8).code = 8 ∧ (ansAt Y 8).phase = 0 := by
  have hlen : (lateActs key).length = 9 := rfl
  have hok : ∀ a ∈ lateActs key, ActOk 3 a := by
    intro a h
    unfold lateActs at h
    rcases List.mem_append.1 h with h | h
    · rcases List.mem_append.1 h with h | h
      · simp at h
        rcases h with rfl | rfl <;> (unfold ActOk; dsimp only; omega)
      · exact deedA_ok a h
    · simp at h
      rcases h with rfl | rfl | rfl | rfl <;> (unfold ActOk; dsimp only; omega)
  have he := List.all_eq_true.1 late_eval key hk
  refine ⟨_, run3 (by omega) hok, by rw [length_ansFrom, hlen], ?_⟩
  unfold lateB at he
  simp only [Bool.and_eq_true, decide_eq_true_eq] at he
  exact he
theorem steps_plain {k : Nat} (h0 : 1 ≤ k) (h5 : k ≤ 5) : ∃ Y : List MAns, (runM 3 (stepsActs k)).1 = Y ∧ Y.length = 4 * k + 3 ∧ (ansAt Y (3 * k + 1)).phase = 0 ∧ (ansAt Y (3 * k + 1)).code = 0 ∧ (ansAt Y (2 * k + 1)).time = 2 ∧ (ansAt Y 0).time = 1 ∧
    ∀ i, i < k → (ansAt Y (3 * k + 3 + i)).code = 0 ∧ (ansAt Y (3 * k + 3 + i)).is = true ∧ (ansAt Y (3 * k + 3 + i)).value = ofK (keyK i) 0 := by
  have hlen : (stepsActs k).length = 4 * k + 3 := by
    unfold stepsActs
    rw [List.length_append, deedA_length, lookA_length, keysK_length]; omega
  have hok : ∀ a ∈ stepsActs k, ActOk 3 a := by
    intro a h
    unfold stepsActs at h
    rcases List.mem_append.1 h with h | h
    · exact deedA_ok a h
    · exact lookA_ok a h
  have he := List.all_eq_true.1 steps_eval (k - 1) (by simp; omega)
  rw [show k - 1 + 1 = k by omega] at he
  refine ⟨_, run3 (by omega) hok, by rw [length_ansFrom, hlen], ?_⟩
  unfold stepsB at he
  simp only [Bool.and_eq_true, decide_eq_true_eq] at he
  refine ⟨he.1, he.2.1, he.2.2.1, he.2.2.2.1, fun i hi => ?_⟩
  have h := List.all_eq_true.1 he.2.2.2.2 i (by simpa using hi)
  rw [length_ansFrom, hlen, show 4 * k + 3 - k + i = 3 * k + 3 + i by omega] at h
  simp only [Bool.and_eq_true, decide_eq_true_eq] at h
  exact h
theorem crash_plain {k m : Nat} (h0 : 1 ≤ k) (h5 : k ≤ 5) (hm : m < 2 * k + 2) : ∃ Y : List MAns, (runM 3 (crashActs k m)).1 = Y ∧ Y.length = 3 * k + m + 3 ∧
    ∀ i, i < k → (ansAt Y (2 * k + m + 3 + i)).code = 0 ∧ (ansAt Y (2 * k + m + 3 + i)).is = decide (k + 2 ≤ m) ∧ ((ansAt Y (2 * k + m + 3 + i)).is = true → (ansAt Y (2 * k + m + 3 + i)).value = ofK (keyK i) 0) := by
  have hlen : (crashActs k m).length = 3 * k + m + 3 := by
    unfold crashActs
    rw [List.length_append, List.length_append, List.length_append, deedA_length, lookA_length, keysK_length, List.length_map, keysK_length]
    simp; omega
  have hok : ∀ a ∈ crashActs k m, ActOk 3 a := by
    intro a h
    unfold crashActs at h
    rcases List.mem_append.1 h with h | h
    · rcases List.mem_append.1 h with h | h
      · rcases List.mem_append.1 h with h | h
        · exact deedA_ok a h
        · simp at h; subst h; unfold ActOk; decide
      · obtain ⟨x, _, rfl⟩ := List.mem_map.1 h
        unfold ActOk; dsimp only; omega
    · exact lookA_ok a h
  have he := List.all_eq_true.1 (List.all_eq_true.1 crash_eval (k - 1) (by simp; omega)) m (by simp; omega)
  rw [show k - 1 + 1 = k by omega] at he
  refine ⟨_, run3 (by omega) hok, by rw [length_ansFrom, hlen], fun i hi => ?_⟩
  unfold crashB at he
  have h := List.all_eq_true.1 he i (by simpa using hi)
  rw [length_ansFrom, hlen, show 3 * k + m + 3 - k + i = 2 * k + m + 3 + i by omega] at h
  simp only [Bool.and_eq_true, decide_eq_true_eq, Bool.or_eq_true, Bool.not_eq_true'] at h
  refine ⟨h.1, h.2.1, fun ht => ?_⟩
  rcases h.2.2 with h2 | h2
  · rw [ht] at h2; cases h2
  · exact h2
end Go.Proofs.YtniomgngiiiklabDoor
