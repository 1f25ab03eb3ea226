/- What the laws of top begin with: acts of raw things, their answers, what is known of them; no walk. -/
import Derived.Test.YtniomgngiiiklacDoorEnds
namespace Go.Proofs.YtniomgngiiiklacDoor
open Go.RowKit

/-- Acts of raw things, run by four clients. -/
structure Script (mo : Nat) (l : List MRaw) (acts : List MAct) (X : List MAns) (M : MWorld) : Prop where
  eq : acts = actsK ((4 : Nat) : Int) mo l
  len : acts.length ≤ mo
  ok : ∀ a ∈ acts, ActOk 4 a
  size : ∀ a ∈ acts, a.key.size ≤ maxLen ∧ a.value.size ≤ maxLen
  keys : ∀ a ∈ acts, a.kind = 3 → a.key ∈ keys4
  run : runM 4 acts = (X, M)
  ans : X = ansFrom (startW 4) acts
  xlen : X.length = acts.length
  fine : Fine (List.replicate 4 zeroTrack) acts X
theorem script_mk {mo : Nat} (hmo : mo ≤ 400) (l : List MRaw) : ∃ acts X M, Script mo l acts X M := by
  have hlen : (actsK ((4 : Nat) : Int) mo l).length ≤ mo := by rw [actsK_length]; omega
  have hok : ∀ a ∈ actsK ((4 : Nat) : Int) mo l, ActOk 4 a := actsK_ok (n := 4) (by decide)
  refine ⟨_, _, _, rfl, hlen, hok, fun a ha => ?_, fun a ha h3 => ?_, run_ok (n := 4) (by decide) (by omega) hok, rfl, length_ansFrom _ _, fine_start (n := 4) (by decide) (by omega) hok⟩
  · obtain ⟨i, r, rfl⟩ := actsK_get ha
    have h := actsK_size (n := ((4 : Nat) : Int)) (i := i) (r := r)
    unfold maxLen
    omega
  · obtain ⟨i, r, rfl⟩ := actsK_get ha
    obtain ⟨x, hx⟩ := actOf_key (.inr (.inl h3))
    rw [hx]; exact keyF_mem x
theorem deals_len : ∀ (l : List MAct) (x : List MAns) (ts : List MTrack) (i : Nat), (dealsT ts i l x).length ≤ l.length
  | [], x, ts, i => by cases x <;> simp [dealsT]
  | a :: l, [], ts, i => by simp [dealsT]
  | a :: l, y :: x, ts, i => by
    have ih := deals_len l x (tksTurn ts a y) (i + 1)
    have h1 : (trackDeal (tk ts a) a y).length ≤ 1 := by unfold trackDeal; split <;> simp
    rw [dealsT, List.length_append, List.length_map, List.length_cons]
    omega
theorem run_first {P : Program} (t : TypeId) (A : Option Addr) (n k c s : Nat) (h : P.underlying t = some (.slice (P.elem t))) (hs : ∀ W, (Go.sizeOf (P.elem t)).run P W = .ok s W) (hk : k ≤ c) (w : World) :
    (Instr.slice t (.slice A n c) none (some (.int .i64 (k : Int))) none).run P w = .ok (.slice A k c) w := by
  rw [run_slice_h _ _ _ _ _ h _ _ (by omega) (by omega), hs]
  simp [Result.andThen, sliced]
  intro _; cases A <;> simp [Addr.add]
end Go.Proofs.YtniomgngiiiklacDoor
