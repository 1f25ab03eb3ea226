/- The acts of raw things, as plain data; no program in sight. -/
import Derived.Test.YtniomgngiiiklabDoorRaw
import Derived.Test.YtniomgngiiiklabDoorStep
import Derived.Test.YtniomgngiiiklabDoorTop
namespace Go.Proofs.YtniomgngiiiklabDoor
open Go.RowKit

def digits36 : ByteArray := ⟨#[48, 49, 50, 51, 52, 53, 54, 55, 56, 57, 97, 98, 99, 100, 101, 102, 103, 104, 105, 106, 107, 108, 109, 110, 111, 112, 113, 114, 115, 116, 117, 118, 119, 120, 121, 122]⟩
def pairs100 : ByteArray := ⟨((List.range 100).flatMap fun i => [UInt8.ofNat (48 + i / 10), UInt8.ofNat (48 + i % 10)]).toArray⟩
/-- A number below a hundred, written out. -/
def itoaF (i : Nat) : ByteArray := if i < 10 then digits36.extract i (i + 1) else pairs100.extract (i * 2) (i * 2 + 2)
/-- The value that act i puts: "v" and the number i. -/
def vNum (i : Nat) : ByteArray := (⟨#[118]⟩ : ByteArray) ++ itoaF i
theorem vNum_size (i : Nat) : (vNum i).size ≤ 20 := by
  unfold vNum itoaF
  rw [ByteArray.size_append]
  have h1 : (⟨#[118]⟩ : ByteArray).size = 1 := rfl
  rw [h1]
  split
  · rw [ByteArray.size_extract]; omega
  · rw [ByteArray.size_extract]; omega
def actOf (n : Int) (i : Nat) (r : MRaw) : MAct :=
  if pickF r.kind 30 < 5 then ⟨1, pickF r.c n, ⟨#[]⟩, ⟨#[]⟩⟩
  else if pickF r.kind 30 < 9 then ⟨2, pickF r.c n, keyF r.a, ⟨#[]⟩⟩
  else if pickF r.kind 30 < 15 then ⟨3, pickF r.c n, keyF r.a, vNum i⟩
  else if pickF r.kind 30 < 27 then ⟨4, pickF r.c n, ⟨#[]⟩, ⟨#[]⟩⟩
  else if pickF r.kind 30 = 27 then ⟨5, pickF r.c n, ⟨#[]⟩, ⟨#[]⟩⟩
  else ⟨6, pickF r.c n, keyF r.a, ⟨#[]⟩⟩
def actsK (n : Int) (most : Nat) (l : List MRaw) : List MAct := (l.take most).mapIdx (actOf n)
theorem actsK_length (n : Int) (most : Nat) (l : List MRaw) : (actsK n most l).length = min most l.length := by simp [actsK]
theorem acts_snoc {n : Int} {l : List MRaw} {k : Nat} {x : MRaw} (h : l[k]? = some x) : (l.take (k + 1)).mapIdx (actOf n) = (l.take k).mapIdx (actOf n) ++ [actOf n k x] := by
  obtain ⟨hk, rfl⟩ := List.getElem?_eq_some_iff.1 h
  rw [List.take_succ_eq_append_getElem hk, List.mapIdx_concat, List.length_take, Nat.min_eq_left (Nat.le_of_lt hk)]
theorem actOf_c {n : Int} {i : Nat} {r : MRaw} : (actOf n i r).c = pickF r.c n := by
  unfold actOf
  repeat' split
  all_goals rfl
theorem actOf_kind {n : Int} {i : Nat} {r : MRaw} : 1 ≤ (actOf n i r).kind ∧ (actOf n i r).kind ≤ 6 := by
  unfold actOf
  repeat' split
  all_goals (constructor <;> (dsimp only; omega))
theorem keyF_ok (a : Int) : keyB (keyF a) = true := by
  unfold keyF keyN
  repeat' split
  all_goals decide +kernel
theorem actOf_key {n : Int} {i : Nat} {r : MRaw} : ((actOf n i r).kind = 2 ∨ (actOf n i r).kind = 3 ∨ (actOf n i r).kind = 6) → ∃ a : Int, (actOf n i r).key = keyF a := by
  unfold actOf
  repeat' split
  all_goals first
    | (intro _; exact ⟨_, rfl⟩)
    | (intro h; dsimp only at h; omega)
theorem actsK_get {n : Int} {most : Nat} {l : List MRaw} {a : MAct} (h : a ∈ actsK n most l) : ∃ i r, a = actOf n i r := by
  unfold actsK at h
  obtain ⟨i, hi, rfl⟩ := List.mem_iff_getElem.1 h
  exact ⟨i, _, by rw [List.getElem_mapIdx]⟩
theorem actsK_ok {n : Nat} {most : Nat} {l : List MRaw} (hn : 0 < n) : ∀ a ∈ actsK n most l, ActOk n a := by
  intro a h
  obtain ⟨i, r, rfl⟩ := actsK_get h
  have h1 := pickF_lt r.c (m := n) (by omega)
  exact ⟨actOf_kind, by rw [actOf_c]; exact h1.1, by rw [actOf_c]; exact h1.2⟩
/-- The four keys. -/
def keys4 : List ByteArray := [keyN 0, keyN 1, keyN 2, keyN 3]
theorem keyF_mem (a : Int) : keyF a ∈ keys4 := by
  unfold keyF keys4
  have h := pickF_lt a (m := 4) (by omega)
  have hp : pickF a 4 = 0 ∨ pickF a 4 = 1 ∨ pickF a 4 = 2 ∨ pickF a 4 = 3 := by omega
  rcases hp with e | e | e | e <;> rw [e] <;> simp
theorem actsK_size {n : Int} {i : Nat} {r : MRaw} : (actOf n i r).key.size ≤ 6 ∧ (actOf n i r).value.size ≤ 20 := by
  have hk : ∀ a : Int, (keyF a).size ≤ 6 := fun a => by
    unfold keyF keyN
    repeat' split
    all_goals decide
  have hv := vNum_size i
  unfold actOf
  repeat' split
  all_goals exact ⟨by first | exact hk _ | exact Nat.zero_le _, by first | exact hv | exact Nat.zero_le _⟩
end Go.Proofs.YtniomgngiiiklabDoor

/- What the scripts of the laws answer, plainly: the endings of WorldsGood, TopWhole, TopTimes, TopTwice, TopResolved, TopAsking; no program in sight. -/
namespace Go.Proofs.YtniomgngiiiklabDoor
open Go.RowKit

/-- What txn.Run hands back. -/
def runAll (n : Int) (l : List MAct) : List MAns × MWorld × Int := if runCode n l = 0 then ((runM n.toNat l).1, (runM n.toNat l).2, 0) else ([], zeroWorld, runCode n l)
section
variable {n : Nat} {l : List MAct}
theorem runAll_ok (h1 : 1 ≤ n) (h5 : n ≤ 5) (hl : l.length ≤ 400) : runAll n l = ((runM n l).1, (runM n l).2, 0) := by
  have e : runCode n l = 0 := by unfold runCode; rw [if_neg (by omega), if_neg (by omega)]
  unfold runAll
  rw [if_pos e, Int.toNat_natCast]
theorem runAll_acts (h1 : 1 ≤ n) (h5 : n ≤ 5) (hl : l.length ≤ 400) (ha : ∀ a ∈ l, ActOk n a) : runAll n l = (ansFrom (startW n) l, l.foldl stepW (startW n), 0) := by
  rw [runAll_ok h1 h5 hl, run_ok h5 hl ha]
theorem runAll_bad {n : Int} {c : Int} (h : runCode n l = c) (h0 : c ≠ 0) : runAll n l = ([], zeroWorld, c) := by
  unfold runAll
  rw [h, if_neg h0]
theorem runCode_low (l : List MAct) : runAll 0 l = ([], zeroWorld, 2) := runAll_bad (by unfold runCode; rw [if_pos (.inl (by decide))]) (by decide)
theorem runCode_long (h1 : 1 ≤ n) (h5 : n ≤ 5) (hl : 400 < l.length) : runAll n l = ([], zeroWorld, 1) := runAll_bad (by unfold runCode; rw [if_neg (by omega), if_pos hl]) (by decide)
theorem bad_step {p : List MAns × MWorld} {a : MAct} (h0 : doCode p.2 a ≠ 0) : runStep p a = (p.1 ++ [{ zeroAns with code := doCode p.2 a }], p.2) := by
  have e : doM p.2 a = (zeroWorld, zeroAns, doCode p.2 a) := by unfold doM; rw [if_neg h0]
  unfold runStep
  rw [e]
  dsimp only
  rw [if_neg h0]
theorem fit_end (h5 : n ≤ 5) (hl : l.length ≤ 400) (ha : ∀ a ∈ l, ActOk n a) : Fit n (400 - l.length) (l.foldl stepW (startW n)) := fit_fold (fit_start h5 _ (by omega)) ha
theorem run_snoc {a : MAct} : runM n (l ++ [a]) = runStep (runM n l) a := by
  unfold runM
  rw [List.foldl_append]; rfl
/-- Two acts that fail change nothing. -/
theorem worlds_plain {k : Int} {c : Int} {s v : ByteArray} (h1 : 1 ≤ n) (h5 : n ≤ 5) (hl : l.length ≤ 90) (ha : ∀ a ∈ l, ActOk n a) (hk : 7 ≤ k) :
    runAll n (l ++ [⟨k, c, s, v⟩] ++ [⟨2, (n : Int), s, v⟩]) = (ansFrom (startW n) l ++ [{ zeroAns with code := 3 }] ++ [{ zeroAns with code := 2 }], l.foldl stepW (startW n), 0) := by
  rw [runAll_ok h1 h5 (by simp; omega), run_snoc, run_snoc, run_ok h5 (by omega) ha]
  have hf := fit_end h5 (l := l) (by omega) ha
  have hw := worldB_iff.2 hf.good
  have e1 : doCode (l.foldl stepW (startW n)) ⟨k, c, s, v⟩ = 3 := by
    unfold doCode; rw [hw, if_neg (by decide), if_pos (.inr (by show (6 : Int) < k; omega))]
  have e2 : doCode (l.foldl stepW (startW n)) ⟨2, (n : Int), s, v⟩ = 2 := by
    unfold doCode; rw [hw, if_neg (by decide), if_neg (by show ¬ ((2 : Int) < 1 ∨ (6 : Int) < 2); omega), if_pos (.inr (by show _ ≤ (n : Int); rw [hf.len]; exact Int.le_refl _))]
  rw [bad_step (p := (ansFrom (startW n) l, l.foldl stepW (startW n))) (by rw [e1]; decide)]
  rw [bad_step (p := (_, l.foldl stepW (startW n))) (by rw [e2]; decide)]
  rw [e1, e2]
theorem whole_plain (h5 : n ≤ 5) (hl : l.length ≤ 400) (ha : ∀ a ∈ l, ActOk n a) :
    ∀ r ∈ (l.foldl stepW (startW n)).rows, ∀ x ∈ r.recs, ∀ r' ∈ (l.foldl stepW (startW n)).rows, ∀ x' ∈ r'.recs, x.start = x'.start → x.commit = x'.commit := by
  obtain ⟨P, hw⟩ := winv_run (m := 0) (fit_start h5 l.length hl) ha (start_winv (n := n) (fun _ => ⟨#[]⟩))
  have hf := fit_end h5 hl ha
  exact whole_run hf.good.clock.1 hf.good.rows hw.inv
theorem times_plain (h5 : n ≤ 5) (hl : l.length ≤ 400) (ha : ∀ a ∈ l, ActOk n a) : lastTime 0 (ansFrom (startW n) l) = some (l.foldl stepW (startW n)).clock :=
  lastTime_run (fit_start h5 l.length hl) ha
theorem twice_plain (h1 : 1 ≤ n) (h5 : n ≤ 5) (hl : l.length ≤ 400) (ha : ∀ a ∈ l, ActOk n a) (k : Nat) : (runAll n (l.take k)).1 = (runAll n l).1.take k := by
  rw [runAll_acts h1 h5 hl ha, runAll_acts h1 h5 (by rw [List.length_take]; omega) fun a h => ha a (List.mem_of_mem_take h)]
  exact (ansFrom_take l k _).symm
/-- The ending of a script of acts at some keys. -/
theorem tail_acts {m : Nat} {K : ByteArray → Prop} (h5 : n ≤ 5) (hl : l.length + m ≤ 400) (ha : ∀ a ∈ l, ActOk n a) (hk : ∀ a ∈ l, a.kind = 3 → K a.key) : Tail n m (l.foldl stepW (startW n)) ((dealsT (List.replicate n zeroTrack) 0 l (ansFrom (startW n) l)).map Prod.fst) K := by
  obtain ⟨P, hw⟩ := winv_run (m := 0) (fit_start h5 l.length (by omega)) ha (start_winv (n := n) (fun _ => ⟨#[]⟩))
  obtain ⟨h1, _⟩ := deals_run (i := 0) (m := 0) (fit_start h5 l.length (by omega)) ha likes_start
  rw [h1]
  exact ⟨fit_fold (m := m) (fit_start h5 _ hl) ha, ⟨P, hw⟩, ki_run (m := 0) (fit_start h5 _ (by omega)) ha hk ki_start⟩
/-- All deals were made by acts of the script. -/
theorem deals_early : ∀ d ∈ dealsT (List.replicate n zeroTrack) 0 l (ansFrom (startW n) l), d.2 < l.length := by
  have : ∀ (l : List MAct) (x : List MAns) (ts : List MTrack) (i : Nat), ∀ d ∈ dealsT ts i l x, d.2 < i + l.length := by
    intro l
    induction l with
    | nil => intro x ts i d hd; cases x <;> exact absurd hd (by simp [dealsT])
    | cons a l ih =>
      intro x ts i d hd
      cases x with
      | nil => exact absurd hd (by simp [dealsT])
      | cons y x =>
        rw [dealsT] at hd
        rcases List.mem_append.1 hd with hd | hd
        · obtain ⟨_, _, rfl⟩ := List.mem_map.1 hd
          simp
        · have := ih _ _ _ d hd
          rw [List.length_cons]; omega
  intro d hd
  have := this _ _ _ _ d hd
  omega
end
end Go.Proofs.YtniomgngiiiklabDoor
