/- What the endings of TopResolved and TopAsking answer, plainly; no program in sight. -/
import Derived.Test.YtniomgngiiiklaaDoorFine
namespace Go.Proofs.YtniomgngiiiklaaDoor
open Go.RowKit

def SortedW (ws : List MWrite) : Prop := ws.Pairwise fun a b => ltK a.key b.key = true
theorem writeOf_sorted {ws : List MWrite} (h : SortedW ws) {y : MWrite} (hy : y ∈ ws) : writeOf ws y.key = some y := by
  unfold SortedW at h
  induction ws with
  | nil => cases hy
  | cons x l ih =>
    obtain ⟨h1, h2⟩ := List.pairwise_cons.1 h
    unfold writeOf
    rw [List.find?_cons]
    rcases List.mem_cons.1 hy with rfl | hy
    · simp
    · have hne := ltK_ne (h1 y hy)
      have : decide (x.key = y.key) = false := decide_eq_false hne
      simp only [this]
      exact ih h2 hy
theorem trackStep_sorted {t : MTrack} {a : MAct} {x : MAns} (h : SortedW t.writes) : SortedW (trackStep t a x).writes := by
  show SortedW (trackTurn t a x).writes
  unfold trackTurn
  split
  · split
    · exact List.Pairwise.nil
    · split
      · exact putWrite_sorted h
      · split <;> exact h
  · exact h
theorem tk_sorted {ts : List MTrack} {a : MAct} (h : ∀ t ∈ ts, SortedW t.writes) : SortedW (tk ts a).writes := by
  unfold tk
  cases hx : ts[a.c.toNat]? with
  | none => exact List.Pairwise.nil
  | some t => exact h t (List.mem_of_getElem? hx)
/-- The writes of a deal stand in order. -/
theorem deals_sorted : ∀ (l : List MAct) (x : List MAns) (ts : List MTrack) (i : Nat), (∀ t ∈ ts, SortedW t.writes) → ∀ d ∈ dealsT ts i l x, SortedW d.1.writes
  | [], x, ts, i, _, d, hd => by cases x <;> exact absurd hd (by simp [dealsT])
  | a :: l, [], ts, i, _, d, hd => absurd hd (by simp [dealsT])
  | a :: l, y :: x, ts, i, h, d, hd => by
    rw [dealsT] at hd
    rcases List.mem_append.1 hd with hd | hd
    · obtain ⟨e, he, rfl⟩ := List.mem_map.1 hd
      unfold trackDeal at he
      split at he
      · simp at he; subst he; exact tk_sorted h
      · cases he
    · refine deals_sorted l x _ _ (fun t ht => ?_) d hd
      unfold tksTurn at ht
      rcases List.mem_or_eq_of_mem_set ht with ht | rfl
      · exact h t ht
      · exact trackStep_sorted (tk_sorted h)

theorem ask_ok' {k : ByteArray} : ActOk 4 (askA k) := ask_ok (by decide)
/-- TopAsking's ending. -/
theorem asking_plain {l : List MAct} {k : ByteArray} (hl : l.length ≤ 80) (ha : ∀ a ∈ l, ActOk 4 a) (hk : keyB k = true) :
    runM 4 (l ++ [askA k, askA k]) = (ansFrom (startW 4) (l ++ [askA k, askA k]), (l ++ [askA k, askA k]).foldl stepW (startW 4)) ∧ WorldGood ((l ++ [askA k, askA k]).foldl stepW (startW 4)) ∧
    (∀ r ∈ ((l ++ [askA k, askA k]).foldl stepW (startW 4)).rows, ∀ z ∈ r.recs, z.commit ≠ 0 → ∃ d ∈ dealsT (List.replicate 4 zeroTrack) 0 l (ansFrom (startW 4) l), d.1.start = z.start ∧ d.1.commit = z.commit ∧ writeOf d.1.writes r.key = some ⟨r.key, z.value⟩) ∧
    ∃ a, (ansFrom (startW 4) (l ++ [askA k, askA k]))[l.length + 1]? = some a ∧ a.code = 5 := by
  have hal : ∀ a ∈ l ++ [askA k, askA k], ActOk 4 a := fun a h => by
    rcases List.mem_append.1 h with h | h
    · exact ha a h
    · simp at h; subst h; exact ask_ok'
  have ht := tail_acts (n := 4) (m := 2) (K := fun _ => True) (by decide) (l := l) (by omega) ha (fun _ _ _ => trivial)
  obtain ⟨e1, e2⟩ := end_ask (m := 0) hk (by decide) ht
  refine ⟨run_ok (n := 4) (by decide) (by simp; omega) hal, (fit_end (n := 4) (by decide) (by simp; omega) hal).good, fun r hr z hz hc => ?_, ?_⟩
  · rw [List.foldl_append] at hr
    obtain ⟨d, hd, h1, h2, h3⟩ := e1 r hr z hz hc
    obtain ⟨d', hd', rfl⟩ := List.mem_map.1 hd
    exact ⟨d', hd', h1, h2, writeOf_sorted (deals_sorted _ _ _ _ (fun t ht => by rw [(List.mem_replicate.1 ht).2]; exact List.Pairwise.nil) d' hd') h3⟩
  · refine ⟨_, ?_, e2⟩
    rw [ansFrom_append, List.getElem?_append_right (by rw [length_ansFrom]; omega), length_ansFrom, show l.length + 1 - l.length = 1 by omega]
    rfl

/-- TopResolved's ending. -/
theorem resolved_plain {l : List MAct} (hl : l.length ≤ 80) (ha : ∀ a ∈ l, ActOk 4 a) (hk : ∀ a ∈ l, a.kind = 3 → a.key ∈ keys4) :
    runM 4 (l ++ endActs 4 keys4) = (ansFrom (startW 4) (l ++ endActs 4 keys4), (l ++ endActs 4 keys4).foldl stepW (startW 4)) ∧ WorldGood ((l ++ endActs 4 keys4).foldl stepW (startW 4)) ∧
    (∀ r ∈ ((l ++ endActs 4 keys4).foldl stepW (startW 4)).rows, r.ls = 0) ∧
    ∀ k : Nat, k < 4 → ∃ a, (ansFrom (startW 4) (l ++ endActs 4 keys4))[l.length + 9 + k]? = some a ∧ a.code = 0 ∧ (a.value, a.is) = valueT (dealsT (List.replicate 4 zeroTrack) 0 l (ansFrom (startW 4) l)) (keyN k) 1099511627776 l.length := by
  have hend : ∀ a ∈ endActs 4 keys4, ActOk 4 a := by unfold ActOk; decide
  have hal : ∀ a ∈ l ++ endActs 4 keys4, ActOk 4 a := fun a h => by
    rcases List.mem_append.1 h with h | h
    · exact ha a h
    · exact hend a h
  have hlen : (endActs 4 keys4).length = 13 := by decide
  have ht := tail_acts (n := 4) (m := 13) (K := fun k => k ∈ keys4) (by decide) (l := l) (by omega) ha hk
  obtain ⟨e1, pre, e2⟩ := end_all (n := 4) (m := 0) (ks := keys4) (by decide +kernel) (by decide) ht
  refine ⟨run_ok (n := 4) (by decide) (by simp [hlen]; omega) hal, (fit_end (n := 4) (by decide) (by simp [hlen]; omega) hal).good, fun r hr => ?_, fun k hk4 => ?_⟩
  · rw [List.foldl_append] at hr
    exact e1 r hr
  · have hpl : pre.length = 9 := by
      have := congrArg List.length e2
      rw [length_ansFrom, hlen, List.length_append, List.length_map] at this
      have h4 : keys4.length = 4 := rfl
      omega
    have hkk : keys4[k]? = some (keyN k) := by
      have : k = 0 ∨ k = 1 ∨ k = 2 ∨ k = 3 := by omega
      rcases this with rfl | rfl | rfl | rfl <;> rfl
    have hv : valueD ((dealsT (List.replicate 4 zeroTrack) 0 l (ansFrom (startW 4) l)).map Prod.fst) (keyN k) 1099511627776 = valueT (dealsT (List.replicate 4 zeroTrack) 0 l (ansFrom (startW 4) l)) (keyN k) 1099511627776 l.length := by
      rw [valueT_eq]
      congr 1
      congr 1
      exact (List.filter_eq_self.2 fun d hd => decide_eq_true (deals_early d hd)).symm
    refine ⟨⟨0, (valueT (dealsT (List.replicate 4 zeroTrack) 0 l (ansFrom (startW 4) l)) (keyN k) 1099511627776 l.length).2, (valueT (dealsT (List.replicate 4 zeroTrack) 0 l (ansFrom (startW 4) l)) (keyN k) 1099511627776 l.length).1, 1, 0⟩, ?_, rfl, rfl⟩
    rw [ansFrom_append, e2, List.getElem?_append_right (by rw [length_ansFrom]; omega), length_ansFrom, List.getElem?_append_right (by omega), hpl, show l.length + 9 + k - l.length - 9 = k by omega, List.getElem?_map, hkk, Option.map_some, hv]
end Go.Proofs.YtniomgngiiiklaaDoor

/- What the laws of top begin with: acts of raw things, their answers, what is known of them; no walk. -/
namespace Go.Proofs.YtniomgngiiiklaaDoor
open Go.RowKit

/-- Acts of raw things, run by four clients. -/
structure Script (mo : Nat) (l : List MRaw) (acts : List MAct) (X : List MAns) (M : MWorld) : Prop where
  eq : acts = actsK ((4 : Nat) : Int) mo l
  len : acts.length ≤ mo
  ok : ∀ a ∈ acts, ActOk 4 a
  size : ∀ a ∈ acts, a.key.size ≤ maxLen ∧ a.value.size ≤ maxLen
  keys : ∀ a ∈ acts, a.kind = 3 → a.key ∈ keys4
  run : runM 4 acts = (X, M)
  ans : X = ansFrom (startW 4) acts
  xlen : X.length = acts.length
  fine : Fine (List.replicate 4 zeroTrack) acts X
theorem script_mk {mo : Nat} (hmo : mo ≤ 400) (l : List MRaw) : ∃ acts X M, Script mo l acts X M := by
  have hlen : (actsK ((4 : Nat) : Int) mo l).length ≤ mo := by rw [actsK_length]; omega
  have hok : ∀ a ∈ actsK ((4 : Nat) : Int) mo l, ActOk 4 a := actsK_ok (n := 4) (by decide)
  refine ⟨_, _, _, rfl, hlen, hok, fun a ha => ?_, fun a ha h3 => ?_, run_ok (n := 4) (by decide) (by omega) hok, rfl, length_ansFrom _ _, fine_start (n := 4) (by decide) (by omega) hok⟩
  · obtain ⟨i, r, rfl⟩ := actsK_get ha
    have h := actsK_size (n := ((4 : Nat) : Int)) (i := i) (r := r)
    unfold maxLen
    omega
  · obtain ⟨i, r, rfl⟩ := actsK_get ha
    obtain ⟨x, hx⟩ := actOf_key (.inr (.inl h3))
    rw [hx]; exact keyF_mem x
theorem deals_len : ∀ (l : List MAct) (x : List MAns) (ts : List MTrack) (i : Nat), (dealsT ts i l x).length ≤ l.length
  | [], x, ts, i => by cases x <;> simp [dealsT]
  | a :: l, [], ts, i => by simp [dealsT]
  | a :: l, y :: x, ts, i => by
    have ih := deals_len l x (tksTurn ts a y) (i + 1)
    have h1 : (trackDeal (tk ts a) a y).length ≤ 1 := by unfold trackDeal; split <;> simp
    rw [dealsT, List.length_append, List.length_map, List.length_cons]
    omega
theorem run_first {P : Program} (t : TypeId) (A : Option Addr) (n k c s : Nat) (h : P.underlying t = some (.slice (P.elem t))) (hs : ∀ W, (Go.sizeOf (P.elem t)).run P W = .ok s W) (hk : k ≤ c) (w : World) :
    (Instr.slice t (.slice A n c) none (some (.int .i64 (k : Int))) none).run P w = .ok (.slice A k c) w := by
  rw [run_slice_h _ _ _ _ _ h _ _ (by omega) (by omega), hs]
  simp [Result.andThen, sliced]
  intro _; cases A <;> simp [Addr.add]
end Go.Proofs.YtniomgngiiiklaaDoor
