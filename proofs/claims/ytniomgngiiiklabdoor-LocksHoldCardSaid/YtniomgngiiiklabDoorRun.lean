/- Scripts of acts that are in form: every act is done, times are ticks, a part of a script answers as its beginning; no program in sight. -/
import Derived.Test.YtniomgngiiiklabDoorStep
namespace Go.Proofs.YtniomgngiiiklabDoor
open Go.RowKit

/-! ### clients and clock -/
theorem lockM_facts {w : MWorld} {c : Nat} {x : MClient} : (lockM w c x).1.clock = w.clock ∧ (lockM w c x).1.clients.length = w.clients.length := by
  unfold lockM
  split
  · exact ⟨rfl, List.length_set⟩
  · split
    · exact ⟨rfl, List.length_set⟩
    · exact ⟨rfl, List.length_set⟩
theorem closeM_facts {w : MWorld} {c : Nat} {x : MClient} : (closeM w c x).1.clock = w.clock ∧ (closeM w c x).1.clients.length = w.clients.length := by
  unfold closeM
  split
  · exact ⟨rfl, List.length_set⟩
  · exact ⟨rfl, List.length_set⟩
theorem stepM_facts {w : MWorld} {c : Nat} {x : MClient} : (((stepM w c x).2.2 = 0 ∧ (stepM w c x).1.clock = w.clock) ∨ ((stepM w c x).2.2 = w.clock + 1 ∧ (stepM w c x).1.clock = w.clock + 1)) ∧ (stepM w c x).1.clients.length = w.clients.length := by
  unfold stepM
  split
  · exact ⟨.inl ⟨rfl, rfl⟩, rfl⟩
  split
  · exact ⟨.inl ⟨rfl, rfl⟩, List.length_set⟩
  split
  · exact ⟨.inl ⟨rfl, lockM_facts.1⟩, lockM_facts.2⟩
  split
  · exact ⟨.inl ⟨rfl, lockM_facts.1⟩, lockM_facts.2⟩
  split
  · exact ⟨.inr ⟨rfl, rfl⟩, List.length_set⟩
  · exact ⟨.inl ⟨rfl, closeM_facts.1⟩, closeM_facts.2⟩
theorem putM_facts {w : MWorld} {c : Nat} {x : MClient} {k v : ByteArray} : (putM w c x k v).1.clock = w.clock ∧ (putM w c x k v).1.clients.length = w.clients.length := by
  unfold putM
  split
  · exact ⟨rfl, rfl⟩
  split
  · exact ⟨rfl, rfl⟩
  split
  · exact ⟨rfl, rfl⟩
  · exact ⟨rfl, List.length_set⟩
theorem doM_facts {w : MWorld} {a : MAct} (h : doCode w a = 0) :
    (((doM w a).2.1.time = 0 ∧ (doM w a).1.clock = w.clock) ∨ ((doM w a).2.1.time = w.clock + 1 ∧ (doM w a).1.clock = w.clock + 1)) ∧ (doM w a).1.clients.length = w.clients.length ∧ (doM w a).2.2 = 0 := by
  unfold doM
  rw [if_pos h]
  refine and_assoc.1 ⟨?_, rfl⟩
  dsimp only
  unfold actM
  split
  · exact ⟨.inl ⟨rfl, rfl⟩, rfl⟩
  split
  · exact ⟨.inr ⟨rfl, rfl⟩, List.length_set⟩
  split
  · exact ⟨.inl ⟨rfl, rfl⟩, rfl⟩
  split
  · exact ⟨.inl ⟨rfl, putM_facts.1⟩, putM_facts.2⟩
  split
  · exact stepM_facts
  split
  · exact ⟨.inl ⟨rfl, rfl⟩, List.length_set⟩
  · exact ⟨.inl ⟨rfl, rfl⟩, rfl⟩

/-! ### scripts -/
def ActOk (n : Nat) (a : MAct) : Prop := (1 ≤ a.kind ∧ a.kind ≤ 6) ∧ 0 ≤ a.c ∧ a.c < n
def stepW (w : MWorld) (a : MAct) : MWorld := (doM w a).1
def ansFrom : MWorld → List MAct → List MAns
  | _, [] => []
  | w, a :: l => (doM w a).2.1 :: ansFrom (stepW w a) l
/-- A world in which so many acts can still be done. -/
structure Fit (n : Nat) (m : Nat) (w : MWorld) : Prop where
  good : WorldGood w
  len : w.clients.length = n
  room : w.clock + m ≤ 1099511627376
theorem fit_code {n m : Nat} {w : MWorld} {a : MAct} (h : Fit n (m + 1) w) (ha : ActOk n a) : doCode w a = 0 := by
  obtain ⟨hk, hc⟩ := ha
  have hl := h.len
  have hr := h.room
  unfold doCode
  rw [worldB_iff.2 h.good]
  rw [if_neg (by decide), if_neg (by omega), if_neg (by omega), if_neg (by omega)]
theorem fit_step {n m : Nat} {w : MWorld} {a : MAct} (h : Fit n (m + 1) w) (ha : ActOk n a) : Fit n m (stepW w a) := by
  have h0 := fit_code h ha
  obtain ⟨h1, h2, _⟩ := doM_facts h0
  have hr := h.room
  refine ⟨doM_good h0, h2.trans h.len, ?_⟩
  show (doM w a).1.clock + m ≤ _
  omega
theorem fit_start {n : Nat} (h : n ≤ 5) (m : Nat) (hm : m ≤ 400) : Fit n m (startW n) := ⟨startW_good h, by simp [startW], by show (0 : Int) + m ≤ _; omega⟩
theorem foldl_run {n : Nat} : ∀ {l : List MAct} {w : MWorld} {out : List MAns}, Fit n l.length w → (∀ a ∈ l, ActOk n a) → l.foldl runStep (out, w) = (out ++ ansFrom w l, l.foldl stepW w)
  | [], w, out, _, _ => by simp [ansFrom]
  | a :: l, w, out, h, ha => by
    have h' : Fit n (l.length + 1) w := h
    have h0 := fit_code h' (ha a List.mem_cons_self)
    have e : runStep (out, w) a = (out ++ [(doM w a).2.1], stepW w a) := by
      unfold runStep
      rw [if_pos (doM_facts h0).2.2]
      rfl
    rw [List.foldl_cons, e, foldl_run (fit_step h' (ha a List.mem_cons_self)) fun b hb => ha b (List.mem_cons_of_mem _ hb)]
    simp [ansFrom]
theorem run_ok {n : Nat} {l : List MAct} (hn : n ≤ 5) (hl : l.length ≤ 400) (ha : ∀ a ∈ l, ActOk n a) : runM n l = (ansFrom (startW n) l, l.foldl stepW (startW n)) := by
  unfold runM
  rw [foldl_run (fit_start hn _ hl) ha]
  rfl
theorem length_ansFrom : ∀ (l : List MAct) (w : MWorld), (ansFrom w l).length = l.length
  | [], _ => rfl
  | a :: l, w => by simp [ansFrom, length_ansFrom l]
theorem ansFrom_append : ∀ (l m : List MAct) (w : MWorld), ansFrom w (l ++ m) = ansFrom w l ++ ansFrom (l.foldl stepW w) m
  | [], _, _ => rfl
  | a :: l, m, w => by simp [ansFrom, ansFrom_append l m]
theorem ansFrom_take (l : List MAct) (k : Nat) (w : MWorld) : (ansFrom w l).take k = ansFrom w (l.take k) := by
  conv => lhs; rw [← List.take_append_drop k l, ansFrom_append]
  by_cases h : k ≤ l.length
  · rw [List.take_append_of_le_length (by rw [length_ansFrom, List.length_take]; omega), List.take_of_length_le (by rw [length_ansFrom, List.length_take]; omega)]
  · rw [List.drop_eq_nil_of_le (by omega), List.take_of_length_le (by simp [length_ansFrom, ansFrom]; omega)]
    simp [ansFrom]
theorem fit_fold {n : Nat} : ∀ {l : List MAct} {w : MWorld} {m : Nat}, Fit n (l.length + m) w → (∀ a ∈ l, ActOk n a) → Fit n m (l.foldl stepW w)
  | [], w, m, h, _ => by simpa using h
  | a :: l, w, m, h, ha => by
    rw [List.foldl_cons]
    exact fit_fold (fit_step (by rw [List.length_cons] at h; rw [show l.length + m + 1 = l.length + 1 + m by omega]; exact h) (ha a List.mem_cons_self)) fun b hb => ha b (List.mem_cons_of_mem _ hb)

/-! ### times -/
/-- The last time told, if the times follow one another. -/
def lastTime : Int → List MAns → Option Int
  | t, [] => some t
  | t, x :: l => if x.time = 0 then lastTime t l else if x.time = t + 1 then lastTime x.time l else none
theorem lastTime_run {n : Nat} : ∀ {l : List MAct} {w : MWorld}, Fit n l.length w → (∀ a ∈ l, ActOk n a) → lastTime w.clock (ansFrom w l) = some (l.foldl stepW w).clock
  | [], _, _, _ => rfl
  | a :: l, w, h, ha => by
    have h' : Fit n (l.length + 1) w := h
    have ha0 := ha a List.mem_cons_self
    have h1 := (doM_facts (fit_code h' ha0)).1
    have ih := lastTime_run (fit_step h' ha0) fun b hb => ha b (List.mem_cons_of_mem _ hb)
    rw [List.foldl_cons, ← ih]
    show (if (doM w a).2.1.time = 0 then _ else _) = _
    have hc := h.good.clock
    rcases h1 with ⟨h1, h2⟩ | ⟨h1, h2⟩
    · rw [if_pos h1, ← h2]; rfl
    · rw [if_neg (by omega), if_pos h1, h1, ← h2]; rfl
/-- The invariant along a script, with all that was committed. -/
def dealsFrom : MWorld → List MAct → List Deal
  | _, [] => []
  | w, a :: l => dealsOf w a ++ dealsFrom (stepW w a) l
theorem winv_run {n : Nat} : ∀ {l : List MAct} {w : MWorld} {m : Nat} {P : Int → ByteArray} {D : List Deal}, Fit n (l.length + m) w → (∀ a ∈ l, ActOk n a) → WInv w.rows w.clients P D →
    ∃ P', WInv (l.foldl stepW w).rows (l.foldl stepW w).clients P' (D ++ dealsFrom w l)
  | [], w, m, P, D, _, _, hw => ⟨P, by simpa [dealsFrom] using hw⟩
  | a :: l, w, m, P, D, h, ha, hw => by
    have h' : Fit n (l.length + m + 1) w := by rw [List.length_cons] at h; rw [show l.length + m + 1 = l.length + 1 + m by omega]; exact h
    have ha0 := ha a List.mem_cons_self
    obtain ⟨P1, h1⟩ := act_winv (fit_code h' ha0) hw
    obtain ⟨P2, h2⟩ := winv_run (fit_step h' ha0) (fun b hb => ha b (List.mem_cons_of_mem _ hb)) h1
    refine ⟨P2, ?_⟩
    rw [List.foldl_cons]
    show WInv _ _ _ (D ++ (dealsOf w a ++ dealsFrom (stepW w a) l))
    rw [← List.append_assoc]
    exact h2

/-- Of one transaction all records say the same. -/
theorem whole_run {clock : Int} {l : List MRow} {P : Int → ByteArray} {D : List Deal} (hc : 0 ≤ clock) (hv : RowsVal clock l) (h : Inv l P D) :
    ∀ r ∈ l, ∀ x ∈ r.recs, ∀ r' ∈ l, ∀ x' ∈ r'.recs, x.start = x'.start → x.commit = x'.commit := by
  intro r hr x hx r' hr' x' hx' e
  have hrv : ∀ q ∈ l, rv l q.key = q := fun q hq => by unfold rv; rw [rowAt_of_mem hv.sorted hq]; rfl
  have h1 : Rc l r.key x.start x.commit x.value := by unfold Rc; rw [hrv r hr]; exact hx
  have h2 : Rc l r'.key x'.start x'.commit x'.value := by unfold Rc; rw [hrv r' hr']; exact hx'
  obtain ⟨v1, h1⟩ := h.recs _ _ _ _ h1
  obtain ⟨v2, h2⟩ := h.recs _ _ _ _ h2
  rw [e] at h1
  exact (rc_uniq hc hv h1 h2).1
end Go.Proofs.YtniomgngiiiklabDoor
