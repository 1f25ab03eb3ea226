/- A script's tracks can be told without a map that is not there; what writes tell of a key; no program in sight. -/
import Derived.Test.YtniomgngiiiklacDoorLawPlain
namespace Go.Proofs.YtniomgngiiiklacDoor
open Go.RowKit

theorem writeOf_putWrite : ∀ {l : List MWrite} {r : MWrite} (k : ByteArray), writeOf (putWrite l r) k = if r.key = k then some r else writeOf l k
  | [], r, k => by by_cases h : r.key = k <;> simp [putWrite, writeOf, h]
  | x :: l, r, k => by
    have hx : ∀ m : List MWrite, writeOf (x :: m) k = if x.key = k then some x else writeOf m k := fun m => by
      by_cases e : x.key = k <;> simp [writeOf, e]
    have hr : ∀ m : List MWrite, writeOf (r :: m) k = if r.key = k then some r else writeOf m k := fun m => by
      by_cases e : r.key = k <;> simp [writeOf, e]
    unfold putWrite
    split
    · rename_i hlt
      rw [hx, hx, writeOf_putWrite k]
      by_cases e : x.key = k
      · rw [if_pos e, if_pos e, if_neg]
        rintro e'
        exact ltK_ne hlt (e.trans e'.symm)
      · rw [if_neg e, if_neg e]
    · split
      · rename_i he
        rw [hr, hx]
        by_cases e : r.key = k
        · rw [if_pos e, if_pos e]
        · rw [if_neg e, if_neg e, if_neg (by rw [he]; exact e)]
      · rw [hr]

/-- A track that has begun, ahead of each put; one that has not begun, stays so but by a begin. -/
def Fine : List MTrack → List MAct → List MAns → Prop
  | ts, a :: l, x :: xs => ((x.code = 0 → a.kind = 3 → (tk ts a).phase ≠ 0) ∧ ((tk ts a).phase = 0 → ¬ (a.kind = 1 ∧ x.code = 0) → x.phase = 0)) ∧ Fine (tksTurn ts a x) l xs
  | _, _, _ => True
section
variable {n : Nat}
theorem fine_act {w : MWorld} {a : MAct} {t : MTrack} (h0 : doCode w a = 0) (h : Like t (clientAt w a.c.toNat)) :
    ((doM w a).2.1.code = 0 → a.kind = 3 → t.phase ≠ 0) ∧ (t.phase = 0 → ¬ (a.kind = 1 ∧ (doM w a).2.1.code = 0) → (doM w a).2.1.phase = 0) := by
  obtain ⟨hg, hk, hcl, hclock⟩ := doCode_ok h0
  have hcl' : a.c.toNat < w.clients.length := by omega
  rw [h.phase]
  generalize hx : clientAt w a.c.toNat = x
  constructor
  · intro hc h3 hp
    revert hc
    unfold doM
    rw [if_pos h0]
    dsimp only
    unfold actM
    rw [hx, if_pos (.inr (.inl ⟨.inr h3, by omega⟩))]
    exact fun h => absurd (show (6 : Int) = 0 from h) (by decide)
  · intro hp hn
    have hself : (clientAt w a.c.toNat).phase = 0 := by rw [hx]; exact hp
    revert hn
    unfold doM
    rw [if_pos h0]
    dsimp only
    rw [hx]
    by_cases e1 : a.kind = 1
    · intro hn
      exfalso
      apply hn
      refine ⟨e1, ?_⟩
      unfold actM
      rw [if_neg (by omega), if_pos e1]
      rfl
    intro _
    by_cases e6 : a.kind = 6
    · have e : (actM w a a.c.toNat x).1.clients = w.clients := by
        unfold actM
        rw [if_neg (by omega), if_neg (by omega), if_neg (by omega), if_neg (by omega), if_neg (by omega), if_neg (by omega)]
      unfold clientAt at hself ⊢
      rw [e]; exact hself
    by_cases e4 : a.kind = 4
    · have e : (actM w a a.c.toNat x).1 = w := by
        unfold actM
        rw [if_neg (by omega), if_neg (by omega), if_neg (by omega), if_neg (by omega), if_pos e4]
        dsimp only
        unfold stepM
        rw [if_pos hp]
      rw [e]; exact hself
    · have e : (actM w a a.c.toNat x).1 = w := by
        unfold actM
        rw [if_pos (by omega)]
      rw [e]; exact hself
theorem fine_run : ∀ {l : List MAct} {w : MWorld} {ts : List MTrack} {m : Nat}, Fit n (l.length + m) w → (∀ a ∈ l, ActOk n a) → Likes ts w → Fine ts l (ansFrom w l)
  | [], _, _, _, _, _, _ => trivial
  | a :: l, w, ts, m, hf, ha, h => by
    have hf' : Fit n (l.length + m + 1) w := by rw [List.length_cons] at hf; rw [show l.length + m + 1 = l.length + 1 + m by omega]; exact hf
    have ha0 := ha a List.mem_cons_self
    have h0 := fit_code hf' ha0
    obtain ⟨_, _, hcl, _⟩ := doCode_ok h0
    have hcl' : a.c.toNat < ts.length := by have := h.len; omega
    exact ⟨fine_act h0 (h.each _ hcl'), fine_run (fit_step hf' ha0) (fun b hb => ha b (List.mem_cons_of_mem _ hb)) (likes_step h0 h).1⟩
theorem fine_start {l : List MAct} (h5 : n ≤ 5) (hl : l.length ≤ 400) (ha : ∀ a ∈ l, ActOk n a) : Fine (List.replicate n zeroTrack) l (ansFrom (startW n) l) :=
  fine_run (m := 0) (fit_start h5 l.length hl) ha likes_start
end
end Go.Proofs.YtniomgngiiiklacDoor
