/- A script's tracks can be told without a map that is not there; what writes tell of a key; no program in sight. -/
import Derived.Test.YtniomgngiiiklaaDoorLawPlain
import Derived.Maps.OwnSet
import Derived.Maps.RangeWalk
import Derived.Maps.StringElems
import Derived.Maps.Ext
namespace Go.Proofs.YtniomgngiiiklaaDoor
open Go.RowKit

theorem writeOf_putWrite : ∀ {l : List MWrite} {r : MWrite} (k : ByteArray), writeOf (putWrite l r) k = if r.key = k then some r else writeOf l k
  | [], r, k => by by_cases h : r.key = k <;> simp [putWrite, writeOf, h]
  | x :: l, r, k => by
    have hx : ∀ m : List MWrite, writeOf (x :: m) k = if x.key = k then some x else writeOf m k := fun m => by
      by_cases e : x.key = k <;> simp [writeOf, e]
    have hr : ∀ m : List MWrite, writeOf (r :: m) k = if r.key = k then some r else writeOf m k := fun m => by
      by_cases e : r.key = k <;> simp [writeOf, e]
    unfold putWrite
    split
    · rename_i hlt
      rw [hx, hx, writeOf_putWrite k]
      by_cases e : x.key = k
      · rw [if_pos e, if_pos e, if_neg]
        rintro e'
        exact ltK_ne hlt (e.trans e'.symm)
      · rw [if_neg e, if_neg e]
    · split
      · rename_i he
        rw [hr, hx]
        by_cases e : r.key = k
        · rw [if_pos e, if_pos e]
        · rw [if_neg e, if_neg e, if_neg (by rw [he]; exact e)]
      · rw [hr]

/-- A track that has begun, ahead of each put; one that has not begun, stays so but by a begin. -/
def Fine : List MTrack → List MAct → List MAns → Prop
  | ts, a :: l, x :: xs => ((x.code = 0 → a.kind = 3 → (tk ts a).phase ≠ 0) ∧ ((tk ts a).phase = 0 → ¬ (a.kind = 1 ∧ x.code = 0) → x.phase = 0)) ∧ Fine (tksTurn ts a x) l xs
  | _, _, _ => True
section
variable {n : Nat}
theorem fine_act {w : MWorld} {a : MAct} {t : MTrack} (h0 : doCode w a = 0) (h : Like t (clientAt w a.c.toNat)) :
    ((doM w a).2.1.code = 0 → a.kind = 3 → t.phase ≠ 0) ∧ (t.phase = 0 → ¬ (a.kind = 1 ∧ (doM w a).2.1.code = 0) → (doM w a).2.1.phase = 0) := by
  obtain ⟨hg, hk, hcl, hclock⟩ := doCode_ok h0
  have hcl' : a.c.toNat < w.clients.length := by omega
  rw [h.phase]
  generalize hx : clientAt w a.c.toNat = x
  constructor
  · intro hc h3 hp
    revert hc
    unfold doM
    rw [if_pos h0]
    dsimp only
    unfold actM
    rw [hx, if_pos (.inr (.inl ⟨.inr h3, by omega⟩))]
    exact fun h => absurd (show (6 : Int) = 0 from h) (by decide)
  · intro hp hn
    have hself : (clientAt w a.c.toNat).phase = 0 := by rw [hx]; exact hp
    revert hn
    unfold doM
    rw [if_pos h0]
    dsimp only
    rw [hx]
    by_cases e1 : a.kind = 1
    · intro hn
      exfalso
      apply hn
      refine ⟨e1, ?_⟩
      unfold actM
      rw [if_neg (by omega), if_pos e1]
      rfl
    intro _
    by_cases e6 : a.kind = 6
    · have e : (actM w a a.c.toNat x).1.clients = w.clients := by
        unfold actM
        rw [if_neg (by omega), if_neg (by omega), if_neg (by omega), if_neg (by omega), if_neg (by omega), if_neg (by omega)]
      unfold clientAt at hself ⊢
      rw [e]; exact hself
    by_cases e4 : a.kind = 4
    · have e : (actM w a a.c.toNat x).1 = w := by
        unfold actM
        rw [if_neg (by omega), if_neg (by omega), if_neg (by omega), if_neg (by omega), if_pos e4]
        dsimp only
        unfold stepM
        rw [if_pos hp]
      rw [e]; exact hself
    · have e : (actM w a a.c.toNat x).1 = w := by
        unfold actM
        rw [if_pos (by omega)]
      rw [e]; exact hself
theorem fine_run : ∀ {l : List MAct} {w : MWorld} {ts : List MTrack} {m : Nat}, Fit n (l.length + m) w → (∀ a ∈ l, ActOk n a) → Likes ts w → Fine ts l (ansFrom w l)
  | [], _, _, _, _, _, _ => trivial
  | a :: l, w, ts, m, hf, ha, h => by
    have hf' : Fit n (l.length + m + 1) w := by rw [List.length_cons] at hf; rw [show l.length + m + 1 = l.length + 1 + m by omega]; exact hf
    have ha0 := ha a List.mem_cons_self
    have h0 := fit_code hf' ha0
    obtain ⟨_, _, hcl, _⟩ := doCode_ok h0
    have hcl' : a.c.toNat < ts.length := by have := h.len; omega
    exact ⟨fine_act h0 (h.each _ hcl'), fine_run (fit_step hf' ha0) (fun b hb => ha b (List.mem_cons_of_mem _ hb)) (likes_step h0 h).1⟩
theorem fine_start {l : List MAct} (h5 : n ≤ 5) (hl : l.length ≤ 400) (ha : ∀ a ∈ l, ActOk n a) : Fine (List.replicate n zeroTrack) l (ansFrom (startW n) l) :=
  fine_run (m := 0) (fit_start h5 l.length hl) ha likes_start
end
end Go.Proofs.YtniomgngiiiklaaDoor

/- Maps from strings to strings that read as writes; no program in sight. -/
namespace Go.Proofs.YtniomgngiiiklaaDoor
open Go.RowKit Go.Maps

def kLit (s : ByteArray) : Lit := .string s.data.toList
/-- The map's datum tells of each key what the writes tell. -/
structure Tells (D : DataW Unit) (ws : List MWrite) : Prop where
  has : ∀ k : ByteArray, Maps.has D (kLit k) = (writeOf ws k).isSome
  at_ : ∀ (k : ByteArray) (y : MWrite) (z : DataW Unit), writeOf ws k = some y → D.atKey (kLit k) z = .lit (kLit y.value)
theorem kLit_inj {a b : ByteArray} (h : kLit a = kLit b) : a = b := by
  unfold kLit at h
  injection h with h
  obtain ⟨x⟩ := a; obtain ⟨y⟩ := b
  have : x = y := Array.toList_inj.1 h
  rw [this]
theorem tells_nil : Tells (.map []) [] := ⟨fun _ => rfl, fun k y z h => by cases h⟩
theorem Tells.put {D : DataW Unit} {ws : List MWrite} {k v : ByteArray} (h : Tells D ws) (hm : IsMap D) : Tells (D.put (kLit k) (.lit (kLit v))) (putWrite ws ⟨k, v⟩) := by
  refine ⟨fun k' => ?_, fun k' y z hy => ?_⟩
  · rw [writeOf_putWrite]
    by_cases e : k = k'
    · subst e
      rw [if_pos rfl, has_put_same hm (by unfold kLit; trivial)]; rfl
    · rw [if_neg e, has_put_other (fun e' => e (kLit_inj e').symm), h.has]
  · rw [writeOf_putWrite] at hy
    by_cases e : k = k'
    · subst e
      rw [if_pos rfl] at hy
      injection hy with hy
      subst hy
      exact atKey_put_same hm (by unfold kLit; trivial) _ _
    · rw [if_neg e] at hy
      rw [atKey_put_other (fun e' => e (kLit_inj e').symm)]
      exact h.at_ k' y z hy
/-- A string that the map tells of, as a value. -/
theorem Tells.value {P : Program} {e : TypeId} (he : P.underlying e = some .string) {D : DataW Unit} {ws : List MWrite} {k : ByteArray} {v : Value} {ps : List MemPlace} (h : Tells D ws)
    (hv : plainElem (H := Unit) P e v = some (D.atKey (kLit k) (.lit (.string [])), ps)) : v = .string (((writeOf ws k).map (·.value)).getD ⟨#[]⟩) := by
  obtain ⟨s, rfl, hs, _⟩ := plainElem_string_inv he hv
  have hs' := congrArg Prod.fst hs
  dsimp only at hs'
  cases hw : writeOf ws k with
  | none =>
    have h1 : Maps.has D (kLit k) = false := by rw [h.has, hw]; rfl
    rw [atKey_of_not_has h1] at hs'
    injection hs' with hs'
    have e : kLit s = kLit ⟨#[]⟩ := hs'.symm
    rw [kLit_inj e]; rfl
  | some y =>
    rw [h.at_ k y _ hw] at hs'
    injection hs' with hs'
    rw [kLit_inj hs'.symm]; rfl
end Go.Proofs.YtniomgngiiiklaaDoor
