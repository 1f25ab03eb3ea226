/- What is read is what was committed; of two transactions that wrote one row, one was committed before the other began; no program in sight. -/
import Derived.Test.YtniomgngiiiklabDoorRun
namespace Go.Proofs.YtniomgngiiiklabDoor
open Go.RowKit

def zeroDeal : Deal := ⟨0, 0, []⟩
def fits (k : ByteArray) (t : Int) (d : Deal) : Prop := (writeOf d.writes k).isSome = true ∧ d.commit ≤ t
def bestDeal (k : ByteArray) (t : Int) (b d : Deal) : Deal := if (writeOf d.writes k).isSome = true ∧ d.commit ≤ t ∧ b.commit < d.commit then d else b
def bestOf (D : List Deal) (k : ByteArray) (t : Int) : Deal := D.foldl (bestDeal k t) zeroDeal
def valueD (D : List Deal) (k : ByteArray) (t : Int) : ByteArray × Bool := (((writeOf (bestOf D k t).writes k).map (·.value)).getD ⟨#[]⟩, decide (0 < (bestOf D k t).commit))

theorem bestFold {k : ByteArray} {t : Int} : ∀ (D : List Deal) (b0 : Deal), b0.commit ≤ (D.foldl (bestDeal k t) b0).commit ∧ (D.foldl (bestDeal k t) b0 = b0 ∨ (D.foldl (bestDeal k t) b0 ∈ D ∧ fits k t (D.foldl (bestDeal k t) b0))) ∧
    ∀ d ∈ D, fits k t d → d.commit ≤ (D.foldl (bestDeal k t) b0).commit
  | [], b0 => ⟨by simp, .inl rfl, fun d hd => by cases hd⟩
  | d :: D, b0 => by
    rw [List.foldl_cons]
    obtain ⟨h1, h2, h3⟩ := bestFold (k := k) (t := t) D (bestDeal k t b0 d)
    by_cases hm : (writeOf d.writes k).isSome = true ∧ d.commit ≤ t ∧ b0.commit < d.commit
    · have e : bestDeal k t b0 d = d := if_pos hm
      rw [e] at h1 h2 h3 ⊢
      refine ⟨by omega, ?_, fun z hz hf => ?_⟩
      · rcases h2 with h2 | ⟨h2, h4⟩
        · rw [h2]; exact .inr ⟨List.mem_cons_self, hm.1, hm.2.1⟩
        · exact .inr ⟨List.mem_cons_of_mem _ h2, h4⟩
      · rcases List.mem_cons.1 hz with rfl | hz
        · exact h1
        · exact h3 z hz hf
    · have e : bestDeal k t b0 d = b0 := if_neg hm
      rw [e] at h1 h2 h3 ⊢
      refine ⟨h1, ?_, fun z hz hf => ?_⟩
      · rcases h2 with h2 | ⟨h2, h4⟩
        · exact .inl h2
        · exact .inr ⟨List.mem_cons_of_mem _ h2, h4⟩
      · rcases List.mem_cons.1 hz with rfl | hz
        · have : ¬ b0.commit < z.commit := fun h => hm ⟨hf.1, hf.2, h⟩
          omega
        · exact h3 z hz hf

section
variable {clock : Int} {l : List MRow} {P : Int → ByteArray} {D : List Deal} {k : ByteArray} {t : Int}

theorem writeOf_some_of_mem {ws : List MWrite} {k v : ByteArray} (h : (⟨k, v⟩ : MWrite) ∈ ws) : (writeOf ws k).isSome = true := by
  unfold writeOf
  rw [List.find?_isSome]
  exact ⟨_, h, by simp⟩
/-- A transaction that was committed, at a row that nobody keeps from being read at that time. -/
theorem deal_rec (hc : 0 ≤ clock) (hv : RowsVal clock l) (h : Inv l P D) (hfree : ∀ s p v, Lk l k s p v → t < s) {d : Deal} (hd : d ∈ D) (hf : fits k t d) : ∃ y, writeOf d.writes k = some y ∧ Rc l k d.start d.commit y.value := by
  obtain ⟨y, hy⟩ := Option.isSome_iff_exists.1 hf.1
  obtain ⟨hm, he⟩ := writeOf_mem hy
  refine ⟨y, hy, ?_⟩
  obtain ⟨hne, ⟨v, hp⟩, hw, _⟩ := h.deal d hd
  rcases hw y hm with ⟨p, h1⟩ | h1
  · rw [he] at h1
    have h2 := hfree _ _ _ h1
    have h3 := ((rc_bound hc hv hp).2.2 hne).1
    have h4 := hf.2
    omega
  · rw [he] at h1; exact h1

theorem lastHit_spec {rs : List MRec} (hg : RecsGood rs) : (lastHit rs t = none → ∀ x ∈ rs, x.commit ≠ 0 → ¬ x.commit ≤ t) ∧
    ∀ x, lastHit rs t = some x → x ∈ rs ∧ x.commit ≠ 0 ∧ x.commit ≤ t ∧ ∀ y ∈ rs, y.commit ≠ 0 → y.commit ≤ t → y = x ∨ y.commit < x.commit := by
  constructor
  · intro h x hx h0 hle
    unfold lastHit at h
    rw [List.find?_eq_none] at h
    exact h x (List.mem_reverse.2 hx) (by simp [hitB, h0, hle])
  · intro x h
    unfold lastHit at h
    rw [List.find?_eq_some_iff_getElem] at h
    obtain ⟨hp, i, hi, hx, hb⟩ := h
    simp only [hitB, Bool.and_eq_true, Bool.not_eq_true', decide_eq_false_iff_not, decide_eq_true_eq] at hp
    have hil : i < rs.length := by simpa using hi
    rw [List.getElem_reverse] at hx
    refine ⟨by rw [← hx]; exact List.getElem_mem _, hp.1, hp.2, fun y hy h0 hle => ?_⟩
    obtain ⟨j, hj, rfl⟩ := List.mem_iff_getElem.1 hy
    rcases Nat.lt_trichotomy j (rs.length - 1 - i) with hlt | heq | hgt
    · have hr := (List.pairwise_iff_getElem.1 hg.pair j (rs.length - 1 - i) hj (by omega) hlt)
      rw [hx] at hr
      have h2 := hr.2 hp.1
      have h3 := ((hg.each x (by rw [← hx]; exact List.getElem_mem _)).2.2.2.2 hp.1).1
      exact .inr (by omega)
    · subst heq; exact .inl hx
    · have := hb (rs.length - 1 - j) (by omega)
      rw [List.getElem_reverse] at this
      have e : rs.length - 1 - (rs.length - 1 - j) = j := by omega
      simp only [e] at this
      simp [hitB, h0, hle] at this

/-- What a row that may be read tells is what was committed. -/
theorem read_value (hc : 0 ≤ clock) (hv : RowsVal clock l) (h : Inv l P D) (hfree : ∀ s p v, Lk l k s p v → t < s) : ((hitRes (lastHit (rv l k).recs t)).1, (hitRes (lastHit (rv l k).recs t)).2.1) = valueD D k t := by
  have hg := rv_good hc hv k
  obtain ⟨hn, hs⟩ := lastHit_spec (t := t) hg.recs
  obtain ⟨_, hb2, hb3⟩ := bestFold (k := k) (t := t) D zeroDeal
  have hbe : D.foldl (bestDeal k t) zeroDeal = bestOf D k t := rfl
  rw [hbe] at hb2 hb3
  unfold valueD
  cases hl : lastHit (rv l k).recs t with
  | none =>
    have hz : bestOf D k t = zeroDeal := by
      rcases hb2 with e | ⟨hm, hf⟩
      · exact e
      · obtain ⟨y, _, hrc⟩ := deal_rec hc hv h hfree hm hf
        exact absurd hf.2 (hn hl _ hrc (h.deal _ hm).1)
    rw [hz]
    rfl
  | some x =>
    obtain ⟨hx, h0, hle, hmax⟩ := hs x hl
    obtain ⟨d, hd, e1, e2, hw⟩ := h.told k x.start x.commit x.value hx h0
    have hfd : fits k t d := ⟨writeOf_some_of_mem hw, by rw [e2]; exact hle⟩
    have hge := hb3 d hd hfd
    have hxc : 0 < x.commit := by
      have := (rc_bound hc hv (show Rc l k x.start x.commit x.value from hx)).2.2 h0
      have := (rc_bound hc hv (show Rc l k x.start x.commit x.value from hx)).1
      omega
    rcases hb2 with e | ⟨hm, hf⟩
    · rw [e] at hge
      have : d.commit ≤ 0 := hge
      omega
    · obtain ⟨y, hy, hrc⟩ := deal_rec hc hv h hfree hm hf
      have hby := hmax _ hrc (h.deal _ hm).1 hf.2
      rcases hby with e | e
      · rw [hy]
        have ev : y.value = x.value := congrArg MRec.value e
        have ec : (bestOf D k t).commit = x.commit := congrArg MRec.commit e
        rw [ec]
        show (x.value, true) = (y.value, decide (0 < x.commit))
        rw [ev, decide_eq_true hxc]
      · dsimp only at e; omega

/-- Of two committed transactions that wrote the same row, one was committed before the other began. -/
theorem apart_deals (hc : 0 ≤ clock) (hv : RowsVal clock l) (h : Inv l P D) {a b : Deal} (ha : a ∈ D) (hb : b ∈ D) (hne : a.start ≠ b.start) (hka : (writeOf a.writes k).isSome = true) (hkb : (writeOf b.writes k).isSome = true) : ¬ (b.start < a.commit ∧ a.start < b.commit) := by
  obtain ⟨y, hy⟩ := Option.isSome_iff_exists.1 hka
  obtain ⟨z, hz⟩ := Option.isSome_iff_exists.1 hkb
  obtain ⟨hym, hyk⟩ := writeOf_mem hy
  obtain ⟨hzm, hzk⟩ := writeOf_mem hz
  obtain ⟨a0, _, aw, _⟩ := h.deal a ha
  obtain ⟨b0, _, bw, _⟩ := h.deal b hb
  rintro ⟨h1, h2⟩
  rcases aw y hym with ⟨p, ra⟩ | ra
  · rcases bw z hzm with ⟨q, rb⟩ | rb
    · rw [hyk] at ra; rw [hzk] at rb
      exact hne (lk_uniq ra rb).1
    · rw [hyk] at ra; rw [hzk] at rb
      have := lk_rc_sep hc hv ra rb; omega
  · rcases bw z hzm with ⟨q, rb⟩ | rb
    · rw [hyk] at ra; rw [hzk] at rb
      have := lk_rc_sep hc hv rb ra; omega
    · rw [hyk] at ra; rw [hzk] at rb
      rcases Int.lt_or_gt_of_ne hne with hlt | hlt
      · have := rc_sep hc hv ra rb b0 hlt; omega
      · have := rc_sep hc hv rb ra a0 hlt; omega
end
end Go.Proofs.YtniomgngiiiklabDoor
