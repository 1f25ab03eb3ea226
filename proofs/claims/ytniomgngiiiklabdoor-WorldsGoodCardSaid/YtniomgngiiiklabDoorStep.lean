/- Every act keeps the protocol's invariant; no program in sight. -/
import Derived.Test.YtniomgngiiiklabDoorView
namespace Go.Proofs.YtniomgngiiiklabDoor
open Go.RowKit

structure WInv (l : List MRow) (cs : List MClient) (P : Int → ByteArray) (D : List Deal) : Prop where
  inv : Inv l P D
  clients : ∀ (i : Nat) x, cs[i]? = some x → x.phase ≠ 0 → CInv l P x
  apart : ∀ (i j : Nat) x y, cs[i]? = some x → cs[j]? = some y → i ≠ j → x.phase ≠ 0 → y.phase ≠ 0 → x.start ≠ y.start

section
variable {clock : Int} {l l' : List MRow} {cs : List MClient} {P P' : Int → ByteArray} {D D' : List Deal} {k : ByteArray} {s cm : Int} {x x' : MClient} {c : Nat}

theorem winv_turn (h : WInv l cs P D) (hi : Inv l' P' D') (ho : ∀ (i : Nat) y, cs[i]? = some y → i ≠ c → y.phase ≠ 0 → CInv l' P' y) (hx : x'.phase ≠ 0 → CInv l' P' x')
    (hs : x'.phase ≠ 0 → ∀ (i : Nat) y, cs[i]? = some y → i ≠ c → y.phase ≠ 0 → y.start ≠ x'.start) : WInv l' (cs.set c x') P' D' := by
  have hget : ∀ (i : Nat) y, (cs.set c x')[i]? = some y → (i = c ∧ y = x') ∨ (i ≠ c ∧ cs[i]? = some y) := fun i y hy => by
    rw [List.getElem?_set] at hy
    split at hy
    · rename_i e
      split at hy
      · injection hy with hy; exact .inl ⟨e.symm, hy.symm⟩
      · cases hy
    · rename_i e; exact .inr ⟨fun e' => e e'.symm, hy⟩
  refine ⟨hi, fun i y hy hp => ?_, fun i j y z hy hz hij hp hq => ?_⟩
  · rcases hget i y hy with ⟨_, rfl⟩ | ⟨hne, hy⟩
    · exact hx hp
    · exact ho i y hy hne hp
  · rcases hget i y hy with ⟨ei, ey⟩ | ⟨hne, hy'⟩
    · rcases hget j z hz with ⟨ej, ez⟩ | ⟨hne', hz'⟩
      · exact absurd (ei.trans ej.symm) hij
      · subst ey; exact (hs hp j z hz' hne' hq).symm
    · rcases hget j z hz with ⟨ej, ez⟩ | ⟨hne', hz'⟩
      · subst ez; exact hs hq i y hy' hne hp
      · exact h.apart i j y z hy' hz' hij hp hq

theorem time_of (hst : 1 ≤ s ∧ s ≤ clock) (hc : clock ≤ 1099511627376) : timeB s = true := timeB_of hst.1 (by omega)

/-- A client that fails. -/
theorem winv_fail (hc : 0 ≤ clock ∧ clock ≤ 1099511627376) (hv : RowsVal clock l) (h : WInv l cs P D) (hx : CInv l P x) (hb : Busy x clock) (hph : x.phase = 2 ∨ x.phase = 3) (hn : 0 < x.writes.length)
    (hs : ∀ (i : Nat) y, cs[i]? = some y → i ≠ c → y.phase ≠ 0 → y.start ≠ x.start) : WInv (failRows l x.writes x.start) (cs.set c zeroClient) P D := by
  obtain ⟨h1, h2⟩ := fail_inv hc.1 hv h.inv hx hb (time_of hb.start hc.2) hph hn
  exact winv_turn h h1 (fun i y hy hne hp => h2 y (h.clients i y hy hp) (hs i y hy hne hp)) (fun hp => absurd rfl hp) (fun hp => absurd rfl hp)

theorem lockM_winv {w : MWorld} (hg : WorldGood w) (h : WInv w.rows w.clients P D) (hx : CInv w.rows P x) (hb : Busy x w.clock) (hph : x.phase = 2) (hat : x.at_ < x.writes.length)
    (hs : ∀ (i : Nat) y, w.clients[i]? = some y → i ≠ c → y.phase ≠ 0 → y.start ≠ x.start) : ∃ P', WInv (lockM w c x).1.rows (lockM w c x).1.clients P' D := by
  have hat0 : 0 ≤ x.at_ := by have := hb.phase; omega
  obtain ⟨j, hj⟩ : ∃ j : Nat, x.at_ = j := ⟨x.at_.toNat, by omega⟩
  have hjl : j < x.writes.length := by omega
  have hwj : x.writes[j]? = some (writeNo x x.at_) := by
    unfold writeNo; rw [hj, Int.toNat_natCast, List.getElem?_eq_getElem hjl]; rfl
  by_cases h0 : (lockAt w.rows x).2 = 0
  · have e : (lockM w c x).1 = { w with rows := (lockAt w.rows x).1, clients := w.clients.set c { x with at_ := x.at_ + 1 } } := by unfold lockM; rw [if_pos h0]
    rw [e]
    have hpre : ∃ P', Inv w.rows P' D ∧ CInv w.rows P' x ∧ P' x.start = (writeNo x 0).key ∧ ∀ (i : Nat) y, w.clients[i]? = some y → i ≠ c → y.phase ≠ 0 → CInv w.rows P' y := by
      by_cases hz : x.at_ = 0
      · have hn := hx.none (.inr ⟨hph, hz⟩)
        refine ⟨repoint P x.start (writeNo x 0).key, inv_repoint h.inv hn _, ?_, if_pos rfl, fun i y hy hne hp => cinv_repoint (h.clients i y hy hp) (hs i y hy hne hp) _⟩
        exact ⟨hx.none, hx.mild, fun j y hj hp => by omega, fun hp => by omega, fun hp => by omega, hx.own⟩
      · exact ⟨P, h.inv, hx, hx.prim (.inr (.inr ⟨hph, by omega⟩)), fun i y hy _ hp => h.clients i y hy hp⟩
    obtain ⟨P', hi, hx', hP, ho⟩ := hpre
    have hk : (writeNo x x.at_).key = (writeNo x 0).key ∨ (∃ p' v', Lk w.rows (P' x.start) x.start p' v') ∨ ∃ c v', Rc w.rows (P' x.start) x.start c v' := by
      by_cases hz : x.at_ = 0
      · rw [hz]; exact .inl rfl
      · have hw0 : x.writes[0]? = some (writeNo x 0) := by
          unfold writeNo; rw [show (0 : Int).toNat = 0 from rfl, List.getElem?_eq_getElem (by omega)]; rfl
        rcases hx'.held 0 _ hw0 (.inr ⟨hph, by omega⟩) with h1 | ⟨v, h1⟩
        · rw [hP]; exact .inr (.inl ⟨_, _, h1⟩)
        · rw [hP]; exact .inr (.inr ⟨_, _, h1⟩)
    unfold lockAt at h0 ⊢
    obtain ⟨hfree, hnr, hcm, hl, hr⟩ := lock_step hg.clock.1 hg.rows h0
    refine ⟨P', winv_turn h (inv_lock hg.clock.1 hg.rows hi hP.symm (hx'.mild (.inl hph)) hk h0) (fun i y hy hne hp => lock_far hg.clock.1 hg.rows (ho i y hy hne hp) (hs i y hy hne hp) h0) (fun _ => ?_) (fun _ => hs)⟩
    refine ⟨fun hp => ?_, fun hp k' c' v' h1 => hx'.mild hp _ _ _ ((hr _ _ _ _).1 h1), fun i y hy hp => ?_, fun _ => hP, fun hp => ?_, fun k' p' v' h1 => ?_⟩
    · exact absurd hp (by show ¬ (x.phase = 1 ∨ (x.phase = 2 ∧ x.at_ + 1 = 0)); omega)
    · by_cases hij : i = j
      · subst hij
        have hy' : x.writes[i]? = some y := hy
        rw [hwj] at hy'
        injection hy' with hy'
        refine .inl ((hl _ _ _ _).2 (.inl ?_))
        rw [← hy']
        exact ⟨rfl, rfl, hP, rfl⟩
      · have hp' : x.phase = 3 ∨ (x.phase = 2 ∧ (i : Int) < x.at_) := by
          rcases hp with hp | ⟨_, hp⟩
          · exact .inl hp
          · refine .inr ⟨hph, ?_⟩
            have : (i : Int) < x.at_ + 1 := hp
            omega
        rcases hx'.held i y hy hp' with h1 | ⟨v, h1⟩
        · exact .inl ((hl _ _ _ _).2 (.inr h1))
        · exact .inr ⟨v, (hr _ _ _ _).2 h1⟩
    · exact absurd hp (by show ¬ x.phase = 4; omega)
    · rcases (hl _ _ _ _).1 h1 with ⟨rfl, _, _, rfl⟩ | h1
      · exact List.mem_of_getElem? hwj
      · exact hx'.own _ _ _ h1
  · by_cases h7 : (lockAt w.rows x).2 = 7
    · have e : (lockM w c x).1 = setC w c x := by unfold lockM; rw [if_neg h0, if_pos h7]
      rw [e]
      exact ⟨P, winv_turn h h.inv (fun i y hy _ hp => h.clients i y hy hp) (fun _ => hx) (fun _ => hs)⟩
    · have e : (lockM w c x).1 = failM w c x := by unfold lockM; rw [if_neg h0, if_neg h7]
      rw [e]
      exact ⟨P, winv_fail hg.clock hg.rows h hx hb (.inl hph) (by omega) hs⟩

theorem closeM_winv {w : MWorld} (hg : WorldGood w) (h : WInv w.rows w.clients P D) (hx : CInv w.rows P x) (hb : Busy x w.clock) (hph : x.phase = 3 ∨ x.phase = 4)
    (hs : ∀ (i : Nat) y, w.clients[i]? = some y → i ≠ c → y.phase ≠ 0 → y.start ≠ x.start) :
    WInv (closeM w c x).1.rows (closeM w c x).1.clients P (D ++ if x.phase = 3 ∧ (closeM w c x).2 = 0 then [⟨x.start, x.commit, x.writes⟩] else []) := by
  have hbp := hb.phase
  by_cases hf : x.at_ = 0 ∧ (closeAt w.rows x).2 ≠ 0
  · have e : closeM w c x = (failM w c x, 9) := by unfold closeM; rw [if_pos hf]
    rw [e]
    have e2 : (if x.phase = 3 ∧ ((failM w c x, (9 : Int)) : MWorld × Int).2 = 0 then [(⟨x.start, x.commit, x.writes⟩ : Deal)] else []) = [] := if_neg (fun h => by have := h.2; dsimp only at this; omega)
    rw [e2, List.append_nil]
    exact winv_fail hg.clock hg.rows h hx hb (.inr (by omega)) (by omega) hs
  · have e : closeM w c x = ({ w with rows := (closeAt w.rows x).1, clients := w.clients.set c (if x.at_ + 1 = x.writes.length then zeroClient else { x with phase := 4, at_ := x.at_ + 1 }) }, 0) := by unfold closeM; rw [if_neg hf]
    rw [e]
    dsimp only
    have hcm0 : x.commit ≠ 0 := by have := hb.start; omega
    have hx'0 : ∀ {l' : List MRow}, CInv l' P { x with phase := 4, at_ := x.at_ + 1 } → ((if x.at_ + 1 = x.writes.length then zeroClient else { x with phase := 4, at_ := x.at_ + 1 }) : MClient).phase ≠ 0 → CInv l' P (if x.at_ + 1 = x.writes.length then zeroClient else { x with phase := 4, at_ := x.at_ + 1 }) := fun hci hp => by
      split
      · rename_i e; rw [if_pos e] at hp; exact absurd rfl hp
      · exact hci
    have hst' : ((if x.at_ + 1 = x.writes.length then zeroClient else { x with phase := 4, at_ := x.at_ + 1 }) : MClient).phase ≠ 0 → ∀ (i : Nat) y, w.clients[i]? = some y → i ≠ c → y.phase ≠ 0 → y.start ≠ ((if x.at_ + 1 = x.writes.length then zeroClient else { x with phase := 4, at_ := x.at_ + 1 }) : MClient).start := fun hp i y hy hne hq => by
      split
      · rename_i e; rw [if_pos e] at hp; exact absurd rfl hp
      · exact hs i y hy hne hq
    by_cases h3 : x.phase = 3
    · have hz : x.at_ = 0 := by omega
      have h0 : (closeAt w.rows x).2 = 0 := by
        apply Decidable.byContradiction
        intro hne; exact hf ⟨hz, hne⟩
      have e3 : (if x.phase = 3 ∧ (0 : Int) = 0 then [(⟨x.start, x.commit, x.writes⟩ : Deal)] else []) = [⟨x.start, x.commit, x.writes⟩] := if_pos ⟨h3, rfl⟩
      rw [e3]
      unfold closeAt at h0 ⊢
      have hP : (writeNo x x.at_).key = P x.start := by rw [hz]; exact (hx.prim (.inl h3)).symm
      obtain ⟨hlt, p0, v0, hk0, hl, hr⟩ := commit_step hg.rows h0
      refine winv_turn h (inv_primary hg.clock.1 hg.rows h.inv hx h3 hP h0) (fun i y hy hne hp => commit_far hg.rows (h.clients i y hy hp) (hs i y hy hne hp) h0) (hx'0 ?_) hst'
      exact ⟨fun hp => by rcases hp with hp | hp <;> exact absurd (show (4 : Int) = _ from by first | exact hp | exact hp.1) (by decide), fun hp => by rcases hp with hp | hp <;> exact absurd (show (4 : Int) = _ from hp) (by decide), fun j y hj hp => by rcases hp with hp | hp <;> exact absurd (show (4 : Int) = _ from by first | exact hp | exact hp.1) (by decide), fun _ => hx.prim (.inl h3), fun _ => ⟨v0, (hr _ _ _ _).2 (.inr ⟨hP.symm, rfl, rfl, rfl⟩)⟩, fun k' p' v' h1 => hx.own _ _ _ ((hl _ _ _ _).1 h1).1⟩
    · have h4 : x.phase = 4 := by omega
      have e3 : (if x.phase = 3 ∧ (0 : Int) = 0 then [(⟨x.start, x.commit, x.writes⟩ : Deal)] else []) = [] := if_neg (fun e => h3 e.1)
      rw [e3, List.append_nil]
      have hci : ∀ {l' : List MRow}, CInv l' P x → CInv l' P { x with phase := 4, at_ := x.at_ + 1 } := fun hci =>
        ⟨fun hp => by rcases hp with hp | hp <;> exact absurd (show (4 : Int) = _ from by first | exact hp | exact hp.1) (by decide), fun hp => by rcases hp with hp | hp <;> exact absurd (show (4 : Int) = _ from hp) (by decide), fun j y hj hp => by rcases hp with hp | hp <;> exact absurd (show (4 : Int) = _ from by first | exact hp | exact hp.1) (by decide), fun _ => hci.prim (.inr (.inl h4)), fun _ => hci.done h4, hci.own⟩
      by_cases h0 : (closeAt w.rows x).2 = 0
      · have hd := hx.done h4
        unfold closeAt at h0 ⊢
        have hph' : ∀ y : MClient, clientB y w.clock = true → y.phase ≠ 0 → y.phase = 1 ∨ y.phase = 2 ∨ y.phase = 3 ∨ y.phase = 4 := fun y hy hp => by
          have := (busy_of hy hp).phase; omega
        exact winv_turn h (inv_commit hg.clock.1 hg.rows h.inv h0 hd) (fun i y hy _ hp => cinv_commit hg.rows (h.clients i y hy hp) (hph' y (hg.clients y (List.mem_of_getElem? hy)) hp) h0 hd hcm0) (hx'0 (hci (cinv_commit hg.rows hx (by omega) h0 hd hcm0))) hst'
      · have e1 : (closeAt w.rows x).1 = w.rows := atRow_miss h0
        rw [e1]
        exact winv_turn h h.inv (fun i y hy _ hp => h.clients i y hy hp) (hx'0 (hci hx)) hst'

/-- What resolving a lock does. -/
theorem resolve_inv (hc : 0 ≤ clock ∧ clock ≤ 1099511627376) (hv : RowsVal clock l) (h : Inv l P D) :
    Inv (resolveR l k).1 P D ∧ (∀ y : MClient, clientB y clock = true → y.phase ≠ 0 → CInv l P y → CInv (resolveR l k).1 P y) ∧
    (keyB k = true → ((resolveR l k).2 = 0 ∨ (resolveR l k).2 = 5) ∧ ∀ s p v, ¬ Lk (resolveR l k).1 k s p v) ∧ (∀ k' s p v, Lk (resolveR l k).1 k' s p v → Lk l k' s p v) := by
  by_cases hkey : keyB k = false
  · have e : resolveR l k = (l, 4) := by unfold resolveR; rw [if_pos hkey]
    rw [e]
    exact ⟨h, fun y _ _ hy => hy, fun hk => (by rw [hkey] at hk; cases hk), fun _ _ _ _ h1 => h1⟩
  have hnone : (rv l k).ls = 0 → resolveR l k = (l, 5) ∧ ∀ s p v, ¬ Lk l k s p v := fun hls => by
    refine ⟨?_, fun s p v h1 => h1.1 (h1.2.1.symm.trans hls)⟩
    unfold resolveR
    rw [if_neg hkey]
    cases hr : rowAt l k with
    | none => rfl
    | some r =>
      have e : rv l k = r := by unfold rv; rw [hr]; rfl
      rw [e] at hls
      dsimp only
      rw [if_pos hls]
  by_cases hls : (rv l k).ls = 0
  · obtain ⟨e, h1⟩ := hnone hls
    rw [e]
    exact ⟨h, fun y _ _ hy => hy, fun _ => ⟨.inr rfl, h1⟩, fun _ _ _ _ h1 => h1⟩
  have hlk : Lk l k (rv l k).ls (rv l k).lp (rv l k).value := ⟨hls, rfl, rfl, rfl⟩
  have hr : rowAt l k = some (rv l k) := rowAt_of_lk hlk
  generalize rv l k = r at hlk hr hls
  obtain ⟨hp, hprim⟩ := h.lock _ _ _ _ hlk
  have hb := lk_bound hc.1 hv hlk
  have ht : timeB r.ls = true := timeB_of hb.1 hb.2.2
  have hphase : ∀ y : MClient, clientB y clock = true → y.phase ≠ 0 → y.phase = 1 ∨ y.phase = 2 ∨ y.phase = 3 ∨ y.phase = 4 := fun y hy hp => by
    have := (busy_of hy hp).phase; omega
  by_cases h2 : (statusAt l r.lp r.ls).1 = 2
  · have e : resolveR l k = atRow l k (fun q => commitRow q r.ls (statusAt l r.lp r.ls).2) (fun q => commitCode q r.ls (statusAt l r.lp r.ls).2) := by
      unfold resolveR; rw [if_neg hkey, hr]; dsimp only; rw [if_neg hls, if_pos h2]
    obtain ⟨hne, hrc⟩ := statusAt_two hv ht h2
    rw [hp] at hrc hne e
    obtain ⟨v1, hrc1⟩ := hrc
    have hbd := (rc_bound hc.1 hv hrc1).2.2 hne
    have h0 := commit_lk hc.1 hv hlk hbd.1 hbd.2
    obtain ⟨_, p0, v0, hk0, hl, hrr⟩ := commit_step hv h0
    rw [e]
    refine ⟨inv_commit hc.1 hv h h0 ⟨v1, hrc1⟩, fun y hy hq hci => cinv_commit hv hci (hphase y hy hq) h0 ⟨v1, hrc1⟩ hne, fun _ => ⟨.inl h0, fun s p v h1 => ?_⟩, fun k' s p v h1 => ((hl _ _ _ _).1 h1).1⟩
    obtain ⟨h1, h3⟩ := (hl _ _ _ _).1 h1
    exact h3 ⟨rfl, (lk_uniq h1 hk0).1⟩
  · have hm : ∀ k' c v, Rc l k' r.ls c v → c = 0 := fun k' c v h1 => by
      obtain ⟨v', h3⟩ := h.recs _ _ _ _ h1
      rw [← hp] at h3
      exact statusAt_not_two hc.1 hv ht h2 h3
    have h0 : (undoAt l r.lp r.ls).2 = 0 := by
      rw [hp]
      rcases hprim with ⟨p', v', h3⟩ | ⟨c', v', h3⟩
      · exact undo_lk hc.1 hv h3
      · have hz := hm _ _ _ h3
        subst hz
        exact undo_rc hc.1 hv h3 hb.2.2
    have e : resolveR l k = undoAt (undoAt l r.lp r.ls).1 k r.ls := by
      unfold resolveR; rw [if_neg hkey, hr]; dsimp only; rw [if_neg hls, if_neg h2, if_neg (fun hne => hne h0)]
    obtain ⟨_, hl1, hr1⟩ := undo_step hc.1 hv h0
    have hv1 := undoAt_good (k := r.lp) hc.1 hb.2.1 hv
    have hi1 := inv_undo hc.1 hv h h0 hm (.inl hp)
    have hpr1 : Rc (undoAt l r.lp r.ls).1 r.lp r.ls 0 ⟨#[]⟩ := (hr1 _ _ _ _).2 (.inr ⟨rfl, rfl, rfl, rfl⟩)
    have hm1 : ∀ k' c v, Rc (undoAt l r.lp r.ls).1 k' r.ls c v → c = 0 := fun k' c v h1 => by
      rcases (hr1 _ _ _ _).1 h1 with h1 | ⟨_, _, h3, _⟩
      · exact hm _ _ _ h1
      · exact h3
    have h01 : (undoAt (undoAt l r.lp r.ls).1 k r.ls).2 = 0 := by
      by_cases hk : k = r.lp
      · rw [hk]; exact undo_rc hc.1 hv1 hpr1 hb.2.2
      · exact undo_lk hc.1 hv1 ((hl1 _ _ _ _).2 ⟨hlk, fun e => hk e.1⟩)
    obtain ⟨_, hl2, hr2⟩ := undo_step hc.1 hv1 h01
    rw [e]
    refine ⟨inv_undo hc.1 hv1 hi1 h01 hm1 (.inr ⟨⟨#[]⟩, by rw [← hp]; exact hpr1⟩), fun y hy hq hci => ?_, fun _ => ⟨.inl h01, fun s p v h1 => ?_⟩, fun k' s p v h1 => ((hl1 _ _ _ _).1 ((hl2 _ _ _ _).1 h1).1).1⟩
    · have hcm : y.phase = 4 → y.commit ≠ 0 := fun h4 => by have hbz := busy_of hy hq; have := hbz.phase; have := hbz.start; omega
      exact cinv_undo hc.1 hv1 (cinv_undo hc.1 hv hci h0 hcm (.inl ⟨_, _, _, hlk⟩) hm) h01 hcm (.inr ⟨_, _, _, hpr1⟩) hm1
    · obtain ⟨h1, h3⟩ := (hl2 _ _ _ _).1 h1
      obtain ⟨h1, _⟩ := (hl1 _ _ _ _).1 h1
      exact h3 ⟨rfl, (lk_uniq h1 hlk).1⟩
end

/-- What an act commits. -/
def dealsOf (w : MWorld) (a : MAct) : List Deal :=
  if a.kind = 4 ∧ (clientAt w a.c.toNat).phase = 3 ∧ (doM w a).2.1.code = 0 then [⟨(clientAt w a.c.toNat).start, (clientAt w a.c.toNat).commit, (clientAt w a.c.toNat).writes⟩] else []

theorem clientAt_get {w : MWorld} {c : Nat} (h : c < w.clients.length) : w.clients[c]? = some (clientAt w c) := by
  unfold clientAt; rw [List.getElem?_eq_getElem h]; rfl

theorem act_winv {w : MWorld} {a : MAct} {P : Int → ByteArray} {D : List Deal} (h0 : doCode w a = 0) (h : WInv w.rows w.clients P D) : ∃ P', WInv (doM w a).1.rows (doM w a).1.clients P' (D ++ dealsOf w a) := by
  obtain ⟨hg, hk, hcl, hclock⟩ := doCode_ok h0
  have hcl' : a.c.toNat < w.clients.length := by omega
  have hget := clientAt_get hcl'
  have hxB := hg.clients _ (List.mem_of_getElem? hget)
  have hcode : (doM w a).2.1.code = (actM w a a.c.toNat (clientAt w a.c.toNat)).2.code := by unfold doM; rw [if_pos h0]
  have hworld : (doM w a).1 = (actM w a a.c.toNat (clientAt w a.c.toNat)).1 := by unfold doM; rw [if_pos h0]
  unfold dealsOf
  rw [hcode, hworld]
  generalize hx : clientAt w a.c.toNat = x at hget hxB
  generalize hc : a.c.toNat = c at hget hcl'
  have hs : x.phase ≠ 0 → ∀ (i : Nat) y, w.clients[i]? = some y → i ≠ c → y.phase ≠ 0 → y.start ≠ x.start := fun hp i y hy hne hq => h.apart i c y x hy hget hne hq hp
  have hci : x.phase ≠ 0 → CInv w.rows P x := h.clients c x hget
  have hothers : ∀ (i : Nat) y, w.clients[i]? = some y → i ≠ c → y.phase ≠ 0 → CInv w.rows P y := fun i y hy _ hp => h.clients i y hy hp
  have hsame : WInv w.rows w.clients P (D ++ []) := by rw [List.append_nil]; exact h
  have hzero : WInv w.rows (w.clients.set c zeroClient) P (D ++ []) := by
    rw [List.append_nil]
    exact winv_turn h h.inv hothers (fun hp => absurd rfl hp) (fun hp => absurd rfl hp)
  unfold actM
  by_cases hbad : (a.kind = 1 ∧ x.phase ≠ 0) ∨ ((a.kind = 2 ∨ a.kind = 3) ∧ x.phase ≠ 1) ∨ (a.kind = 5 ∧ x.phase = 0)
  · rw [if_pos hbad, if_neg (fun e => by omega)]; exact ⟨P, hsame⟩
  rw [if_neg hbad]
  by_cases k1 : a.kind = 1
  · rw [if_pos k1, if_neg (fun e => by omega), List.append_nil]
    have hno : NoneOf w.rows (w.clock + 1) := ⟨fun k p v h1 => by have := lk_bound hg.clock.1 hg.rows h1; omega, fun k c v h1 => by have := (rc_bound hg.clock.1 hg.rows h1).1; omega⟩
    refine ⟨P, winv_turn h h.inv hothers (fun _ => ⟨fun _ => hno, fun hp => ?_, fun j y hj => ?_, fun hp => ?_, fun hp => ?_, fun k p v h1 => absurd h1 (hno.1 k p v)⟩) (fun _ i y hy _ hp => ?_)⟩
    · rcases hp with hp | hp <;> exact absurd (show (1 : Int) = _ from hp) (by decide)
    · cases hj
    · rcases hp with hp | hp | hp <;> exact absurd (show (1 : Int) = _ from by first | exact hp | exact hp.1) (by decide)
    · exact absurd (show (1 : Int) = _ from hp) (by decide)
    · have := (busy_of (hg.clients y (List.mem_of_getElem? hy)) hp).start
      show y.start ≠ w.clock + 1; omega
  rw [if_neg k1]
  by_cases k2 : a.kind = 2
  · rw [if_pos k2, if_neg (fun e => by omega)]; exact ⟨P, hsame⟩
  rw [if_neg k2]
  by_cases k3 : a.kind = 3
  · rw [if_pos k3, if_neg (fun e => by omega)]
    have hp1 : x.phase = 1 := by omega
    have hp0 : x.phase ≠ 0 := by omega
    dsimp only
    unfold putM
    split
    · exact ⟨P, hsame⟩
    split
    · exact ⟨P, hsame⟩
    split
    · exact ⟨P, hsame⟩
    have hx1 := hci hp0
    have hn := hx1.none (.inl hp1)
    rw [List.append_nil]
    exact ⟨P, winv_turn h h.inv hothers (fun _ => ⟨fun _ => hn, fun hp => absurd hp (by show ¬ (x.phase = 2 ∨ x.phase = 3); omega), fun j y _ hp => absurd hp (by show ¬ (x.phase = 3 ∨ (x.phase = 2 ∧ _)); omega), fun hp => absurd hp (by show ¬ (x.phase = 3 ∨ x.phase = 4 ∨ (x.phase = 2 ∧ _)); omega), fun hp => absurd hp (by show ¬ x.phase = 4; omega), fun k p v h1 => absurd h1 (hn.1 k p v)⟩) (fun _ => hs hp0)⟩
  rw [if_neg k3]
  by_cases k4 : a.kind = 4
  · rw [if_pos k4]
    dsimp only
    unfold stepM
    by_cases hp0 : x.phase = 0
    · rw [if_pos hp0, if_neg (fun e => by omega)]; exact ⟨P, hsame⟩
    rw [if_neg hp0]
    have hb := busy_of hxB hp0
    have hbp := hb.phase
    by_cases hp1 : x.phase = 1 ∧ x.writes.length = 0
    · rw [if_pos hp1, if_neg (fun e => by omega)]; exact ⟨P, hzero⟩
    rw [if_neg hp1]
    by_cases hp1' : x.phase = 1
    · rw [if_pos hp1', if_neg (fun e => by omega), List.append_nil]
      have hx1 := hci hp0
      have hn := hx1.none (.inl hp1')
      refine lockM_winv (x := { x with phase := 2 }) hg h ⟨fun _ => hn, fun _ k c v h1 => absurd h1 (hn.2 k c v), fun j y hj hp => ?_, fun hp => ?_, fun hp => ?_, fun k p v h1 => absurd h1 (hn.1 k p v)⟩ ⟨hb.few, hb.writes, hb.start, .inr (.inl ⟨rfl, ?_, ?_, ?_, ?_⟩)⟩ rfl ?_ (hs hp0)
      · exact absurd hp (by show ¬ ((2 : Int) = 3 ∨ ((2 : Int) = 2 ∧ (j : Int) < x.at_)); omega)
      · exact absurd hp (by show ¬ ((2 : Int) = 3 ∨ (2 : Int) = 4 ∨ ((2 : Int) = 2 ∧ 0 < x.at_)); omega)
      · exact absurd (show (2 : Int) = _ from hp) (by decide)
      · show x.commit = 0; omega
      · show 0 ≤ x.at_; omega
      · show x.at_ ≤ x.writes.length; omega
      · show 0 < x.writes.length; omega
      · show x.at_ < x.writes.length; omega
    rw [if_neg hp1']
    by_cases hp2 : x.phase = 2 ∧ x.at_ < x.writes.length
    · rw [if_pos hp2, if_neg (fun e => by omega), List.append_nil]
      exact lockM_winv hg h (hci hp0) hb hp2.1 hp2.2 (hs hp0)
    rw [if_neg hp2]
    by_cases hp2' : x.phase = 2
    · rw [if_pos hp2', if_neg (fun e => by omega), List.append_nil]
      have hx1 := hci hp0
      have hat : x.at_ = x.writes.length := by omega
      refine ⟨P, winv_turn h h.inv hothers (fun _ => ⟨fun hp => ?_, fun _ => hx1.mild (.inl hp2'), fun j y hj _ => hx1.held j y hj (.inr ⟨hp2', ?_⟩), fun _ => hx1.prim (.inr (.inr ⟨hp2', by omega⟩)), fun hp => ?_, hx1.own⟩) (fun _ => hs hp0)⟩
      · rcases hp with hp | hp <;> exact absurd (show (3 : Int) = _ from by first | exact hp | exact hp.1) (by decide)
      · have hj' : x.writes[j]? = some y := hj
        have := (List.getElem?_eq_some_iff.1 hj').1
        omega
      · exact absurd (show (3 : Int) = _ from hp) (by decide)
    · rw [if_neg hp2']
      have e : (if a.kind = 4 ∧ x.phase = 3 ∧ (closeM w c x).2 = 0 then [(⟨x.start, x.commit, x.writes⟩ : Deal)] else []) = if x.phase = 3 ∧ (closeM w c x).2 = 0 then [(⟨x.start, x.commit, x.writes⟩ : Deal)] else [] := by
        by_cases hh : x.phase = 3 ∧ (closeM w c x).2 = 0
        · rw [if_pos hh, if_pos ⟨k4, hh⟩]
        · rw [if_neg hh, if_neg (fun e => hh e.2)]
      dsimp only
      rw [e]
      exact ⟨P, closeM_winv hg h (hci hp0) hb (by omega) (hs hp0)⟩
  rw [if_neg k4]
  by_cases k5 : a.kind = 5
  · rw [if_pos k5, if_neg (fun e => by omega)]; exact ⟨P, hzero⟩
  rw [if_neg k5, if_neg (fun e => by omega), List.append_nil]
  obtain ⟨h1, h2, _, _⟩ := resolve_inv (k := a.key) hg.clock hg.rows h.inv
  exact ⟨P, h1, fun i y hy hp => h2 y (hg.clients y (List.mem_of_getElem? hy)) hp (h.clients i y hy hp), h.apart⟩

theorem start_winv {n : Nat} (P : Int → ByteArray) : WInv (startW n).rows (startW n).clients P [] := by
  refine ⟨⟨fun k s p v h => ?_, fun k s c v h => ?_, fun d hd => by (cases hd), fun k s c v h => ?_, List.Pairwise.nil⟩, fun i x hx hp => ?_, fun i j x y hx hy hij hp hq => ?_⟩
  · exact absurd h.2.1.symm h.1
  · cases h
  · cases h
  · have := List.eq_of_mem_replicate (List.mem_of_getElem? hx)
    rw [this] at hp; exact absurd rfl hp
  · have := List.eq_of_mem_replicate (List.mem_of_getElem? hx)
    rw [this] at hp; exact absurd rfl hp
end Go.Proofs.YtniomgngiiiklabDoor

/- Scripts of acts that are in form: every act is done, times are ticks, a part of a script answers as its beginning; no program in sight. -/
namespace Go.Proofs.YtniomgngiiiklabDoor
open Go.RowKit

/-! ### clients and clock -/
theorem lockM_facts {w : MWorld} {c : Nat} {x : MClient} : (lockM w c x).1.clock = w.clock ∧ (lockM w c x).1.clients.length = w.clients.length := by
  unfold lockM
  split
  · exact ⟨rfl, List.length_set⟩
  · split
    · exact ⟨rfl, List.length_set⟩
    · exact ⟨rfl, List.length_set⟩
theorem closeM_facts {w : MWorld} {c : Nat} {x : MClient} : (closeM w c x).1.clock = w.clock ∧ (closeM w c x).1.clients.length = w.clients.length := by
  unfold closeM
  split
  · exact ⟨rfl, List.length_set⟩
  · exact ⟨rfl, List.length_set⟩
theorem stepM_facts {w : MWorld} {c : Nat} {x : MClient} : (((stepM w c x).2.2 = 0 ∧ (stepM w c x).1.clock = w.clock) ∨ ((stepM w c x).2.2 = w.clock + 1 ∧ (stepM w c x).1.clock = w.clock + 1)) ∧ (stepM w c x).1.clients.length = w.clients.length := by
  unfold stepM
  split
  · exact ⟨.inl ⟨rfl, rfl⟩, rfl⟩
  split
  · exact ⟨.inl ⟨rfl, rfl⟩, List.length_set⟩
  split
  · exact ⟨.inl ⟨rfl, lockM_facts.1⟩, lockM_facts.2⟩
  split
  · exact ⟨.inl ⟨rfl, lockM_facts.1⟩, lockM_facts.2⟩
  split
  · exact ⟨.inr ⟨rfl, rfl⟩, List.length_set⟩
  · exact ⟨.inl ⟨rfl, closeM_facts.1⟩, closeM_facts.2⟩
theorem putM_facts {w : MWorld} {c : Nat} {x : MClient} {k v : ByteArray} : (putM w c x k v).1.clock = w.clock ∧ (putM w c x k v).1.clients.length = w.clients.length := by
  unfold putM
  split
  · exact ⟨rfl, rfl⟩
  split
  · exact ⟨rfl, rfl⟩
  split
  · exact ⟨rfl, rfl⟩
  · exact ⟨rfl, List.length_set⟩
theorem doM_facts {w : MWorld} {a : MAct} (h : doCode w a = 0) :
    (((doM w a).2.1.time = 0 ∧ (doM w a).1.clock = w.clock) ∨ ((doM w a).2.1.time = w.clock + 1 ∧ (doM w a).1.clock = w.clock + 1)) ∧ (doM w a).1.clients.length = w.clients.length ∧ (doM w a).2.2 = 0 := by
  unfold doM
  rw [if_pos h]
  refine and_assoc.1 ⟨?_, rfl⟩
  dsimp only
  unfold actM
  split
  · exact ⟨.inl ⟨rfl, rfl⟩, rfl⟩
  split
  · exact ⟨.inr ⟨rfl, rfl⟩, List.length_set⟩
  split
  · exact ⟨.inl ⟨rfl, rfl⟩, rfl⟩
  split
  · exact ⟨.inl ⟨rfl, putM_facts.1⟩, putM_facts.2⟩
  split
  · exact stepM_facts
  split
  · exact ⟨.inl ⟨rfl, rfl⟩, List.length_set⟩
  · exact ⟨.inl ⟨rfl, rfl⟩, rfl⟩

/-! ### scripts -/
def ActOk (n : Nat) (a : MAct) : Prop := (1 ≤ a.kind ∧ a.kind ≤ 6) ∧ 0 ≤ a.c ∧ a.c < n
def stepW (w : MWorld) (a : MAct) : MWorld := (doM w a).1
def ansFrom : MWorld → List MAct → List MAns
  | _, [] => []
  | w, a :: l => (doM w a).2.1 :: ansFrom (stepW w a) l
/-- A world in which so many acts can still be done. -/
structure Fit (n : Nat) (m : Nat) (w : MWorld) : Prop where
  good : WorldGood w
  len : w.clients.length = n
  room : w.clock + m ≤ 1099511627376
theorem fit_code {n m : Nat} {w : MWorld} {a : MAct} (h : Fit n (m + 1) w) (ha : ActOk n a) : doCode w a = 0 := by
  obtain ⟨hk, hc⟩ := ha
  have hl := h.len
  have hr := h.room
  unfold doCode
  rw [worldB_iff.2 h.good]
  rw [if_neg (by decide), if_neg (by omega), if_neg (by omega), if_neg (by omega)]
theorem fit_step {n m : Nat} {w : MWorld} {a : MAct} (h : Fit n (m + 1) w) (ha : ActOk n a) : Fit n m (stepW w a) := by
  have h0 := fit_code h ha
  obtain ⟨h1, h2, _⟩ := doM_facts h0
  have hr := h.room
  refine ⟨doM_good h0, h2.trans h.len, ?_⟩
  show (doM w a).1.clock + m ≤ _
  omega
theorem fit_start {n : Nat} (h : n ≤ 5) (m : Nat) (hm : m ≤ 400) : Fit n m (startW n) := ⟨startW_good h, by simp [startW], by show (0 : Int) + m ≤ _; omega⟩
theorem foldl_run {n : Nat} : ∀ {l : List MAct} {w : MWorld} {out : List MAns}, Fit n l.length w → (∀ a ∈ l, ActOk n a) → l.foldl runStep (out, w) = (out ++ ansFrom w l, l.foldl stepW w)
  | [], w, out, _, _ => by simp [ansFrom]
  | a :: l, w, out, h, ha => by
    have h' : Fit n (l.length + 1) w := h
    have h0 := fit_code h' (ha a List.mem_cons_self)
    have e : runStep (out, w) a = (out ++ [(doM w a).2.1], stepW w a) := by
      unfold runStep
      rw [if_pos (doM_facts h0).2.2]
      rfl
    rw [List.foldl_cons, e, foldl_run (fit_step h' (ha a List.mem_cons_self)) fun b hb => ha b (List.mem_cons_of_mem _ hb)]
    simp [ansFrom]
theorem run_ok {n : Nat} {l : List MAct} (hn : n ≤ 5) (hl : l.length ≤ 400) (ha : ∀ a ∈ l, ActOk n a) : runM n l = (ansFrom (startW n) l, l.foldl stepW (startW n)) := by
  unfold runM
  rw [foldl_run (fit_start hn _ hl) ha]
  rfl
theorem length_ansFrom : ∀ (l : List MAct) (w : MWorld), (ansFrom w l).length = l.length
  | [], _ => rfl
  | a :: l, w => by simp [ansFrom, length_ansFrom l]
theorem ansFrom_append : ∀ (l m : List MAct) (w : MWorld), ansFrom w (l ++ m) = ansFrom w l ++ ansFrom (l.foldl stepW w) m
  | [], _, _ => rfl
  | a :: l, m, w => by simp [ansFrom, ansFrom_append l m]
theorem ansFrom_take (l : List MAct) (k : Nat) (w : MWorld) : (ansFrom w l).take k = ansFrom w (l.take k) := by
  conv => lhs; rw [← List.take_append_drop k l, ansFrom_append]
  by_cases h : k ≤ l.length
  · rw [List.take_append_of_le_length (by rw [length_ansFrom, List.length_take]; omega), List.take_of_length_le (by rw [length_ansFrom, List.length_take]; omega)]
  · rw [List.drop_eq_nil_of_le (by omega), List.take_of_length_le (by simp [length_ansFrom, ansFrom]; omega)]
    simp [ansFrom]
theorem fit_fold {n : Nat} : ∀ {l : List MAct} {w : MWorld} {m : Nat}, Fit n (l.length + m) w → (∀ a ∈ l, ActOk n a) → Fit n m (l.foldl stepW w)
  | [], w, m, h, _ => by simpa using h
  | a :: l, w, m, h, ha => by
    rw [List.foldl_cons]
    exact fit_fold (fit_step (by rw [List.length_cons] at h; rw [show l.length + m + 1 = l.length + 1 + m by omega]; exact h) (ha a List.mem_cons_self)) fun b hb => ha b (List.mem_cons_of_mem _ hb)

/-! ### times -/
/-- The last time told, if the times follow one another. -/
def lastTime : Int → List MAns → Option Int
  | t, [] => some t
  | t, x :: l => if x.time = 0 then lastTime t l else if x.time = t + 1 then lastTime x.time l else none
theorem lastTime_run {n : Nat} : ∀ {l : List MAct} {w : MWorld}, Fit n l.length w → (∀ a ∈ l, ActOk n a) → lastTime w.clock (ansFrom w l) = some (l.foldl stepW w).clock
  | [], _, _, _ => rfl
  | a :: l, w, h, ha => by
    have h' : Fit n (l.length + 1) w := h
    have ha0 := ha a List.mem_cons_self
    have h1 := (doM_facts (fit_code h' ha0)).1
    have ih := lastTime_run (fit_step h' ha0) fun b hb => ha b (List.mem_cons_of_mem _ hb)
    rw [List.foldl_cons, ← ih]
    show (if (doM w a).2.1.time = 0 then _ else _) = _
    have hc := h.good.clock
    rcases h1 with ⟨h1, h2⟩ | ⟨h1, h2⟩
    · rw [if_pos h1, ← h2]; rfl
    · rw [if_neg (by omega), if_pos h1, h1, ← h2]; rfl
/-- The invariant along a script, with all that was committed. -/
def dealsFrom : MWorld → List MAct → List Deal
  | _, [] => []
  | w, a :: l => dealsOf w a ++ dealsFrom (stepW w a) l
theorem winv_run {n : Nat} : ∀ {l : List MAct} {w : MWorld} {m : Nat} {P : Int → ByteArray} {D : List Deal}, Fit n (l.length + m) w → (∀ a ∈ l, ActOk n a) → WInv w.rows w.clients P D →
    ∃ P', WInv (l.foldl stepW w).rows (l.foldl stepW w).clients P' (D ++ dealsFrom w l)
  | [], w, m, P, D, _, _, hw => ⟨P, by simpa [dealsFrom] using hw⟩
  | a :: l, w, m, P, D, h, ha, hw => by
    have h' : Fit n (l.length + m + 1) w := by rw [List.length_cons] at h; rw [show l.length + m + 1 = l.length + 1 + m by omega]; exact h
    have ha0 := ha a List.mem_cons_self
    obtain ⟨P1, h1⟩ := act_winv (fit_code h' ha0) hw
    obtain ⟨P2, h2⟩ := winv_run (fit_step h' ha0) (fun b hb => ha b (List.mem_cons_of_mem _ hb)) h1
    refine ⟨P2, ?_⟩
    rw [List.foldl_cons]
    show WInv _ _ _ (D ++ (dealsOf w a ++ dealsFrom (stepW w a) l))
    rw [← List.append_assoc]
    exact h2

/-- Of one transaction all records say the same. -/
theorem whole_run {clock : Int} {l : List MRow} {P : Int → ByteArray} {D : List Deal} (hc : 0 ≤ clock) (hv : RowsVal clock l) (h : Inv l P D) :
    ∀ r ∈ l, ∀ x ∈ r.recs, ∀ r' ∈ l, ∀ x' ∈ r'.recs, x.start = x'.start → x.commit = x'.commit := by
  intro r hr x hx r' hr' x' hx' e
  have hrv : ∀ q ∈ l, rv l q.key = q := fun q hq => by unfold rv; rw [rowAt_of_mem hv.sorted hq]; rfl
  have h1 : Rc l r.key x.start x.commit x.value := by unfold Rc; rw [hrv r hr]; exact hx
  have h2 : Rc l r'.key x'.start x'.commit x'.value := by unfold Rc; rw [hrv r' hr']; exact hx'
  obtain ⟨v1, h1⟩ := h.recs _ _ _ _ h1
  obtain ⟨v2, h2⟩ := h.recs _ _ _ _ h2
  rw [e] at h1
  exact (rc_uniq hc hv h1 h2).1
end Go.Proofs.YtniomgngiiiklabDoor
