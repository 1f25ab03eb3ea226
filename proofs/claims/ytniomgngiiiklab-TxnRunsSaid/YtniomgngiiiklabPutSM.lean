/- A client's writes turned: one value put in the place of another, a write more. No walk. -/
import Derived.Test.YtniomgngiiiklabOwnsM
import Derived.Test.YtniomgngiiiklabCopiesM
import Derived.Test.YtniomgngiiiklabStepSM
import Derived.Test.YtniomgngiiiklabInsertWriteM
import Derived.Test.YtniomgngiiiklabSearchWM
namespace Go.Proofs.Ytniomgngiiiklab
open Go.RowKit

theorem writeCells_set : ∀ {l : List MWrite} {k : Nat} {y : MWrite} (v : ByteArray), l[k]? = some y → (writeCells l).set (k * 2 + 1) (.string v) = writeCells (l.set k ⟨y.key, v⟩)
  | [], _, _, _, h => by simp at h
  | x :: l, 0, y, v, h => by
    have e : x = y := by simpa using h
    subst e
    simp [writeCells, MWrite.cells]
  | x :: l, k + 1, y, v, h => by
    have ih := writeCells_set (l := l) (k := k) v (by simpa using h)
    show (x.cells ++ writeCells l).set ((k + 1) * 2 + 1) _ = x.cells ++ writeCells (l.set k ⟨y.key, v⟩)
    rw [show (k + 1) * 2 + 1 = 2 + (k * 2 + 1) by omega, set_pass (by rfl), ih]
theorem writeCells_insert {l : List MWrite} {i : Nat} {q : MWrite} (hi : i ≤ l.length) : writeCells (l.take i ++ q :: l.drop i) = (writeCells l).take (i * 2) ++ q.cells ++ (writeCells l).drop (i * 2) := by
  have e : writeCells l = writeCells (l.take i) ++ writeCells (l.drop i) := by rw [← writeCells_append, List.take_append_drop]
  have hl : (writeCells (l.take i)).length = i * 2 := by rw [writeCells_length, List.length_take]; congr 1; omega
  have e1 : (writeCells l).take (i * 2) = writeCells (l.take i) := by rw [e, List.take_append_of_le_length (by omega), List.take_of_length_le (by omega)]
  have e2 : (writeCells l).drop (i * 2) = writeCells (l.drop i) := by rw [e, List.drop_append_of_le_length (by omega), List.drop_of_length_le (by omega)]; rfl
  rw [e1, e2, writeCells_append]
  simp [writeCells, List.append_assoc]
theorem clientsCells_same {l : List MClient} {hs : Heads} {k : Nat} {x x' : MClient} {h h' : Option Addr × Nat} (hx : l[k]? = some x) (hh : hs[k]? = some h) (hc : clientCells x h.1 x.writes.length h.2 = clientCells x' h'.1 x'.writes.length h'.2) :
    clientsCells (l.set k x') (hs.set k h') = clientsCells l hs := by
  rw [← clientsCells_set1 (i := 0) (u := .int .i64 x.phase) (x' := x') (h' := h') hx hh (by rw [← hc]; rfl) (by omega)]
  have := clientsCells_at (i := 0) (u := .int .i64 x.phase) hx hh rfl
  obtain ⟨hl, he⟩ := List.getElem?_eq_some_iff.1 this
  rw [← he]
  exact List.set_getElem_self hl
/-- A client turned, its writes with it. -/
theorem OwnClients.turn {w w' : World} {base n c C : Nat} {A : Option Addr} {l : List MClient} {hs : Heads} {x' : MClient} {hd' : Option Addr × Nat} (h : OwnClients w base A n c l hs) (hC : C < n)
    (hcl : w'.ownsRow base 58 5 (.slice A n c) n (clientsCells (l.set C x') (hs.set C hd')))
    (hw : w'.ownsRow base 76 2 (.slice hd'.1 x'.writes.length hd'.2) x'.writes.length (writeCells x'.writes))
    (hk : ∀ (j : Nat) (y : MClient) (q : Option Addr × Nat), j ≠ C → l[j]? = some y → hs[j]? = some q → w'.ownsRow base 76 2 (.slice q.1 y.writes.length q.2) y.writes.length (writeCells y.writes))
    (hd : ∀ (j : Nat) (q : Option Addr × Nat), j ≠ C → hs[j]? = some q → (Value.slice q.1 0 0).ownBlock ≠ none → (Value.slice q.1 0 0).ownBlock ≠ (Value.slice hd'.1 0 0).ownBlock) :
    OwnClients w' base A n c (l.set C x') (hs.set C hd') := by
  obtain ⟨h1, h2, h3, h4, h5⟩ := h
  refine ⟨by simp [h1], by simp [h2], hcl, fun j q x hq hx => ?_, fun i j p q hij hi hj hn => ?_⟩
  · by_cases e : j = C
    · subst e
      rw [List.getElem?_set_self (by omega)] at hq hx
      have hq' := Option.some.inj hq
      have hx' := Option.some.inj hx
      rw [← hq', ← hx']
      exact hw
    · rw [List.getElem?_set_ne (fun e' => e e'.symm)] at hq hx
      exact hk j q x e hq hx
  · have hget : ∀ (i : Nat) (p : Option Addr × Nat), (hs.set C hd')[i]? = some p → (i = C ∧ p = hd') ∨ (i ≠ C ∧ hs[i]? = some p) := fun i p hi => by
      by_cases e : i = C
      · subst e
        rw [List.getElem?_set_self (by omega)] at hi
        exact .inl ⟨rfl, (Option.some.inj hi).symm⟩
      · rw [List.getElem?_set_ne (fun e' => e e'.symm)] at hi
        exact .inr ⟨e, hi⟩
    rcases hget i p hi with ⟨ei, ep⟩ | ⟨ei, hi2⟩
    · rcases hget j q hj with ⟨ej, _⟩ | ⟨ej, hj2⟩
      · exact absurd (ei.trans ej.symm) hij
      · subst ep
        intro e
        exact hd j q ej hj2 (by rw [← e]; exact hn) e.symm
    · rcases hget j q hj with ⟨_, eq⟩ | ⟨_, hj2⟩
      · subst eq; exact hd i p ei hi2 hn
      · exact h5 i j p q hij hi2 hj2 hn
section
variable {w X w3 : World} {base gs gw gc C n c m c' : Nat} {M : MWorld} {A : Option Addr} {H H' : Heads}
/-- A write's value put in the place of another. -/
theorem SiteAt.putValue {x : MClient} {g d k : Nat} {y : MWrite} (h : SiteAt w base gs gw gc C M A n c m c' H H') (hx : M.clients[C]? = some x) (hh : H'[C]? = some (some ⟨g, 0, none⟩, d)) (hy : x.writes[k]? = some y) (v : ByteArray) :
    SiteAt (w.setCell ⟨g, k * 2 + 1, none⟩ (.string v)) base gs gw gc C (setC M C { x with writes := x.writes.set k ⟨y.key, v⟩ }) A n c m c' H (H'.set C (some ⟨g, 0, none⟩, d)) ∧ Keeps [76] base w (w.setCell ⟨g, k * 2 + 1, none⟩ (.string v)) := by
  have hw := h.writes hx hh
  obtain ⟨cur, hg, hb⟩ := own_blk hw
  have hk : Keeps [76] base w (w.setCell ⟨g, k * 2 + 1, none⟩ (.string v)) := (Keeps.refl _ _ w).set hg (by simp) hb _
  refine ⟨⟨hk.blk h.site (by decide), hk.blk h.world (by decide), hk.rows h.rows (by decide) (by decide), h.clients.turn h.lt ?_ ?_ (fun j z q hj hz hq => ?_) (fun j q hj hq hn => ?_), h.lt, h.bs, h.bw⟩, hk⟩
  · rw [clientsCells_same hx hh (by simp [clientCells])]
    exact hk.own h.clients.2.2.1 (by decide)
  · have := own_set hw (k * 2 + 1) (.string v)
    rw [writeCells_set v hy] at this
    simpa using this
  · refine own_far (h.clients.2.2.2.1 j z q hz hq) (fun e => ?_) _
    have hne := h.clients.2.2.2.2 j C q _ hj hq hh (by rw [ownBlock_any' q.1 0 0 z.writes.length q.2, ← e]; simp)
    rw [ownBlock_any' q.1 0 0 z.writes.length q.2, ← e] at hne
    exact hne rfl
  · exact h.clients.2.2.2.2 j C q _ hj hq hh hn
/-- A write more. -/
theorem SiteAt.insertWrite {x : MClient} {hd : Option Addr × Nat} {i c3 : Nat} {A3 : Option Addr} {q : MWrite} (h : SiteAt w base gs gw gc C M A n c m c' H H') (hx : M.clients[C]? = some x) (hh : H'[C]? = some hd) (hX : Keeps [] base w X) (hi : i ≤ x.writes.length) (hgX : w.heap.size ≤ X.heap.size)
    (hg : X.grownBy w3 (Value.slice hd.1 x.writes.length hd.2).ownBlock)
    (hown : w3.ownsRow base 76 2 (.slice A3 (x.writes.length + 1) c3) (x.writes.length + 1) ((writeCells x.writes).take (i * 2) ++ q.cells ++ (writeCells x.writes).drop (i * 2)))
    (hat : (Value.slice A3 (x.writes.length + 1) c3).ownBlock = (Value.slice hd.1 x.writes.length hd.2).ownBlock ∨ (Value.slice A3 (x.writes.length + 1) c3).ownBlock = some X.heap.size) :
    SiteAt (w3.setCell ⟨gc, C * 5 + 3, none⟩ (.slice A3 (x.writes.length + 1) c3)) base gs gw gc C (setC M C { x with writes := x.writes.take i ++ q :: x.writes.drop i }) A n c m c' H (H'.set C (A3, c3)) ∧
    Keeps [76, 58] base w (w3.setCell ⟨gc, C * 5 + 3, none⟩ (.slice A3 (x.writes.length + 1) c3)) := by
  have hSX := h.keep hX ⟨by simp, by simp, by simp, by simp, by simp, by simp⟩
  have hwX := hSX.writes hx hh
  have k3 : Keeps [76] base w w3 := (hX.wide (by simp)).grown hwX (by simp) (.inr rfl) hg hSX.size
  have hcl3 := k3.own h.clients.2.2.1 (by decide)
  obtain ⟨cur, hgc, hbc⟩ := own_blk hcl3
  have k4 : Keeps [76, 58] base w (w3.setCell ⟨gc, C * 5 + 3, none⟩ (.slice A3 (x.writes.length + 1) c3)) := (k3.wide (by simp)).set hgc (by simp) hbc _
  have hlen : (x.writes.take i ++ q :: x.writes.drop i).length = x.writes.length + 1 := by simp; omega
  refine ⟨⟨k4.blk h.site (by decide), k4.blk h.world (by decide), k4.rows h.rows (by decide) (by decide), h.clients.turn h.lt ?_ ?_ (fun j z p hj hz hp => ?_) (fun j p hj hp hn => ?_), h.lt, h.bs, h.bw⟩, k4⟩
  · have := own_set hcl3 (C * 5 + 3) (.slice A3 (x.writes.length + 1) c3)
    rwa [clientsCells_set1 (i := 3) (x' := { x with writes := x.writes.take i ++ q :: x.writes.drop i }) (h' := (A3, c3)) hx hh (by simp only [clientCells, hlen]; rfl) (by omega)] at this
  · show World.ownsRow _ base _ 2 (.slice A3 (x.writes.take i ++ q :: x.writes.drop i).length c3) (x.writes.take i ++ q :: x.writes.drop i).length _
    rw [hlen, writeCells_insert hi]
    exact own_far hown (own_ne hown hgc (by decide)) _
  · have ho := hSX.clients.2.2.2.1 j z p hz hp
    refine own_far (ho.kept hg ?_) (own_ne (ho.kept hg ?_) hgc (by decide)) _
    all_goals
      by_cases hn : (Value.slice p.1 z.writes.length p.2).ownBlock = none
      · exact .inl hn
      · refine .inr ?_
        have hne := h.clients.2.2.2.2 j C p _ hj hp hh (by rw [ownBlock_any' p.1 0 0 z.writes.length p.2]; exact hn)
        rwa [ownBlock_any' p.1 0 0 z.writes.length p.2, ownBlock_any' hd.1 0 0 x.writes.length hd.2] at hne
  · show _ ≠ (Value.slice A3 0 0).ownBlock
    rw [ownBlock_any' A3 0 0 (x.writes.length + 1) c3]
    rcases hat with e | e
    · rw [e, ← ownBlock_any' hd.1 0 0 x.writes.length hd.2]
      exact h.clients.2.2.2.2 j C p _ hj hp hh hn
    · rw [e]
      intro e'
      have := (h.clients.heads_lt p (List.mem_of_getElem? hp) _ e').2
      omega
end
end Go.Proofs.Ytniomgngiiiklab

/- The walk of (*site).put. -/
namespace Go.Proofs.Ytniomgngiiiklab
open Go.RowKit

set_option maxRecDepth 100000 in
set_option maxHeartbeats 4000000 in
theorem site_put_any (key val : ByteArray) (base gs gw gc C go : Nat) (o : MAns) (M : MWorld) (x : MClient) (w : World) (hS : Site w base gs gw gc C M) (hg : WorldGood M) (hx : M.clients[C]? = some x)
    (hgo : w.heap[go]? = some (.cells (ansCells o) 41 (0, 0))) :
    Calls Try.prog 25 #[.pointer (some ⟨gs, 0, none⟩), .string key, .string val] w (ActRes w base gs gw gc C go (putM M C x key val).1 (putM M C x key val).2 o) := by
  obtain ⟨A, n, c, m, c', H, H', hS⟩ := hS
  obtain ⟨_, hd, _, hhd, _⟩ := hS.parts
  obtain ⟨hwk, hwl⟩ := good_writes hg (List.mem_of_getElem? hx)
  have HWG := Lib.hid (writes_good (hg.clients x (List.mem_of_getElem? hx))).2
  have HS := Lib.hid hS
  have HG := Lib.hid hg
  have HX := Lib.hid hx
  have HD := Lib.hid hhd
  have HWK := Lib.hid hwk
  have HGO := Lib.hid hgo
  clear hS hg hx hhd hwk hgo
  go_enter Try.func25, Try.ntmps25
  go_wp2_with fail
  refine (key_any key _).mono ?_
  rintro e w1 ⟨rfl, hb⟩
  have HL := Lib.hid hb
  have HS1 := Lib.hid (HS.out.below hb (Nat.le_refl _))
  clear hb
  cases hk : keyB key
  · have HE : Hid (putM M C x key val = (M, 4)) := by show _ = _; unfold putM; rw [if_pos hk]
    clear hk
    go_wp2_with fail
    go_ret
    rw [HE.out]
    exact ⟨rfl, HS1.out.any, blk_keep HL.out HGO.out (blk_lt HGO.out), Keeps.of_below HL.out (Nat.le_refl _) HS.out.size⟩
  have HK := Lib.hid hk
  clear hk
  by_cases hv : 20 < val.size
  · have HE : Hid (putM M C x key val = (M, 1)) := by show _ = _; unfold putM; rw [if_neg (by rw [HK.out]; decide), if_pos hv]
    have hv1 : decide ((20 : Int) < (val.size : Int)) = true := decide_eq_true (by omega)
    go_wp2_with fail
    go_ret
    rw [HE.out]
    exact ⟨rfl, HS1.out.any, blk_keep HL.out HGO.out (blk_lt HGO.out), Keeps.of_below HL.out (Nat.le_refl _) HS.out.size⟩
  have hv1 : decide ((20 : Int) < (val.size : Int)) = false := decide_eq_false (by omega)
  have HV := Lib.hid hv
  clear hv
  obtain ⟨hcs, hfs⟩ := blk_read HS1.out.site
  obtain ⟨c0, c1, c2, c3, c4⟩ := HS1.out.cells HX.out HD.out
  go_wp2_with fail
  refine (bsWrites_any _ (.inr rfl) x.writes key hd.1 x.writes.length hd.2 w1 (WritesOk.own (HS1.out.writes HX.out HD.out) (by omega) HWK.out) HWG.out.2).mono ?_
  rintro e w2 ⟨rfl, hb⟩
  have HS2 := Lib.hid (HS1.out.below hb (Nat.le_refl _))
  have HL2 := Lib.hid (HL.out.trans (hb.mono HL.out.size))
  clear hb hcs hfs c0 c1 c2 c3 c4
  obtain ⟨hcs, hfs⟩ := blk_read HS2.out.site
  obtain ⟨c0, c1, c2, c3, c4⟩ := HS2.out.cells HX.out HD.out
  cases hB : bsB MWrite.key x.writes key
  rotate_left
  · have hne : x.writes[bsI MWrite.key x.writes key]?.isSome = true := by
      unfold bsB at hB
      cases h : x.writes[bsI MWrite.key x.writes key]? with
      | none => rw [h] at hB; cases hB
      | some r => rfl
    obtain ⟨y, hy⟩ := Option.isSome_iff_exists.1 hne
    have hyk : y.key = key := by unfold bsB at hB; rw [hy] at hB; simpa using hB
    obtain ⟨hw0, hput⟩ := wsearch_there HWG.out.2 hy hyk
    have HE : Hid (putM M C x key val = (setC M C { x with writes := x.writes.set (bsI MWrite.key x.writes key) ⟨y.key, val⟩ }, 0)) := by show _ = _; unfold putM; rw [if_neg (by rw [HK.out]; decide), if_neg HV.out, if_neg (by rw [hw0]; simp), hput ⟨key, val⟩ rfl, hyk]
    obtain ⟨k, hk⟩ : ∃ k, k = bsI MWrite.key x.writes key := ⟨_, rfl⟩
    rw [← hk] at hy HE ⊢
    have hkn : k < x.writes.length := (List.getElem?_eq_some_iff.1 hy).1
    obtain ⟨ga, hga, hzga, ha1⟩ := own_cell (HS2.out.writes HX.out HD.out) (writeCells_at x.writes k 1 y _ hy rfl)
    obtain ⟨h1, h2⟩ := hd
    dsimp only at hga
    subst hga
    have hW := HS2.out.writes HX.out HD.out
    obtain ⟨cur, hcur, _⟩ := own_blk hW
    have hfg := (blk_read hcur).2
    have HY := Lib.hid hy
    clear hne hy hyk hw0 hk hput hW hcur
    go_wp2_with fail
    go_ret
    rw [HE.out]
    obtain ⟨hfin, hkf⟩ := HS2.out.putValue HX.out HD.out HY.out val
    exact ⟨rfl, hfin.any, hkf.blk (blk_keep HL2.out HGO.out (blk_lt HGO.out)) (by decide), (Keeps.of_below HL2.out (Nat.le_refl _) HS.out.size).trans (hkf.wide (by simp))⟩
  obtain ⟨hw0, hput⟩ := wsearch_not HWG.out.2 hB
  by_cases h6 : x.writes.length = 6
  · have HE : Hid (putM M C x key val = (M, 1)) := by show _ = _; unfold putM; rw [if_neg (by rw [HK.out]; decide), if_neg HV.out, if_pos ⟨by rw [hw0]; rfl, h6⟩]
    rw [h6] at c3
    clear hw0 hput h6
    go_wp2_with fail
    go_ret
    rw [HE.out]
    exact ⟨rfl, HS2.out.any, blk_keep HL2.out HGO.out (blk_lt HGO.out), Keeps.of_below HL2.out (Nat.le_refl _) HS.out.size⟩
  have HE : Hid (putM M C x key val = (setC M C { x with writes := x.writes.take (bsI MWrite.key x.writes key) ++ ⟨key, val⟩ :: x.writes.drop (bsI MWrite.key x.writes key) }, 0)) := by show _ = _; unfold putM; rw [if_neg (by rw [HK.out]; decide), if_neg HV.out, if_neg (fun h => h6 h.2), hput ⟨key, val⟩ rfl]
  have h61 : ((x.writes.length : Int) == 6) = false := by rw [beq_eq_false_iff_ne]; omega
  have hbi : bsI MWrite.key x.writes key ≤ x.writes.length := bsI_le
  obtain ⟨k, hk⟩ : ∃ k, k = bsI MWrite.key x.writes key := ⟨_, rfl⟩
  rw [← hk] at hbi HE ⊢
  have HNN : Hid (some w2.heap.size ≠ (Value.slice hd.1 x.writes.length hd.2).ownBlock) := fun e => by have := ((HS2.out.writes HX.out HD.out).lt _ e.symm).2; omega
  have HNS : Hid (some gs ≠ (Value.slice hd.1 x.writes.length hd.2).ownBlock) := own_ne (HS2.out.writes HX.out HD.out) HS2.out.site (by decide)
  have hbase := HS2.out.size
  obtain ⟨cur, hcur, _⟩ := own_blk HS2.out.clients.2.2.1
  have HCU := Lib.hid hcur
  have hzc := blk_lt hcur
  have hzs := blk_lt HS2.out.site
  have HC3 : Hid (cur[C * 5 + 3]? = some (.slice hd.1 x.writes.length hd.2)) := by show _ = _; rw [← (blk_read hcur).1 (C * 5 + 3)]; exact c3
  have HNC : Hid (some gc ≠ (Value.slice hd.1 x.writes.length hd.2).ownBlock) := own_ne (HS2.out.writes HX.out HD.out) hcur (by decide)
  clear hw0 hput h6 hk hcur
  go_upto_region 11 with (fail)
  go_cut [] (fun wx => Site wx base gs gw gc C (setC M C { x with writes := x.writes.take k ++ ⟨key, val⟩ :: x.writes.drop k }) ∧ Keeps [76, 58] base w2 wx)
  case first =>
    go_region_law
      ((go_simp; go_at_call 57; refine (WriteIns.insert_any hd.1 x.writes.length hd.2 w2.heap.size k (writeCells x.writes) (MWrite.cells ⟨key, val⟩) base _ (by exact (HS2.out.writes HX.out HD.out).alloc _) writeCells_one (by omega) (by simp; omega) hbi rfl (by intro u hu; simp [MWrite.cells] at hu; rcases hu with rfl | rfl <;> rfl) (by exact blk_new _ _ _) (by exact HNN.out)).mono ?_; rintro e w3 ⟨A3, c3', rfl, hown3, hgr, hat⟩; obtain ⟨hcs3, hfs3⟩ := blk_read (blk_grown (by exact blk_old HS2.out.site _) hgr HNS.out); obtain ⟨hcc3, hfc3⟩ := blk_read (blk_grown (by exact blk_old HCU.out _) hgr HNC.out); have hc33 := (hcc3 (C * 5 + 3)).trans HC3.out; clear hcc3))
    all_goals
      go_wp2_with fail
      go_meet
      have hfin := HS2.out.insertWrite (q := ⟨key, val⟩) HX.out HD.out (((Keeps.refl [] base w2).alloc _ hbase).drew) hbi (by simp) hgr hown3 (by simpa using hat)
      exact ⟨hfin.1.any, hfin.2⟩
  case rest =>
    go_wp2_with fail
    go_ret
    rw [HE.out]
    exact ⟨rfl, hcut.1, hcut.2.blk (blk_keep HL2.out HGO.out (blk_lt HGO.out)) (by decide), (Keeps.of_below HL2.out (Nat.le_refl _) HS.out.size).trans (hcut.2.wide (by simp))⟩
end Go.Proofs.Ytniomgngiiiklab
