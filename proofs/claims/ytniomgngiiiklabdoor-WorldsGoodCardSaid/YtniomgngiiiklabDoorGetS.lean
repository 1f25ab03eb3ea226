/- The walk of (*site).get. -/
import Derived.Test.YtniomgngiiiklabDoorStepS
import Derived.Test.YtniomgngiiiklabDoorRead
import Derived.Test.YtniomgngiiiklabDoorSearchW
namespace Go.Proofs.YtniomgngiiiklabDoor
open Go.RowKit

set_option maxRecDepth 100000 in
set_option maxHeartbeats 4000000 in
theorem site_get_any (key : ByteArray) (base gs gw gc C go : Nat) (M : MWorld) (x : MClient) (w : World) (hS : Site w base gs gw gc C M) (hg : WorldGood M) (hx : M.clients[C]? = some x)
    (hgo : w.heap[go]? = some (.cells (ansCells zeroAns) 66 (0, 0))) (hbo : base ≤ go) :
    Calls Tryd.prog 58 #[.pointer (some ⟨gs, 0, none⟩), .string key, .pointer (some ⟨go, 0, none⟩)] w (ActRes w base gs gw gc C go M (getM M x key).2.2 { zeroAns with value := (getM M x key).1, is := (getM M x key).2.1 }) := by
  obtain ⟨A, n, c, m, c', H, H', hS⟩ := hS
  obtain ⟨_, hd, _, hhd, _⟩ := hS.parts
  obtain ⟨hwk, hwl⟩ := good_writes hg (List.mem_of_getElem? hx)
  have HWG := Lib.hid (writes_good (hg.clients x (List.mem_of_getElem? hx))).2
  have HS := Lib.hid hS
  have HG := Lib.hid hg
  have HX := Lib.hid hx
  have HD := Lib.hid hhd
  have HWK := Lib.hid hwk
  have HBO := Lib.hid hbo
  have HGO : Hid (w.heap[go]? = some (.cells #[.int .i64 0, .bool false, .string ⟨#[]⟩, .int .i64 0, .int .i64 0] 66 (0, 0))) := hgo
  have hn := hS.rows.1
  clear hS hg hx hhd hwk hgo hbo
  go_enter Tryd.func58, Tryd.ntmps58
  go_wp2_with fail
  refine (key_any key _).mono ?_
  rintro e w1 ⟨rfl, hb⟩
  have HL := Lib.hid hb
  have HS1 := Lib.hid (HS.out.below hb (Nat.le_refl _))
  have HO1 := Lib.hid (blk_keep hb HGO.out (blk_lt HGO.out))
  clear hb
  cases hk : keyB key
  · have HE : Hid (getM M x key = (⟨#[]⟩, false, 4)) := by show _ = _; unfold getM; rw [if_pos hk]
    clear hk
    go_wp2_with fail
    go_ret
    rw [HE.out]
    exact ⟨rfl, HS1.out.any, HO1.out, Keeps.of_below HL.out (Nat.le_refl _) HS.out.size⟩
  have HK := Lib.hid hk
  clear hk
  obtain ⟨hcs, hfs⟩ := blk_read HS1.out.site
  obtain ⟨c0, c1, c2, c3, c4⟩ := HS1.out.cells HX.out HD.out
  go_wp2_with fail
  refine (bsWrites_any _ (.inl rfl) x.writes key hd.1 x.writes.length hd.2 w1 (WritesOk.own (HS1.out.writes HX.out HD.out) (by omega) HWK.out) HWG.out.2).mono ?_
  rintro e w2 ⟨rfl, hb⟩
  have HS2 := Lib.hid (HS1.out.below hb (Nat.le_refl _))
  have HO2 := Lib.hid (blk_keep hb HO1.out (blk_lt HO1.out))
  have HL2 := Lib.hid (HL.out.trans (hb.mono HL.out.size))
  clear hb hcs hfs c0 c1 c2 c3 c4
  obtain ⟨hcs, hfs⟩ := blk_read HS2.out.site
  obtain ⟨hcw, hfw⟩ := blk_read HS2.out.world
  obtain ⟨hco, hfo⟩ := blk_read HO2.out
  obtain ⟨c0, c1, c2, c3, c4⟩ := HS2.out.cells HX.out HD.out
  cases hB : bsB MWrite.key x.writes key
  rotate_left
  · have hne : x.writes[bsI MWrite.key x.writes key]?.isSome = true := by
      unfold bsB at hB
      cases h : x.writes[bsI MWrite.key x.writes key]? with
      | none => rw [h] at hB; cases hB
      | some r => rfl
    obtain ⟨y, hy⟩ := Option.isSome_iff_exists.1 hne
    have hyk : y.key = key := by unfold bsB at hB; rw [hy] at hB; simpa using hB
    obtain ⟨hw0, _⟩ := wsearch_there HWG.out.2 hy hyk
    have HE : Hid (getM M x key = (y.value, true, 0)) := by show _ = _; unfold getM; rw [if_neg (by rw [HK.out]; decide), hw0]
    obtain ⟨k, hk⟩ : ∃ k, k = bsI MWrite.key x.writes key := ⟨_, rfl⟩
    rw [← hk] at hy ⊢
    have hkn : k < x.writes.length := (List.getElem?_eq_some_iff.1 hy).1
    obtain ⟨ga, hga, hzga, ha1⟩ := own_cell (HS2.out.writes HX.out HD.out) (writeCells_at x.writes k 1 y _ hy rfl)
    rw [hga] at c3
    clear hne hy hyk hw0 hk hga
    go_wp2_with fail
    go_ret
    rw [HE.out]
    have hk1 : Keeps [66] base w2 (w2.setCell ⟨go, 2, none⟩ (.string y.value)) := (Keeps.refl _ _ _).set HO2.out (by simp) HBO.out _
    have hB1 := blk_set HO2.out 2 (.string y.value)
    have hk2 : Keeps [66] base w2 ((w2.setCell ⟨go, 2, none⟩ (.string y.value)).setCell ⟨go, 1, none⟩ (.bool true)) := hk1.set hB1 (by simp) HBO.out _
    exact ⟨rfl, (HS2.out.keep hk2 ⟨by decide, by decide, by decide, by decide, by decide, by decide⟩).any, by simpa [ansCells, zeroAns] using blk_set hB1 1 (.bool true), (Keeps.of_below HL2.out (Nat.le_refl _) HS.out.size).trans (hk2.wide (by simp))⟩
  obtain ⟨hw0, _⟩ := wsearch_not HWG.out.2 hB
  have HE0 : Hid (getM M x key = match rowAt M.rows key with | none => (⟨#[]⟩, false, 0) | some r => readF r x.start) := by show _ = _; unfold getM; rw [if_neg (by rw [HK.out]; decide), hw0]; rfl
  clear hw0
  go_wp2_with fail
  refine (find_rows_any M.rows key A n c w2 (HS2.out.rows.ok HG.out.rows.sized) HG.out.rows.sorted).mono ?_
  rintro e w3 ⟨rfl, hb⟩
  have HS3 := Lib.hid (HS2.out.below hb (Nat.le_refl _))
  have HO3 := Lib.hid (blk_keep hb HO2.out (blk_lt HO2.out))
  have HL3 := Lib.hid (HL2.out.trans (hb.mono HL2.out.size))
  clear hb hcs hfs hcw hfw hco hfo c0 c1 c2 c3 c4
  cases hB : bsB MRow.key M.rows key
  · obtain ⟨hr0, _⟩ := search_not HG.out.rows.sorted hB
    have HE : Hid (getM M x key = (⟨#[]⟩, false, 0)) := by show _ = _; rw [HE0.out, hr0]
    clear hr0
    go_wp2_with fail
    go_ret
    rw [HE.out]
    exact ⟨rfl, HS3.out.any, HO3.out, Keeps.of_below HL3.out (Nat.le_refl _) HS.out.size⟩
  have hne : M.rows[bsI MRow.key M.rows key]?.isSome = true := by
    unfold bsB at hB
    cases h : M.rows[bsI MRow.key M.rows key]? with
    | none => rw [h] at hB; cases hB
    | some r => rfl
  obtain ⟨r, hr⟩ := Option.isSome_iff_exists.1 hne
  have hrk : r.key = key := by unfold bsB at hB; rw [hr] at hB; simpa using hB
  obtain ⟨hr0, _⟩ := search_there HG.out.rows.sorted hr hrk
  have HE : Hid (getM M x key = readF r x.start) := by show _ = _; rw [HE0.out, hr0]
  obtain ⟨k, hk⟩ : ∃ k, k = bsI MRow.key M.rows key := ⟨_, rfl⟩
  rw [← hk] at hr ⊢
  have hkn : k < n := by have := (List.getElem?_eq_some_iff.1 hr).1; omega
  obtain ⟨g, A', d', rfl, hzg, hok, g0, g1, g2, g3, g4⟩ := HS3.out.rows.row HG.out.rows.sized hr
  have HOK := Lib.hid hok
  obtain ⟨hcs, hfs⟩ := blk_read HS3.out.site
  obtain ⟨hcw, hfw⟩ := blk_read HS3.out.world
  obtain ⟨hco, hfo⟩ := blk_read HO3.out
  obtain ⟨c0, c1, c2, c3, c4⟩ := HS3.out.cells HX.out HD.out
  clear hne hr hrk hr0 hok hk
  have hk0 : (0 : Int) ≤ (k : Int) := by omega
  have hki : (k : Int) < (n : Int) := by omega
  go_upto_region 11 with (fail)
  generalize hrd : readF r x.start = rd
  have HRD := Lib.hid hrd
  clear hrd
  obtain ⟨rv, rb, re⟩ := rd
  go_cut [11] (fun ve wx => ve = .int .i64 re ∧ SiteAt wx base gs gw gc C M (some ⟨g, 0, none⟩) n c m c' H H' ∧ wx.heap[go]? = some (.cells #[.int .i64 0, .bool rb, .string rv, .int .i64 0, .int .i64 0] 66 (0, 0)) ∧ Keeps [66] base w wx)
  case first =>
    go_region_law
      ((go_simp; go_at_call 24; refine (read_any r x.start A' r.recs.length d' _ (by exact (HOK.out.below ((Below.refl _ w3).drew) (Nat.le_refl _)).recs.at_) HOK.out.recs.small).mono ?_; rintro e w4 ⟨rfl, hb⟩; rw [HRD.out]; unfold readVal; have hb' : Below w3.heap.size w3 w4 := ((Below.refl _ w3).drew).trans hb; obtain ⟨hco4, hfo4⟩ := blk_read (blk_keep hb' HO3.out (blk_lt HO3.out)); have hcs4 := (blk_read (HS3.out.below hb' (Nat.le_refl _)).site).1; have hcw4 := (blk_read (HS3.out.below hb' (Nat.le_refl _)).world).1))
    all_goals
      go_wp2_with fail
      go_meet
      have hB0 := blk_keep hb' HO3.out (blk_lt HO3.out)
      have hk0 : Keeps [66] base w w4 := (Keeps.of_below HL3.out (Nat.le_refl _) HS.out.size).trans (Keeps.of_below hb' (Nat.le_refl _) HS3.out.size)
      have hB1 := blk_set hB0 2 (.string rv)
      have hk1 : Keeps [66] base w4 ((w4.setCell ⟨go, 2, none⟩ (.string rv)).setCell ⟨go, 1, none⟩ (.bool rb)) := ((Keeps.refl _ _ _).set hB0 (by simp) HBO.out _).set hB1 (by simp) HBO.out _
      exact ⟨rfl, (HS3.out.below hb' (Nat.le_refl _)).keep hk1 ⟨by decide, by decide, by decide, by decide, by decide, by decide⟩, by simpa using blk_set hB1 1 (.bool rb), hk0.trans hk1⟩
  case rest =>
    obtain ⟨rfl, hS4, hB4, hk4⟩ := hcut
    have HS4 := Lib.hid hS4
    have HB4 := Lib.hid hB4
    have HK4 := Lib.hid hk4
    clear hS4 hB4 hk4 hcs hfs hcw hfw hco hfo c0 c1 c2 c3 c4 g0 g1 g2 g3 g4
    go_wp2_with fail
    go_ret
    rw [HE.out, HRD.out]
    exact ⟨rfl, HS4.out.any, HB4.out, HK4.out.wide (by simp)⟩
end Go.Proofs.YtniomgngiiiklabDoor
