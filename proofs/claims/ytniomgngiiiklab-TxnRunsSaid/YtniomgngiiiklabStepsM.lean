/- The walk of (*site).get. -/
import Derived.Test.YtniomgngiiiklabStepSM
import Derived.Test.YtniomgngiiiklabRowsBM
import Derived.Test.YtniomgngiiiklabSearchWM
namespace Go.Proofs.Ytniomgngiiiklab
open Go.RowKit

set_option maxRecDepth 100000 in
set_option maxHeartbeats 4000000 in
theorem site_get_any (key : ByteArray) (base gs gw gc C go : Nat) (M : MWorld) (x : MClient) (w : World) (hS : Site w base gs gw gc C M) (hg : WorldGood M) (hx : M.clients[C]? = some x)
    (hgo : w.heap[go]? = some (.cells (ansCells zeroAns) 41 (0, 0))) (hbo : base ≤ go) :
    Calls Try.prog 24 #[.pointer (some ⟨gs, 0, none⟩), .string key, .pointer (some ⟨go, 0, none⟩)] w (ActRes w base gs gw gc C go M (getM M x key).2.2 { zeroAns with value := (getM M x key).1, is := (getM M x key).2.1 }) := by
  obtain ⟨A, n, c, m, c', H, H', hS⟩ := hS
  obtain ⟨_, hd, _, hhd, _⟩ := hS.parts
  obtain ⟨hwk, hwl⟩ := good_writes hg (List.mem_of_getElem? hx)
  have HWG := Lib.hid (writes_good (hg.clients x (List.mem_of_getElem? hx))).2
  have HS := Lib.hid hS
  have HG := Lib.hid hg
  have HX := Lib.hid hx
  have HD := Lib.hid hhd
  have HWK := Lib.hid hwk
  have HBO := Lib.hid hbo
  have HGO : Hid (w.heap[go]? = some (.cells #[.int .i64 0, .bool false, .string ⟨#[]⟩, .int .i64 0, .int .i64 0] 41 (0, 0))) := hgo
  have hn := hS.rows.1
  clear hS hg hx hhd hwk hgo hbo
  go_enter Try.func24, Try.ntmps24
  go_wp2_with fail
  refine (key_any key _).mono ?_
  rintro e w1 ⟨rfl, hb⟩
  have HL := Lib.hid hb
  have HS1 := Lib.hid (HS.out.below hb (Nat.le_refl _))
  have HO1 := Lib.hid (blk_keep hb HGO.out (blk_lt HGO.out))
  clear hb
  cases hk : keyB key
  · have HE : Hid (getM M x key = (⟨#[]⟩, false, 4)) := by show _ = _; unfold getM; rw [if_pos hk]
    clear hk
    go_wp2_with fail
    go_ret
    rw [HE.out]
    exact ⟨rfl, HS1.out.any, HO1.out, Keeps.of_below HL.out (Nat.le_refl _) HS.out.size⟩
  have HK := Lib.hid hk
  clear hk
  obtain ⟨hcs, hfs⟩ := blk_read HS1.out.site
  obtain ⟨c0, c1, c2, c3, c4⟩ := HS1.out.cells HX.out HD.out
  go_wp2_with fail
  refine (bsWrites_any _ (.inl rfl) x.writes key hd.1 x.writes.length hd.2 w1 (WritesOk.own (HS1.out.writes HX.out HD.out) (by omega) HWK.out) HWG.out.2).mono ?_
  rintro e w2 ⟨rfl, hb⟩
  have HS2 := Lib.hid (HS1.out.below hb (Nat.le_refl _))
  have HO2 := Lib.hid (blk_keep hb HO1.out (blk_lt HO1.out))
  have HL2 := Lib.hid (HL.out.trans (hb.mono HL.out.size))
  clear hb hcs hfs c0 c1 c2 c3 c4
  obtain ⟨hcs, hfs⟩ := blk_read HS2.out.site
  obtain ⟨hcw, hfw⟩ := blk_read HS2.out.world
  obtain ⟨hco, hfo⟩ := blk_read HO2.out
  obtain ⟨c0, c1, c2, c3, c4⟩ := HS2.out.cells HX.out HD.out
  cases hB : bsB MWrite.key x.writes key
  rotate_left
  · have hne : x.writes[bsI MWrite.key x.writes key]?.isSome = true := by
      unfold bsB at hB
      cases h : x.writes[bsI MWrite.key x.writes key]? with
      | none => rw [h] at hB; cases hB
      | some r => rfl
    obtain ⟨y, hy⟩ := Option.isSome_iff_exists.1 hne
    have hyk : y.key = key := by unfold bsB at hB; rw [hy] at hB; simpa using hB
    obtain ⟨hw0, _⟩ := wsearch_there HWG.out.2 hy hyk
    have HE : Hid (getM M x key = (y.value, true, 0)) := by show _ = _; unfold getM; rw [if_neg (by rw [HK.out]; decide), hw0]
    obtain ⟨k, hk⟩ : ∃ k, k = bsI MWrite.key x.writes key := ⟨_, rfl⟩
    rw [← hk] at hy ⊢
    have hkn : k < x.writes.length := (List.getElem?_eq_some_iff.1 hy).1
    obtain ⟨ga, hga, hzga, ha1⟩ := own_cell (HS2.out.writes HX.out HD.out) (writeCells_at x.writes k 1 y _ hy rfl)
    rw [hga] at c3
    clear hne hy hyk hw0 hk hga
    go_wp2_with fail
    go_ret
    rw [HE.out]
    have hk1 : Keeps [41] base w2 (w2.setCell ⟨go, 2, none⟩ (.string y.value)) := (Keeps.refl _ _ _).set HO2.out (by simp) HBO.out _
    have hB1 := blk_set HO2.out 2 (.string y.value)
    have hk2 : Keeps [41] base w2 ((w2.setCell ⟨go, 2, none⟩ (.string y.value)).setCell ⟨go, 1, none⟩ (.bool true)) := hk1.set hB1 (by simp) HBO.out _
    exact ⟨rfl, (HS2.out.keep hk2 ⟨by decide, by decide, by decide, by decide, by decide, by decide⟩).any, by simpa [ansCells, zeroAns] using blk_set hB1 1 (.bool true), (Keeps.of_below HL2.out (Nat.le_refl _) HS.out.size).trans (hk2.wide (by simp))⟩
  obtain ⟨hw0, _⟩ := wsearch_not HWG.out.2 hB
  have HE0 : Hid (getM M x key = match rowAt M.rows key with | none => (⟨#[]⟩, false, 0) | some r => readF r x.start) := by show _ = _; unfold getM; rw [if_neg (by rw [HK.out]; decide), hw0]; rfl
  clear hw0
  go_wp2_with fail
  refine (find_rows_any M.rows key A n c w2 (HS2.out.rows.ok HG.out.rows.sized) HG.out.rows.sorted).mono ?_
  rintro e w3 ⟨rfl, hb⟩
  have HS3 := Lib.hid (HS2.out.below hb (Nat.le_refl _))
  have HO3 := Lib.hid (blk_keep hb HO2.out (blk_lt HO2.out))
  have HL3 := Lib.hid (HL2.out.trans (hb.mono HL2.out.size))
  clear hb hcs hfs hcw hfw hco hfo c0 c1 c2 c3 c4
  cases hB : bsB MRow.key M.rows key
  · obtain ⟨hr0, _⟩ := search_not HG.out.rows.sorted hB
    have HE : Hid (getM M x key = (⟨#[]⟩, false, 0)) := by show _ = _; rw [HE0.out, hr0]
    clear hr0
    go_wp2_with fail
    go_ret
    rw [HE.out]
    exact ⟨rfl, HS3.out.any, HO3.out, Keeps.of_below HL3.out (Nat.le_refl _) HS.out.size⟩
  have hne : M.rows[bsI MRow.key M.rows key]?.isSome = true := by
    unfold bsB at hB
    cases h : M.rows[bsI MRow.key M.rows key]? with
    | none => rw [h] at hB; cases hB
    | some r => rfl
  obtain ⟨r, hr⟩ := Option.isSome_iff_exists.1 hne
  have hrk : r.key = key := by unfold bsB at hB; rw [hr] at hB; simpa using hB
  obtain ⟨hr0, _⟩ := search_there HG.out.rows.sorted hr hrk
  have HE : Hid (getM M x key = readF r x.start) := by show _ = _; rw [HE0.out, hr0]
  obtain ⟨k, hk⟩ : ∃ k, k = bsI MRow.key M.rows key := ⟨_, rfl⟩
  rw [← hk] at hr ⊢
  have hkn : k < n := by have := (List.getElem?_eq_some_iff.1 hr).1; omega
  obtain ⟨g, A', d', rfl, hzg, hok, g0, g1, g2, g3, g4⟩ := HS3.out.rows.row HG.out.rows.sized hr
  have HOK := Lib.hid hok
  obtain ⟨hcs, hfs⟩ := blk_read HS3.out.site
  obtain ⟨hcw, hfw⟩ := blk_read HS3.out.world
  obtain ⟨hco, hfo⟩ := blk_read HO3.out
  obtain ⟨c0, c1, c2, c3, c4⟩ := HS3.out.cells HX.out HD.out
  clear hne hr hrk hr0 hok hk
  have hk0 : (0 : Int) ≤ (k : Int) := by omega
  have hki : (k : Int) < (n : Int) := by omega
  go_upto_region 11 with (fail)
  generalize hrd : readF r x.start = rd
  have HRD := Lib.hid hrd
  clear hrd
  obtain ⟨rv, rb, re⟩ := rd
  go_cut [11] (fun ve wx => ve = .int .i64 re ∧ SiteAt wx base gs gw gc C M (some ⟨g, 0, none⟩) n c m c' H H' ∧ wx.heap[go]? = some (.cells #[.int .i64 0, .bool rb, .string rv, .int .i64 0, .int .i64 0] 41 (0, 0)) ∧ Keeps [41] base w wx)
  case first =>
    go_region_law
      ((go_simp; go_at_call 55; refine (read_any r x.start A' r.recs.length d' _ (by exact (HOK.out.below ((Below.refl _ w3).drew) (Nat.le_refl _)).recs.at_) HOK.out.recs.small).mono ?_; rintro e w4 ⟨rfl, hb⟩; rw [HRD.out]; unfold readVal; have hb' : Below w3.heap.size w3 w4 := ((Below.refl _ w3).drew).trans hb; obtain ⟨hco4, hfo4⟩ := blk_read (blk_keep hb' HO3.out (blk_lt HO3.out)); have hcs4 := (blk_read (HS3.out.below hb' (Nat.le_refl _)).site).1; have hcw4 := (blk_read (HS3.out.below hb' (Nat.le_refl _)).world).1))
    all_goals
      go_wp2_with fail
      go_meet
      have hB0 := blk_keep hb' HO3.out (blk_lt HO3.out)
      have hk0 : Keeps [41] base w w4 := (Keeps.of_below HL3.out (Nat.le_refl _) HS.out.size).trans (Keeps.of_below hb' (Nat.le_refl _) HS3.out.size)
      have hB1 := blk_set hB0 2 (.string rv)
      have hk1 : Keeps [41] base w4 ((w4.setCell ⟨go, 2, none⟩ (.string rv)).setCell ⟨go, 1, none⟩ (.bool rb)) := ((Keeps.refl _ _ _).set hB0 (by simp) HBO.out _).set hB1 (by simp) HBO.out _
      exact ⟨rfl, (HS3.out.below hb' (Nat.le_refl _)).keep hk1 ⟨by decide, by decide, by decide, by decide, by decide, by decide⟩, by simpa using blk_set hB1 1 (.bool rb), hk0.trans hk1⟩
  case rest =>
    obtain ⟨rfl, hS4, hB4, hk4⟩ := hcut
    have HS4 := Lib.hid hS4
    have HB4 := Lib.hid hB4
    have HK4 := Lib.hid hk4
    clear hS4 hB4 hk4 hcs hfs hcw hfw hco hfo c0 c1 c2 c3 c4 g0 g1 g2 g3 g4
    go_wp2_with fail
    go_ret
    rw [HE.out, HRD.out]
    exact ⟨rfl, HS4.out.any, HB4.out, HK4.out.wide (by simp)⟩
end Go.Proofs.Ytniomgngiiiklab

/- The walk of (*site).resolve. -/
namespace Go.Proofs.Ytniomgngiiiklab
open Go.RowKit

theorem undoAt_miss {l : List MRow} {k : ByteArray} {st : Int} (h : (undoAt l k st).2 ≠ 0) : (undoAt l k st).1 = l := atRow_miss h

set_option maxRecDepth 100000 in
set_option maxHeartbeats 4000000 in
theorem site_resolve_any (key : ByteArray) (base gs gw gc C go : Nat) (o : MAns) (M : MWorld) (w : World) (hS : Site w base gs gw gc C M) (hg : WorldGood M)
    (hgo : w.heap[go]? = some (.cells (ansCells o) 41 (0, 0))) :
    Calls Try.prog 27 #[.pointer (some ⟨gs, 0, none⟩), .string key] w (ActRes w base gs gw gc C go { M with rows := (resolveR M.rows key).1 } (resolveR M.rows key).2 o) := by
  obtain ⟨A, n, c, m, c', H, H', hS⟩ := hS
  have HS := Lib.hid hS
  have HG := Lib.hid hg
  have HGO := Lib.hid hgo
  have hn := hS.rows.1
  clear hS hg hgo
  go_enter Try.func27, Try.ntmps27
  go_wp2_with fail
  refine (key_any key _).mono ?_
  rintro e w1 ⟨rfl, hb⟩
  have HL := Lib.hid hb
  have HS1 := Lib.hid (HS.out.below hb (Nat.le_refl _))
  have HO1 := Lib.hid (blk_keep hb HGO.out (blk_lt HGO.out))
  clear hb
  cases hk : keyB key
  · have HE : Hid (resolveR M.rows key = (M.rows, 4)) := by show _ = _; unfold resolveR; rw [if_pos hk]
    clear hk
    go_wp2_with fail
    go_ret
    rw [HE.out]
    exact ⟨rfl, HS1.out.any, HO1.out, Keeps.of_below HL.out (Nat.le_refl _) HS.out.size⟩
  have HK := Lib.hid hk
  have HKS : Hid (key.size ≤ maxLen) := by show _ ≤ _; have := key_size hk; unfold maxLen; omega
  clear hk
  obtain ⟨hcs, hfs⟩ := blk_read HS1.out.site
  obtain ⟨hcw, hfw⟩ := blk_read HS1.out.world
  go_wp2_with fail
  refine (find_rows_any M.rows key A n c w1 (HS1.out.rows.ok HG.out.rows.sized) HG.out.rows.sorted).mono ?_
  rintro e w2 ⟨rfl, hb⟩
  have HS2 := Lib.hid (HS1.out.below hb (Nat.le_refl _))
  have HO2 := Lib.hid (blk_keep hb HO1.out (blk_lt HO1.out))
  have HL2 := Lib.hid (HL.out.trans (hb.mono HL.out.size))
  clear hb hcs hfs hcw hfw
  cases hB : bsB MRow.key M.rows key
  · obtain ⟨hr0, _⟩ := search_not HG.out.rows.sorted hB
    have HE : Hid (resolveR M.rows key = (M.rows, 5)) := by show _ = _; unfold resolveR; rw [if_neg (by rw [HK.out]; decide), hr0]
    clear hr0
    go_wp2_with fail
    go_ret
    rw [HE.out]
    exact ⟨rfl, HS2.out.any, HO2.out, Keeps.of_below HL2.out (Nat.le_refl _) HS.out.size⟩
  have hne : M.rows[bsI MRow.key M.rows key]?.isSome = true := by
    unfold bsB at hB
    cases h : M.rows[bsI MRow.key M.rows key]? with
    | none => rw [h] at hB; cases hB
    | some r => rfl
  obtain ⟨r, hr⟩ := Option.isSome_iff_exists.1 hne
  have hrk : r.key = key := by unfold bsB at hB; rw [hr] at hB; simpa using hB
  obtain ⟨hr0, _⟩ := search_there HG.out.rows.sorted hr hrk
  have HE0 : Hid (resolveR M.rows key = if r.ls = 0 then (M.rows, 5) else if (statusAt M.rows r.lp r.ls).1 = 2 then atRow M.rows key (fun q => commitRow q r.ls (statusAt M.rows r.lp r.ls).2) (fun q => commitCode q r.ls (statusAt M.rows r.lp r.ls).2)
      else if (undoAt M.rows r.lp r.ls).2 ≠ 0 then (M.rows, (undoAt M.rows r.lp r.ls).2) else undoAt (undoAt M.rows r.lp r.ls).1 key r.ls) := by show _ = _; unfold resolveR; rw [if_neg (by rw [HK.out]; decide), hr0]
  obtain ⟨k, hk⟩ : ∃ k, k = bsI MRow.key M.rows key := ⟨_, rfl⟩
  rw [← hk] at hr ⊢
  have hkn : k < n := by have := (List.getElem?_eq_some_iff.1 hr).1; omega
  have hmem := HG.out.rows.each r (List.mem_of_getElem? hr)
  have HLP := Lib.hid hmem.1.small.2.2
  have HLC := Lib.hid hmem.2.1
  obtain ⟨g, A', d', rfl, hzg, hok, g0, g1, g2, g3, g4⟩ := HS2.out.rows.row HG.out.rows.sized hr
  obtain ⟨hcs, hfs⟩ := blk_read HS2.out.site
  obtain ⟨hcw, hfw⟩ := blk_read HS2.out.world
  clear hne hr hrk hr0 hok hk hmem
  by_cases h0 : r.ls = 0
  · have HE : Hid (resolveR M.rows key = (M.rows, 5)) := by show _ = _; rw [HE0.out, if_pos h0]
    rw [h0] at g1
    clear h0
    go_wp2_with fail
    go_ret
    rw [HE.out]
    exact ⟨rfl, HS2.out.any, HO2.out, Keeps.of_below HL2.out (Nat.le_refl _) HS.out.size⟩
  have h00 : (r.ls == 0) = false := by simpa using h0
  have HE1 : Hid (resolveR M.rows key = if (statusAt M.rows r.lp r.ls).1 = 2 then atRow M.rows key (fun q => commitRow q r.ls (statusAt M.rows r.lp r.ls).2) (fun q => commitCode q r.ls (statusAt M.rows r.lp r.ls).2)
      else if (undoAt M.rows r.lp r.ls).2 ≠ 0 then (M.rows, (undoAt M.rows r.lp r.ls).2) else undoAt (undoAt M.rows r.lp r.ls).1 key r.ls) := by show _ = _; rw [HE0.out, if_neg h0]
  clear h0 HE0
  go_upto_region 7 with (fail)
  obtain ⟨v, hv⟩ : ∃ v, v = w2.alloc (.cells #[.int .i64 r.ls, .string r.lp] 23) := ⟨_, rfl⟩
  rw [← hv]
  have hbv : Below w2.heap.size w2 v := by rw [hv]; exact (Below.refl _ _).alloc (Nat.le_refl _) _
  have HB3 : Hid (v.heap[w2.heap.size]? = some (.cells #[.int .i64 r.ls, .string r.lp] 23 (0, 0))) := by show _ = _; rw [hv]; exact blk_new _ _ _
  have HS3 := Lib.hid (HS2.out.below hbv (Nat.le_refl _))
  have HO3 := Lib.hid (blk_keep hbv HO2.out (blk_lt HO2.out))
  have HL3 := Lib.hid (HL2.out.trans (hbv.mono HL2.out.size))
  clear hv hbv hcs hfs hcw hfw g0 g1 g2 g3 g4 hzg h00
  obtain ⟨gl, hgl⟩ : ∃ gl, gl = w2.heap.size := ⟨_, rfl⟩
  rw [← hgl] at HB3 ⊢
  clear hgl
  obtain ⟨hcl, hfl⟩ := blk_read HB3.out
  go_wp2_with fail
  refine (site_status_any M.clock r.lp r.ls base gs gw gc C M v HS3.out.any HG.out.rows).mono ?_
  rintro e w4 ⟨rfl, hb⟩
  generalize hst : statusAt M.rows r.lp r.ls = st
  rw [hst] at HE1
  clear hst
  obtain ⟨s, cm⟩ := st
  dsimp only at HE1 ⊢
  have HS4 := Lib.hid (HS3.out.below hb (Nat.le_refl _))
  have HO4 := Lib.hid (blk_keep hb HO3.out (blk_lt HO3.out))
  have HB4 := Lib.hid (blk_keep hb HB3.out (blk_lt HB3.out))
  have HL4 := Lib.hid (HL3.out.trans (hb.mono HL3.out.size))
  clear hb hcl hfl
  obtain ⟨hcl, hfl⟩ := blk_read HB4.out
  have hzl := blk_lt HB4.out
  by_cases h2 : s = 2
  · subst h2
    have HE : Hid (resolveR M.rows key = atRow M.rows key (fun q => commitRow q r.ls cm) (fun q => commitCode q r.ls cm)) := by show _ = _; rw [HE1.out, if_pos rfl]
    clear HE1
    go_wp2_with fail
    obtain ⟨v5, hv5⟩ : ∃ v5, v5 = w4.alloc (.cells #[.int .i64 cm] 3) := ⟨_, rfl⟩
    rw [← hv5]
    have hbv : Below w4.heap.size w4 v5 := by rw [hv5]; exact (Below.refl _ _).alloc (Nat.le_refl _) _
    have HM5 : Hid (v5.heap[w4.heap.size]? = some (.cells #[.int .i64 cm] 3 (0, 0))) := by show _ = _; rw [hv5]; exact blk_new _ _ _
    have HS5 := Lib.hid (HS4.out.below hbv (Nat.le_refl _))
    have HO5 := Lib.hid (blk_keep hbv HO4.out (blk_lt HO4.out))
    have HB5 := Lib.hid (blk_keep hbv HB4.out (blk_lt HB4.out))
    have HL5 := Lib.hid (HL4.out.trans (hbv.mono HL4.out.size))
    clear hv5 hbv hcl hfl
    obtain ⟨hcl, hfl⟩ := blk_read HB5.out
    obtain ⟨hcm, hfm⟩ := blk_read HM5.out
    have hzl := blk_lt HB5.out
    have hzm := blk_lt HM5.out
    refine (site_at_any 62 _ (.inr (.inr (.inr ⟨rfl, _, _, rfl⟩))) (fun q => commitRow q r.ls cm) (fun q => commitCode q r.ls cm) (fun q hq => commitRow_key hq) M.clock key HKS.out base gs gw gc C M _ HS5.out.any HG.out.rows (fun q A n c W hb hr => ?hp)).mono ?_
    case hp => exact resolve1_any q gl w4.heap.size r.ls cm A n c W hr (Nat.lt_of_lt_of_le hzl hb.size) (Nat.lt_of_lt_of_le hzm hb.size) ((hb.cell (p := ⟨gl, 0, none⟩) hzl).trans (by simpa using hcl 0)) ((hb.cell (p := ⟨w4.heap.size, 0, none⟩) hzm).trans (by simpa using hcm 0))
    rintro e w6 ⟨rfl, hS6, hk6⟩
    have HS6 := Lib.hid hS6
    have HK6 := Lib.hid hk6
    clear hS6 hk6 hcl hfl hcm hfm
    go_wp2_with fail
    go_ret
    rw [HE.out]
    exact ⟨rfl, HS6.out, HK6.out.blk HO5.out (by decide), (Keeps.of_below HL5.out (Nat.le_refl _) HS.out.size).trans (HK6.out.wide (by simp))⟩
  · have h20 : (s == 2) = false := by simpa using h2
    have HE2 : Hid (resolveR M.rows key = if (undoAt M.rows r.lp r.ls).2 ≠ 0 then (M.rows, (undoAt M.rows r.lp r.ls).2) else undoAt (undoAt M.rows r.lp r.ls).1 key r.ls) := by show _ = _; rw [HE1.out, if_neg h2]
    clear HE1 h2
    go_wp2_with fail
    have hb5 : Below w4.heap.size w4 (w4.alloc (.cells #[.int .i64 cm] 3)) := (Below.refl _ _).alloc (Nat.le_refl _) _
    refine (site_undo_any M.clock r.lp r.ls HLP.out base gs gw gc C M _ (HS4.out.any.below hb5 (Nat.le_refl _)) HG.out.rows).mono ?_
    rintro e w6 ⟨rfl, hS6, hk6⟩
    have HK6 : Hid (Keeps [26, 36] base w4 w6) := (Keeps.of_below hb5 (Nat.le_refl _) HS4.out.size).trans hk6
    have HB6 := Lib.hid (HK6.out.blk HB4.out (by decide))
    have HV6 : Hid (RowsVal M.clock (undoAt M.rows r.lp r.ls).1) := undoAt_good HG.out.clock.1 HLC.out HG.out.rows
    have HMISS : Hid ((undoAt M.rows r.lp r.ls).2 ≠ 0 → (undoAt M.rows r.lp r.ls).1 = M.rows) := undoAt_miss
    generalize undoAt M.rows r.lp r.ls = p at hS6 HE2 HV6 HMISS
    obtain ⟨l, code⟩ := p
    dsimp only at hS6 HE2 HV6 HMISS ⊢
    have HS6 := Lib.hid hS6
    clear hS6 hk6 hb5 hcl hfl
    by_cases h0 : code = 0
    rotate_left
    · have h00 : (code != 0) = true := by simpa using h0
      have HE : Hid (resolveR M.rows key = (M.rows, code)) := by show _ = _; rw [HE2.out, if_pos h0]
      have hM := HMISS.out h0
      subst hM
      clear h0
      go_wp2_with fail
      go_ret
      rw [HE.out]
      exact ⟨rfl, HS6.out, HK6.out.blk HO4.out (by decide), (Keeps.of_below HL4.out (Nat.le_refl _) HS.out.size).trans (HK6.out.wide (by simp))⟩
    · subst h0
      have HE : Hid (resolveR M.rows key = undoAt l key r.ls) := by show _ = _; rw [HE2.out, if_neg (by decide)]
      clear HE2 HMISS
      obtain ⟨hcl, hfl⟩ := blk_read HB6.out
      go_wp2_with fail
      refine (site_undo_any M.clock key r.ls HKS.out base gs gw gc C { M with rows := l } _ HS6.out HV6.out).mono ?_
      rintro e w7 ⟨rfl, hS7, hk7⟩
      have HS7 := Lib.hid hS7
      have HK7 := Lib.hid (HK6.out.trans hk7)
      clear hS7 hk7 hcl hfl
      go_wp2_with fail
      go_ret
      rw [HE.out]
      exact ⟨rfl, HS7.out, HK7.out.blk HO4.out (by decide), (Keeps.of_below HL4.out (Nat.le_refl _) HS.out.size).trans (HK7.out.wide (by simp))⟩
end Go.Proofs.Ytniomgngiiiklab
