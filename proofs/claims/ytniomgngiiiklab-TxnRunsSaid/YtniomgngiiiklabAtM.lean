/- The walk of (*site).at: something is done at a row, by whatever closure does it. -/
import Derived.Test.YtniomgngiiiklabOwnsM
import Derived.Test.YtniomgngiiiklabSearchWM
import Derived.Test.YtniomgngiiiklabInsertRowM
import Derived.Test.YtniomgngiiiklabRowsBM
import Derived.Deep.DeepCutAuto
import Derived.StillTailTactics
import Derived.Deep.RegionLaw
import Derived.Outline
import Derived.Deep.CutBlock
namespace Go.Proofs.Ytniomgngiiiklab
open Go.RowKit

/-- One row of rows that are owned. -/
theorem OwnRows.row {w : World} {base n c : Nat} {A : Option Addr} {l : List MRow} {hs : Heads} (h : OwnRows w base A n c l hs) (hz : RowsSized l) {k : Nat} {r : MRow} (hr : l[k]? = some r) :
    ∃ g A' c', A = some ⟨g, 0, none⟩ ∧ g < w.heap.size ∧ RowOk w w.heap.size r A' r.recs.length c' ∧
      w.cell? ⟨g, k * 5, none⟩ = some (.string r.key) ∧ w.cell? ⟨g, k * 5 + 1, none⟩ = some (.int .i64 r.ls) ∧ w.cell? ⟨g, k * 5 + 2, none⟩ = some (.string r.lp) ∧ w.cell? ⟨g, k * 5 + 3, none⟩ = some (.string r.value) ∧ w.cell? ⟨g, k * 5 + 4, none⟩ = some (.slice A' r.recs.length c') := by
  obtain ⟨h1, h2, h3, h4⟩ := h
  have hk : k < l.length := (List.getElem?_eq_some_iff.1 hr).1
  have hh : hs[k]? = some hs[k] := List.getElem?_eq_getElem (by omega)
  have hzr := hz.each r (List.mem_of_getElem? hr)
  obtain ⟨g, hA, hg, _⟩ := own_cell h3 (rowsCells_at hr hh (i := 0) rfl)
  have hc : ∀ i u, (rowCells r hs[k].1 r.recs.length hs[k].2)[i]? = some u → w.cell? ⟨g, k * 5 + i, none⟩ = some u := fun i u hu => by
    obtain ⟨g', hA', _, hc⟩ := own_cell h3 (rowsCells_at hr hh hu)
    rw [hA] at hA'; injection hA' with hA'; injection hA' with hA'
    rw [hA']; exact hc
  exact ⟨g, hs[k].1, hs[k].2, hA, hg, ⟨RecsOk.own (h4 k r _ hr hh) hzr.1, hzr.2.1, hzr.2.2⟩, hc 0 _ rfl, hc 1 _ rfl, hc 2 _ rfl, hc 3 _ rfl, hc 4 _ rfl⟩
theorem emptyRow_ok (w : World) (B : Nat) {k : ByteArray} (hk : k.size ≤ maxLen) : RowOk w B (emptyRow k) none 0 0 :=
  ⟨⟨⟨rfl, fun j r hr => by simp [emptyRow] at hr⟩, Nat.le_refl _, by omega, fun _ => rfl⟩, hk, Nat.zero_le _⟩

def AtRes (w : World) (base gs gw gc C : Nat) (M : MWorld) (p : List MRow × Int) (e : Ending) (w' : World) : Prop :=
  e = .returned (.int .i64 p.2) ∧ Site w' base gs gw gc C { M with rows := p.1 } ∧ Keeps [26, 36] base w w'

set_option maxRecDepth 100000 in
set_option maxHeartbeats 4000000 in
theorem site_at_any (fid : FuncId) (caps : Array Value)
    (hf : (fid = 87 ∧ ∃ p, caps = #[.pointer (some p)]) ∨ (fid = 85 ∧ ∃ p, caps = #[.pointer (some p)]) ∨ (fid = 82 ∧ ∃ p q, caps = #[.pointer (some p), .pointer (some q)]) ∨ (fid = 62 ∧ ∃ p q, caps = #[.pointer (some p), .pointer (some q)]))
    (f : MRow → MRow) (er : MRow → Int) (hkey : ∀ r, er r = 0 → (f r).key = r.key) (clock : Int) (key : ByteArray) (hks : key.size ≤ maxLen) (base gs gw gc C : Nat) (M : MWorld) (w : World) (hS : Site w base gs gw gc C M) (hv : RowsVal clock M.rows)
    (hp : ∀ (r : MRow) (A : Option Addr) (n c : Nat) (W : World), Below w.heap.size w W → RowOk W W.heap.size r A n c →
      Calls Try.prog fid (#[.agg #[.string r.key, .int .i64 r.ls, .string r.lp, .string r.value, .slice A n c]] ++ caps) W (RowRet W (f r) (er r))) :
    Calls Try.prog 61 #[.pointer (some ⟨gs, 0, none⟩), .string key, .func (.func fid) #[] caps] w (AtRes w base gs gw gc C M (atRow M.rows key f er)) := by
  obtain ⟨A, n, c, m, c', H, H', hS⟩ := hS
  have HS := Lib.hid hS
  have HV := Lib.hid hv
  have HK := Lib.hid hkey
  have HKS := Lib.hid hks
  have HP := Lib.hid hp
  have hn := hS.rows.1
  have hn40 := hv.len
  clear hS hv hkey hks hp
  have HF := Lib.hid hf
  clear hf
  obtain ⟨hcs, hfs⟩ := blk_read HS.out.site
  obtain ⟨hcw, hfw⟩ := blk_read HS.out.world
  go_enter Try.func61, Try.ntmps61
  go_wp2_with fail
  refine (find_rows_any M.rows key A n c w (HS.out.rows.ok HV.out.sized) HV.out.sorted).mono ?_
  rintro e w1 ⟨rfl, hb⟩
  have HS1 := Lib.hid (HS.out.below hb (Nat.le_refl _))
  have HL := Lib.hid hb
  clear hb hcs hfs hcw hfw
  obtain ⟨hcs, hfs⟩ := blk_read HS1.out.site
  obtain ⟨hcw, hfw⟩ := blk_read HS1.out.world
  have hzs := blk_lt HS1.out.site
  have hzw := blk_lt HS1.out.world
  have hbase : base ≤ w1.heap.size := HS1.out.size
  cases hB : bsB MRow.key M.rows key
  · obtain ⟨hr0, hput⟩ := search_not HV.out.sorted hB
    have HE : Hid (atRow M.rows key f er = if M.rows.length = 40 then (M.rows, 1) else if er (emptyRow key) = 0 then (putRow M.rows (f (emptyRow key)), 0) else (M.rows, er (emptyRow key))) := by show _ = _; unfold atRow; rw [hr0]
    have HPut := Lib.hid hput
    clear hr0 hput
    by_cases h40 : n = 40
    · have hd : ((n : Int) == 40) = true := by simp; omega
      have HE' : Hid (atRow M.rows key f er = (M.rows, 1)) := by show _ = _; rw [HE.out, if_pos (by omega)]
      clear h40
      go_wp2_with fail
      go_ret
      rw [HE'.out]
      exact ⟨rfl, ⟨A, n, c, m, c', H, H', HS1.out.below ((Below.refl _ _).alloc (Nat.le_refl _) _) (Nat.le_refl _)⟩, (Keeps.of_below HL.out (Nat.le_refl _) HS.out.size).alloc _ hbase⟩
    have hd : ((n : Int) == 40) = false := by simp; omega
    have HN40 := Lib.hid h40
    clear h40
    go_upto_region 7 with (fail)
    go_cut [10, 11] (fun pn ve wx => ∃ bx A2 c2, pn = .pointer (some ⟨bx, 0, none⟩) ∧ ve = .int .i64 (er (emptyRow key)) ∧ SiteAt wx base gs gw gc C M A n c m c' H H' ∧ wx.heap[bx]? = some (.cells #[.string (f (emptyRow key)).key, .int .i64 (f (emptyRow key)).ls, .string (f (emptyRow key)).lp, .string (f (emptyRow key)).value, .slice A2 (f (emptyRow key)).recs.length c2] 26 (0, 0)) ∧
      wx.ownsRow base 55 3 (.slice A2 (f (emptyRow key)).recs.length c2) (f (emptyRow key)).recs.length (recCells (f (emptyRow key)).recs) ∧ Keeps [26, 36] base w wx ∧ some bx ≠ (Value.slice A n c).ownBlock)
    case first =>
      rcases HF.out with ⟨rfl, p, rfl⟩ | ⟨rfl, p, rfl⟩ | ⟨rfl, p, q, rfl⟩ | ⟨rfl, p, q, rfl⟩
      all_goals
        go_wp2_with fail
        refine (HP.out (emptyRow key) none 0 0 _ (HL.out.alloc HL.out.size _) (emptyRow_ok _ _ HKS.out)).mono ?_
        rintro e w2 ⟨A2, c2, rfl, hown, hb⟩
        have hb1 := ((Below.refl w1.heap.size w1).alloc (Nat.le_refl _) (.cells #[.string key, .int .i64 0, .string ⟨#[]⟩, .string ⟨#[]⟩, .slice none 0 0] 26)).trans (hb.mono (by simp))
        have HL2 := Lib.hid (HL.out.trans (hb1.mono HL.out.size))
        have HS2 := Lib.hid (HS1.out.below hb1 (Nat.le_refl _))
        have HO2 := Lib.hid (own_more (base' := base) hown (by simp; omega))
        clear hb hb1 hown
        go_wp2_with fail
        go_meet
        refine ⟨w2.heap.size, A2, c2, rfl, rfl, HS2.out.below ((Below.refl _ _).alloc (Nat.le_refl _) _) (Nat.le_refl _), blk_new _ _ _, HO2.out.alloc _, (Keeps.of_below HL2.out (Nat.le_refl _) HS.out.size).alloc _ HS2.out.size, fun e => ?_⟩
        have := (HS2.out.rows.2.2.1.lt _ e.symm).2
        omega
    case rest =>
      clear hcs hfs hcw hfw hzs hzw hbase
      obtain ⟨bx, A2, c2, rfl, rfl, hS3, hB3, hO3, hK3, hnb⟩ := hcut
      have HS3 := Lib.hid hS3
      have HB3 := Lib.hid hB3
      have HO3 := Lib.hid hO3
      have HK3 := Lib.hid hK3
      have HNB := Lib.hid hnb
      clear hS3 hB3 hO3 hK3 hnb
      by_cases h0 : er (emptyRow key) = 0
      rotate_left
      · have hd0 : (er (emptyRow key) != 0) = true := by simpa using h0
        have HE' : Hid (atRow M.rows key f er = (M.rows, er (emptyRow key))) := by show _ = _; rw [HE.out, if_neg (by have := HN40.out; omega)]; exact if_neg h0
        clear h0
        go_wp2_with fail
        go_ret
        rw [HE'.out]
        exact ⟨rfl, HS3.out.any, HK3.out⟩
      rw [h0]
      have HE' : Hid (atRow M.rows key f er = (putRow M.rows (f (emptyRow key)), 0)) := by show _ = _; rw [HE.out, if_neg (by have := HN40.out; omega)]; exact if_pos h0
      have HKY : Hid ((f (emptyRow key)).key = key) := by show _ = _; rw [HK.out _ h0]; rfl
      clear h0
      generalize f (emptyRow key) = q at HO3 HE' HKY HB3
      obtain ⟨hcs, hfs⟩ := blk_read HS3.out.site
      obtain ⟨hcw, hfw⟩ := blk_read HS3.out.world
      obtain ⟨hcb, hfb⟩ := blk_read HB3.out
      have hzs := blk_lt HS3.out.site
      have hzw := blk_lt HS3.out.world
      have hzb := blk_lt HB3.out
      have hbase := HS3.out.size
      have HNS : Hid (some gs ≠ (Value.slice A n c).ownBlock) := own_ne HS3.out.rows.2.2.1 HS3.out.site (by decide)
      have HNW : Hid (some gw ≠ (Value.slice A n c).ownBlock) := own_ne HS3.out.rows.2.2.1 HS3.out.world (by decide)
      have hbi : bsI MRow.key M.rows key ≤ n := by rw [← hn]; exact bsI_le
      have HNN : Hid (some wc.heap.size ≠ (Value.slice A n c).ownBlock) := fun e => by have := (HS3.out.rows.2.2.1.lt _ e.symm).2; omega
      go_upto_block 0 with (fail)
      go_cut [] (fun wx => Site wx base gs gw gc C { M with rows := putRow M.rows q } ∧ Keeps [26, 36] base w wx)
      case first =>
        go_wp2_with fail
        go_region_law
          ((go_simp; go_at_call 86; refine (RowIns.insert_any A n c wc.heap.size (bsI MRow.key M.rows key) (rowsCells M.rows H) (rowCells q A2 q.recs.length c2) base _ (by exact HS3.out.rows.2.2.1.alloc _) rowsCells_one (by omega) (by simp; omega) hbi rfl rowCells_one (by exact blk_new _ _ _) (by exact HNN.out)).mono ?_; rintro e w3 ⟨A3, c3, rfl, hown3, hgr, hat⟩; obtain ⟨hcs3, hfs3⟩ := blk_read (blk_grown (by exact blk_old HS3.out.site _) hgr HNS.out); obtain ⟨hcw3, hfw3⟩ := blk_read (blk_grown (by exact blk_old HS3.out.world _) hgr HNW.out); obtain ⟨hcb3, hfb3⟩ := blk_read (blk_grown (by exact blk_old HB3.out _) hgr HNB.out)))
        all_goals
          go_wp2_with fail
          go_meet
          have hfin := HS3.out.insert (((Keeps.refl [] base wc).alloc _ hbase).drew) hbi HO3.out hgr hown3
          rw [HPut.out q HKY.out]
          exact ⟨hfin.1.any, HK3.out.trans hfin.2⟩
      case rest =>
        go_wp2_with fail
        go_ret
        rw [HE'.out]
        exact ⟨rfl, hcut.1, hcut.2⟩
  · have hne : M.rows[bsI MRow.key M.rows key]?.isSome = true := by
      unfold bsB at hB
      cases h : M.rows[bsI MRow.key M.rows key]? with
      | none => rw [h] at hB; cases hB
      | some r => rfl
    obtain ⟨r, hr⟩ := Option.isSome_iff_exists.1 hne
    have hrk : r.key = key := by unfold bsB at hB; rw [hr] at hB; simpa using hB
    obtain ⟨hr0, hput⟩ := search_there HV.out.sorted hr hrk
    have HE : Hid (atRow M.rows key f er = if er r = 0 then (putRow M.rows (f r), 0) else (M.rows, er r)) := by show _ = _; unfold atRow; rw [hr0]
    have HPut := Lib.hid hput
    have HR := Lib.hid hr
    have HRK := Lib.hid hrk
    obtain ⟨k, hk⟩ : ∃ k, k = bsI MRow.key M.rows key := ⟨_, rfl⟩
    rw [← hk] at HPut HR hr ⊢
    have hkn : k < n := by have := (List.getElem?_eq_some_iff.1 hr).1; omega
    obtain ⟨g, A', d', rfl, hg, hok, g0, g1, g2, g3, g4⟩ := HS1.out.rows.row HV.out.sized hr
    have HOK := Lib.hid hok
    clear hne hr hrk hr0 hput hok hk
    go_upto_region 7 with (fail)
    go_cut [10, 11] (fun pn ve wx => ∃ bx A2 c2, pn = .pointer (some ⟨bx, 0, none⟩) ∧ ve = .int .i64 (er r) ∧ SiteAt wx base gs gw gc C M (some ⟨g, 0, none⟩) n c m c' H H' ∧ wx.heap[bx]? = some (.cells #[.string (f r).key, .int .i64 (f r).ls, .string (f r).lp, .string (f r).value, .slice A2 (f r).recs.length c2] 26 (0, 0)) ∧
      wx.ownsRow base 55 3 (.slice A2 (f r).recs.length c2) (f r).recs.length (recCells (f r).recs) ∧ Keeps [26, 36] base w wx ∧ some bx ≠ (Value.slice (some ⟨g, 0, none⟩) n c).ownBlock)
    case first =>
      rcases HF.out with ⟨rfl, p, rfl⟩ | ⟨rfl, p, rfl⟩ | ⟨rfl, p, q, rfl⟩ | ⟨rfl, p, q, rfl⟩
      all_goals
        go_wp2_with fail
        refine (HP.out r A' r.recs.length d' _ (HL.out.alloc HL.out.size _) ((HOK.out.alloc _).more (by simp))).mono ?_
        rintro e w2 ⟨A2, c2, rfl, hown, hb⟩
        have hb1 := ((Below.refl w1.heap.size w1).alloc (Nat.le_refl _) (.cells #[.string r.key, .int .i64 r.ls, .string r.lp, .string r.value, .slice A' r.recs.length d'] 26)).trans (hb.mono (by simp))
        have HL2 := Lib.hid (HL.out.trans (hb1.mono HL.out.size))
        have HS2 := Lib.hid (HS1.out.below hb1 (Nat.le_refl _))
        have HO2 := Lib.hid (own_more (base' := base) hown (by simp; omega))
        clear hb hb1 hown
        go_wp2_with fail
        go_meet
        refine ⟨w2.heap.size, A2, c2, rfl, rfl, HS2.out.below ((Below.refl _ _).alloc (Nat.le_refl _) _) (Nat.le_refl _), blk_new _ _ _, HO2.out.alloc _, (Keeps.of_below HL2.out (Nat.le_refl _) HS.out.size).alloc _ HS2.out.size, fun e => ?_⟩
        have := (HS2.out.rows.2.2.1.lt _ e.symm).2
        omega
    case rest =>
      clear hcs hfs hcw hfw hzs hzw hbase
      obtain ⟨bx, A2, c2, rfl, rfl, hS3, hB3, hO3, hK3, hnb⟩ := hcut
      have HS3 := Lib.hid hS3
      have HB3 := Lib.hid hB3
      have HO3 := Lib.hid hO3
      have HK3 := Lib.hid hK3
      have HNB := Lib.hid hnb
      clear hS3 hB3 hO3 hK3 hnb
      by_cases h0 : er r = 0
      rotate_left
      · have hd0 : (er r != 0) = true := by simpa using h0
        have HE' : Hid (atRow M.rows key f er = (M.rows, er r)) := by show _ = _; rw [HE.out]; exact if_neg h0
        clear h0
        go_wp2_with fail
        go_ret
        rw [HE'.out]
        exact ⟨rfl, HS3.out.any, HK3.out⟩
      rw [h0]
      have HE' : Hid (atRow M.rows key f er = (putRow M.rows (f r), 0)) := by show _ = _; rw [HE.out]; exact if_pos h0
      have HKY : Hid ((f r).key = key) := by show _ = _; rw [HK.out _ h0]; exact HRK.out
      clear h0
      generalize f r = q at HO3 HE' HKY HB3
      clear g0 g1 g2 g3 g4 hg
      obtain ⟨hcs, hfs⟩ := blk_read HS3.out.site
      obtain ⟨hcw, hfw⟩ := blk_read HS3.out.world
      obtain ⟨hcb, hfb⟩ := blk_read HB3.out
      obtain ⟨g', B', e', hA, hgr, hok, g0, g1, g2, g3, g4⟩ := HS3.out.rows.row HV.out.sized HR.out
      obtain rfl : g' = g := by injection hA with hA; injection hA with hA; exact hA.symm
      obtain ⟨cur, hcur, hbg⟩ := own_blk HS3.out.rows.2.2.1
      have HCU := Lib.hid hcur
      have hfg := (blk_read hcur).2
      clear hA hok hcur
      go_wp2_with fail
      go_still_tail 10, (by kernel_rfl)
      go_wp2_with fail
      go_ret
      rw [HE'.out]
      have hfin := HS3.out.put5 hkn HO3.out
      refine ⟨rfl, ?_, HK3.out.trans ((hfin.2.wide (by simp)).drew)⟩
      rw [HPut.out q HKY.out]
      exact hfin.1.drew.any
end Go.Proofs.Ytniomgngiiiklab
