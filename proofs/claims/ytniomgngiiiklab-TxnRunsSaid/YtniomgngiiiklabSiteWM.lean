/- The walks of (*site).undo, its closure, (*site).status and (*site).tick. -/
import Derived.Test.YtniomgngiiiklabAtM
import Derived.Test.YtniomgngiiiklabEndsM
import Derived.Test.YtniomgngiiiklabPlainM
import Derived.Test.YtniomgngiiiklabCopiesM
import Derived.Deep.RegionHeld3
namespace Go.Proofs.Ytniomgngiiiklab
open Go.RowKit

set_option maxRecDepth 100000 in
set_option maxHeartbeats 1000000 in
theorem undo1_any (r : MRow) (g : Nat) (st : Int) (A : Option Addr) (n c : Nat) (w : World) (h : RowOk w w.heap.size r A n c) (hg : g < w.heap.size) (hc : w.cell? ⟨g, 0, none⟩ = some (.int .i64 st)) :
    Calls Try.prog 87 #[.agg #[.string r.key, .int .i64 r.ls, .string r.lp, .string r.value, .slice A n c], .pointer (some ⟨g, 0, none⟩)] w (RowRet w (undoRow r st) (undoCode r st)) := by
  have HR := Lib.hid h
  clear h
  go_enter Try.func87, Try.ntmps87
  go_wp2_with fail
  have hb0 := ((Below.refl w.heap.size w).alloc (Nat.le_refl _) (.cells #[.string r.key, .int .i64 r.ls, .string r.lp, .string r.value, .slice A n c] 26)).alloc (by simp) (.cells #[.string ⟨#[]⟩, .int .i64 0, .string ⟨#[]⟩, .string ⟨#[]⟩, .slice none 0 0] 26)
  refine (undo_any r st A n c _ ((HR.out.below hb0 (Nat.le_refl _)).more (by simp; omega))).mono ?_
  rintro e w1 ⟨A', c', rfl, hown, hb⟩
  have HL := Lib.hid (hb0.trans (hb.mono (by simp; omega)))
  have HB1 := Lib.hid (blk_keep hb (g := w.heap.size + 1) (blk_new_at (w.alloc _) _ _ (by simp)) (by simp))
  have HO := Lib.hid (own_more (base' := w.heap.size) hown (by simp; omega))
  clear hb hb0 hown hc
  obtain ⟨hc1, hf1⟩ := blk_read HB1.out
  have hz := blk_lt HB1.out
  go_wp2_with fail
  refine bodyPost_ret (v := .tuple #[.agg #[.string (undoRow r st).key, .int .i64 (undoRow r st).ls, .string (undoRow r st).lp, .string (undoRow r st).value, .slice A' (undoRow r st).recs.length c'], .int .i64 (undoCode r st)]) (by simp [results, Try.results87, go_sem, hc1]) rfl ?_
  exact ⟨A', c', rfl, own_row5_far HO.out (own_ne HO.out HB1.out (by decide)) _ _ _ _ _, below_row5 HL.out (by omega) _ _ _ _ _⟩

theorem AtRes.from {w w0 : World} {base gs gw gc C : Nat} {M : MWorld} {p : List MRow × Int} {e : Ending} {w' : World} (h : AtRes w0 base gs gw gc C M p e w') (hk : Keeps [26, 36] base w w0) : AtRes w base gs gw gc C M p e w' :=
  ⟨h.1, h.2.1, hk.trans h.2.2⟩

theorem Site.size {w : World} {base gs gw gc C : Nat} {M : MWorld} (h : Site w base gs gw gc C M) : base ≤ w.heap.size := by
  obtain ⟨A, n, c, m, c', H, H', h⟩ := h
  exact h.size

set_option maxRecDepth 100000 in
theorem site_undo_any (clock : Int) (key : ByteArray) (st : Int) (hks : key.size ≤ maxLen) (base gs gw gc C : Nat) (M : MWorld) (w : World) (hS : Site w base gs gw gc C M) (hv : RowsVal clock M.rows) :
    Calls Try.prog 64 #[.pointer (some ⟨gs, 0, none⟩), .string key, .int .i64 st] w (AtRes w base gs gw gc C M (undoAt M.rows key st)) := by
  have HS := Lib.hid hS
  have HV := Lib.hid hv
  have HKS := Lib.hid hks
  clear hS hv hks
  go_enter Try.func64, Try.ntmps64
  go_wp2_with fail
  refine (site_at_any 87 _ (.inl ⟨rfl, _, rfl⟩) (fun r => undoRow r st) (fun r => undoCode r st) (fun r hr => undoRow_key hr) clock key HKS.out base gs gw gc C M _ (HS.out.below ((Below.refl _ _).alloc (Nat.le_refl _) _) (Nat.le_refl _)) HV.out (fun r A n c W hb hr => ?hp)).mono ?_
  case hp => exact undo1_any r w.heap.size st A n c W hr (by have := hb.size; simp at this; omega) ((hb.cell (p := ⟨w.heap.size, 0, none⟩) (by simp)).trans (by simp))
  rintro e w1 ⟨rfl, hS1, hk1⟩
  have H1 := Lib.hid hS1
  have HK1 : Hid (Keeps [26, 36] base w w1) := ((Keeps.refl _ _ w).alloc _ HS.out.size).trans hk1
  clear hS1 hk1
  go_wp2_with fail
  go_ret
  exact ⟨rfl, H1.out, HK1.out⟩

set_option maxRecDepth 100000 in
set_option maxHeartbeats 1000000 in
theorem site_status_any (clock : Int) (key : ByteArray) (st : Int) (base gs gw gc C : Nat) (M : MWorld) (w : World) (hS : Site w base gs gw gc C M) (hv : RowsVal clock M.rows) :
    Calls Try.prog 60 #[.pointer (some ⟨gs, 0, none⟩), .string key, .int .i64 st] w fun e w' => e = .returned (.tuple #[.int .i64 (statusAt M.rows key st).1, .int .i64 (statusAt M.rows key st).2]) ∧ Below w.heap.size w w' := by
  obtain ⟨A, n, c, m, c', H, H', hS⟩ := hS
  have HS := Lib.hid hS
  have HV := Lib.hid hv
  have hn := hS.rows.1
  have hn40 := hv.len
  clear hS hv
  obtain ⟨hcs, hfs⟩ := blk_read HS.out.site
  obtain ⟨hcw, hfw⟩ := blk_read HS.out.world
  go_enter Try.func60, Try.ntmps60
  go_wp2_with fail
  refine (find_rows_any M.rows key A n c w (HS.out.rows.ok HV.out.sized) HV.out.sorted).mono ?_
  rintro e w1 ⟨rfl, hb⟩
  have HS1 := Lib.hid (HS.out.below hb (Nat.le_refl _))
  have HL := Lib.hid hb
  clear hb hcs hfs hcw hfw
  obtain ⟨hcs, hfs⟩ := blk_read HS1.out.site
  obtain ⟨hcw, hfw⟩ := blk_read HS1.out.world
  cases hB : bsB MRow.key M.rows key
  · obtain ⟨hr0, _⟩ := search_not HV.out.sorted hB
    have HE : Hid (statusAt M.rows key st = (0, 0)) := by show _ = _; unfold statusAt; rw [hr0]
    clear hr0
    go_wp2_with fail
    go_ret2
    rw [HE.out]
    exact ⟨rfl, HL.out⟩
  · have hne : M.rows[bsI MRow.key M.rows key]?.isSome = true := by
      unfold bsB at hB
      cases h : M.rows[bsI MRow.key M.rows key]? with
      | none => rw [h] at hB; cases hB
      | some r => rfl
    obtain ⟨r, hr⟩ := Option.isSome_iff_exists.1 hne
    have hrk : r.key = key := by unfold bsB at hB; rw [hr] at hB; simpa using hB
    obtain ⟨hr0, _⟩ := search_there HV.out.sorted hr hrk
    have HE : Hid (statusAt M.rows key st = ((statusF r st).1, (statusF r st).2.1)) := by show _ = _; unfold statusAt; rw [hr0]
    obtain ⟨k, hk⟩ : ∃ k, k = bsI MRow.key M.rows key := ⟨_, rfl⟩
    rw [← hk] at hr ⊢
    have hkn : k < n := by have := (List.getElem?_eq_some_iff.1 hr).1; omega
    obtain ⟨g, A', d', rfl, hg, hok, g0, g1, g2, g3, g4⟩ := HS1.out.rows.row HV.out.sized hr
    have HOK := Lib.hid hok
    clear hne hr hrk hr0 hok hk
    go_wp2_with fail
    refine (status_any r st A' r.recs.length d' w1 HOK.out.recs.at_ (by have := HOK.out.recs.small; unfold maxLen; omega)).mono ?_
    rintro e w2 ⟨rfl, hb⟩
    have HL2 := Lib.hid (HL.out.trans (hb.mono HL.out.size))
    clear hb
    unfold stVal
    go_wp2_with fail
    go_ret2
    rw [HE.out]
    exact ⟨rfl, HL2.out⟩

theorem wrap64_in {x : Int} (h1 : -9223372036854775808 ≤ x) (h2 : x ≤ 9223372036854775807) : IntKind.i64.wrap x = x := by
  simp [IntKind.wrap, IntKind.bits, IntKind.signed]; omega
set_option maxRecDepth 100000 in
theorem site_tick_any (base gs gw gc C : Nat) (M : MWorld) (w : World) (hS : Site w base gs gw gc C M) (hc : 0 ≤ M.clock ∧ M.clock ≤ 1099511627376) :
    Calls Try.prog 23 #[.pointer (some ⟨gs, 0, none⟩)] w fun e w' => e = .returned (.int .i64 (M.clock + 1)) ∧ Site w' base gs gw gc C { M with clock := M.clock + 1 } ∧ Keeps [36] base w w' := by
  obtain ⟨A, n, c, m, c', H, H', hS⟩ := hS
  have HS := Lib.hid hS
  clear hS
  obtain ⟨hcs, hfs⟩ := blk_read HS.out.site
  obtain ⟨hcw, hfw⟩ := blk_read HS.out.world
  have hwr : IntKind.i64.wrap (M.clock + 1) = M.clock + 1 := wrap64_in (by omega) (by omega)
  have hne : gs ≠ gw := blk_ne HS.out.site HS.out.world (by decide)
  have HNE := Lib.hid hne
  clear hne
  go_enter Try.func23, Try.ntmps23
  go_wp2_with fail
  go_ret
  have hk : Keeps [36] base w (w.setCell ⟨gw, 1, none⟩ (.int .i64 (M.clock + 1))) := (Keeps.refl _ _ w).set HS.out.world (by simp) HS.out.bw _
  have hs : SiteAt (w.setCell ⟨gw, 1, none⟩ (.int .i64 (M.clock + 1))) base gs gw gc C { M with clock := M.clock + 1 } A n c m c' H H' :=
    ⟨hk.blk HS.out.site (by decide), by simpa using blk_set HS.out.world 1 (.int .i64 (M.clock + 1)), hk.rows HS.out.rows (by decide) (by decide), hk.clients HS.out.clients (by decide) (by decide), HS.out.lt, HS.out.bs, HS.out.bw⟩
  exact ⟨rfl, hs.any, hk⟩
end Go.Proofs.Ytniomgngiiiklab

/- The walk of (*site).fail: the transaction ends, its locks are gone. -/
namespace Go.Proofs.Ytniomgngiiiklab
open Go.RowKit

theorem failRows_snoc {l : List MRow} {ws : List MWrite} {st : Int} {k : Nat} {y : MWrite} (h : ws[k]? = some y) : failRows l (ws.take (k + 1)) st = failStep st (failRows l (ws.take k) st) y := by
  unfold failRows
  rw [take_snoc h, List.foldl_append]
  rfl

set_option maxRecDepth 100000 in
set_option maxHeartbeats 2000000 in
theorem site_fail_any (code : Int) (base gs gw gc C : Nat) (M : MWorld) (x : MClient) (w : World) (hS : Site w base gs gw gc C M) (hv : RowsVal M.clock M.rows) (hck : 0 ≤ M.clock) (hx : M.clients[C]? = some x) (hst : x.start ≤ M.clock) (hwk : ∀ y ∈ x.writes, y.key.size ≤ maxLen) (hwl : x.writes.length ≤ 6) :
    Calls Try.prog 84 #[.pointer (some ⟨gs, 0, none⟩), .int .i64 code] w fun e w' => e = .returned (.int .i64 code) ∧ Site w' base gs gw gc C (failM M C x) ∧ Keeps [26, 36, 58] base w w' := by
  obtain ⟨A, n, c, m, c', H, H', hS⟩ := hS
  obtain ⟨_, hd, _, hhd, _⟩ := hS.parts
  have HS := Lib.hid hS
  have HV := Lib.hid hv
  have HCK := Lib.hid hck
  have HX := Lib.hid hx
  have HHD := Lib.hid hhd
  have HST := Lib.hid hst
  have HWK := Lib.hid hwk
  have HW := Lib.hid (hS.writes hx hhd)
  have HWO : Hid (WritesOk w w.heap.size hd.1 x.writes.length hd.2 x.writes) := WritesOk.own (hS.writes hx hhd) (by omega) hwk
  obtain ⟨nw, hnw⟩ : ∃ nw, nw = x.writes.length := ⟨_, rfl⟩
  obtain ⟨hA, hcap⟩ := hd
  obtain ⟨c0, c1, c2, c3, c4⟩ := hS.cells hx hhd
  rw [← hnw] at HW HWO c3 hwl
  have HNW := Lib.hid hnw
  clear hS hv hx hhd hst hwk hck hnw
  obtain ⟨hcs, hfs⟩ := blk_read HS.out.site
  go_enter Try.func84, Try.ntmps84
  go_wp2_with fail
  go_loopw [17] (fun i wr => (∃ j : Nat, j ≤ nw ∧ i = .int .i64 j ∧ Site wr base gs gw gc C { M with rows := failRows M.rows (x.writes.take j) x.start }) ∧ Keeps [26, 36] base w wr) (fun i _ => nw - (intOf i).toNat)
  case atStart => exact ⟨⟨0, Nat.zero_le _, rfl, HS.out.any⟩, Keeps.refl _ _ _⟩
  case round =>
    clear hcs hfs c0 c1 c2 c3 c4
    obtain ⟨⟨j, hj, rfl, hS1⟩, hk1⟩ := hrel
    obtain ⟨A1, n1, d1, m1, e1, H1, H1', hS1⟩ := hS1
    have HS1 := Lib.hid hS1
    have HK1 := Lib.hid hk1
    have hV1 : RowsVal M.clock (failRows M.rows (x.writes.take j) x.start) := failRows_good HCK.out HST.out HV.out
    have HV1 := Lib.hid hV1
    clear hS1 hk1 hV1
    obtain ⟨L, hL⟩ : ∃ L, L = failRows M.rows (x.writes.take j) x.start := ⟨_, rfl⟩
    rw [← hL] at HS1 HV1
    have HLL := Lib.hid hL
    clear hL
    by_cases hlt : j < nw
    · have hWr := HK1.out.own HW.out (by decide)
      obtain ⟨y, b, off, hy, rfl, hbb, g0, g1⟩ := (WritesAt.of_own hWr).at_ hlt
      have HY := Lib.hid hy
      have HKY : Hid (y.key.size ≤ maxLen) := HWK.out y (List.mem_of_getElem? hy)
      clear hy hWr
      go_upto_region 4 with (fail)
      obtain ⟨v, hv⟩ : ∃ v, v = wr.alloc (.cells #[.string y.key, .string y.value] 76) := ⟨_, rfl⟩
      rw [← hv]
      have HS2 : Hid (SiteAt v base gs gw gc C { M with rows := L } A1 n1 d1 m1 e1 H1 H1') := by rw [hv]; exact HS1.out.below ((Below.refl _ _).alloc (Nat.le_refl _) _) (Nat.le_refl _)
      have HB2 : Hid (v.heap[wr.heap.size]? = some (.cells #[.string y.key, .string y.value] 76 (0, 0))) := by show _ = _; rw [hv]; exact blk_new _ _ _
      have HK2 : Hid (Keeps [26, 36] base w v) := by rw [hv]; exact HK1.out.alloc _ HS1.out.size
      obtain ⟨_, hd1, _, hhd1, _⟩ := HS1.out.parts
      have HD1 := Lib.hid hhd1
      clear hv hhd1 g0 g1
      obtain ⟨hcs, hfs⟩ := blk_read HS2.out.site
      obtain ⟨hcb, hfb⟩ := blk_read HB2.out
      obtain ⟨c0, c1, c2, c3, c4⟩ := HS2.out.cells HX.out HD1.out
      go_region_held3 (fun w' => w'.cell? ⟨wr.heap.size, 0, none⟩ = some (.string y.key) ∧ w'.cell? ⟨gs, 1, none⟩ = some (.pointer (some ⟨gc, C * 5, none⟩)) ∧ w'.cell? ⟨gc, C * 5 + 1, none⟩ = some (.int .i64 x.start))
        (first | go_keep | exact ⟨by simpa using (blk_read (blk_keep hb' HB2.out (blk_lt HB2.out))).1 0, by simpa using (blk_read (HS2.out.below hb' (Nat.le_refl _)).site).1 1, ((HS2.out.below hb' (Nat.le_refl _)).cells HX.out HD1.out).2.1⟩)
        ((go_simp; go_at_call 60; refine (site_status_any M.clock y.key x.start base gs gw gc C { M with rows := L } _ (by exact HS2.out.drew.any) HV1.out).mono ?_; rintro e w2 ⟨rfl, hb⟩; have hb' : Below v.heap.size v w2 := ((Below.refl _ v).drew).trans hb))
      have HS3 := Lib.hid (HS2.out.below hb' (Nat.le_refl _))
      have HB3 := Lib.hid (blk_keep hb' HB2.out (blk_lt HB2.out))
      have HK3 : Hid (Keeps [26, 36] base w w2) := HK2.out.trans (Keeps.of_below hb' (Nat.le_refl _) HS2.out.size)
      clear hb hb' hcs hfs hcb hfb c0 c1 c2 c3 c4
      obtain ⟨hcs, hfs⟩ := blk_read HS3.out.site
      obtain ⟨hcb, hfb⟩ := blk_read HB3.out
      obtain ⟨c0, c1, c2, c3, c4⟩ := HS3.out.cells HX.out HD1.out
      have HFS : Hid (failRows M.rows (x.writes.take (j + 1)) x.start = failStep x.start L y) := by show _ = _; rw [failRows_snoc HY.out, HLL.out]
      by_cases h1 : (statusAt L y.key x.start).1 = 1
      · have e1 : ((statusAt L y.key x.start).1 == 1) = true := by simpa using h1
        have HF2 : Hid (failStep x.start L y = (undoAt L y.key x.start).1) := by show _ = _; unfold failStep; rw [if_pos h1]
        clear h1
        go_upto_region 6 with (fail)
        go_still_tail 10, (by kernel_rfl)
        go_wp2_with fail
        refine (site_undo_any M.clock y.key x.start HKY.out base gs gw gc C { M with rows := L } _ HS3.out.drew.any HV1.out).mono ?_
        rintro e w3 ⟨rfl, hS4, hk4⟩
        have HS4 := Lib.hid hS4
        have HK4 : Hid (Keeps [26, 36] base w w3) := HK3.out.drew.trans hk4
        clear hS4 hk4 hcs hfs hcb hfb c0 c1 c2 c3 c4
        go_wp2_with fail
        go_roundw
        case rel =>
          refine ⟨⟨j + 1, by omega, by go_num, ?_⟩, HK4.out⟩
          rw [HFS.out, HF2.out]
          exact HS4.out
        case measure => simp [intOf]; omega
      · have e1 : ((statusAt L y.key x.start).1 == 1) = false := by simpa using h1
        have HF2 : Hid (failStep x.start L y = L) := by show _ = _; unfold failStep; rw [if_neg h1]
        clear h1
        go_wp2_with fail
        go_roundw
        case rel =>
          refine ⟨⟨j + 1, by omega, by go_num, ?_⟩, HK3.out⟩
          rw [HFS.out, HF2.out]
          exact HS3.out.any
        case measure => simp [intOf]; omega
    · obtain rfl : j = nw := by omega
      have hall : x.writes.take j = x.writes := List.take_of_length_le (by rw [HNW.out]; exact Nat.le_refl _)
      obtain ⟨_, hd1, _, hhd1, _⟩ := HS1.out.parts
      obtain ⟨hcs, hfs⟩ := blk_read HS1.out.site
      obtain ⟨c0, c1, c2, c3, c4⟩ := HS1.out.cells HX.out hhd1
      obtain ⟨cur, hcur, _⟩ := own_blk HS1.out.clients.2.2.1
      have hfc := (blk_read hcur).2
      have HFL : Hid (failM M C x = { M with rows := L, clients := M.clients.set C zeroClient }) := by show _ = _; unfold failM; rw [HLL.out, hall]
      clear hall hhd1 hcur hlt hj
      go_wp2_with fail
      go_ret
      have hz := HS1.out.putZero (x := zeroClient) rfl
      rw [HFL.out]
      exact ⟨rfl, hz.1.any, (HK1.out.wide (by simp)).trans (hz.2.wide (by simp))⟩
end Go.Proofs.Ytniomgngiiiklab
