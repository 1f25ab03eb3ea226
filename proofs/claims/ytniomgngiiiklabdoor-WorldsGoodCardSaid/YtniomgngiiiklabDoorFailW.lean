/- The walk of (*site).fail: the transaction ends, its locks are gone. -/
import Derived.Test.YtniomgngiiiklabDoorUndoW
import Derived.Test.YtniomgngiiiklabDoorTxnCopy
import Derived.Deep.RegionHeld3
namespace Go.Proofs.YtniomgngiiiklabDoor
open Go.RowKit

theorem failRows_snoc {l : List MRow} {ws : List MWrite} {st : Int} {k : Nat} {y : MWrite} (h : ws[k]? = some y) : failRows l (ws.take (k + 1)) st = failStep st (failRows l (ws.take k) st) y := by
  unfold failRows
  rw [take_snoc h, List.foldl_append]
  rfl

set_option maxRecDepth 100000 in
set_option maxHeartbeats 2000000 in
theorem site_fail_any (code : Int) (base gs gw gc C : Nat) (M : MWorld) (x : MClient) (w : World) (hS : Site w base gs gw gc C M) (hv : RowsVal M.clock M.rows) (hck : 0 ≤ M.clock) (hx : M.clients[C]? = some x) (hst : x.start ≤ M.clock) (hwk : ∀ y ∈ x.writes, y.key.size ≤ maxLen) (hwl : x.writes.length ≤ 6) :
    Calls Tryd.prog 89 #[.pointer (some ⟨gs, 0, none⟩), .int .i64 code] w fun e w' => e = .returned (.int .i64 code) ∧ Site w' base gs gw gc C (failM M C x) ∧ Keeps [27, 37, 92] base w w' := by
  obtain ⟨A, n, c, m, c', H, H', hS⟩ := hS
  obtain ⟨_, hd, _, hhd, _⟩ := hS.parts
  have HS := Lib.hid hS
  have HV := Lib.hid hv
  have HCK := Lib.hid hck
  have HX := Lib.hid hx
  have HHD := Lib.hid hhd
  have HST := Lib.hid hst
  have HWK := Lib.hid hwk
  have HW := Lib.hid (hS.writes hx hhd)
  have HWO : Hid (WritesOk w w.heap.size hd.1 x.writes.length hd.2 x.writes) := WritesOk.own (hS.writes hx hhd) (by omega) hwk
  obtain ⟨nw, hnw⟩ : ∃ nw, nw = x.writes.length := ⟨_, rfl⟩
  obtain ⟨hA, hcap⟩ := hd
  obtain ⟨c0, c1, c2, c3, c4⟩ := hS.cells hx hhd
  rw [← hnw] at HW HWO c3 hwl
  have HNW := Lib.hid hnw
  clear hS hv hx hhd hst hwk hck hnw
  obtain ⟨hcs, hfs⟩ := blk_read HS.out.site
  go_enter Tryd.func89, Tryd.ntmps89
  go_wp2_with fail
  go_loopw [17] (fun i wr => (∃ j : Nat, j ≤ nw ∧ i = .int .i64 j ∧ Site wr base gs gw gc C { M with rows := failRows M.rows (x.writes.take j) x.start }) ∧ Keeps [27, 37] base w wr) (fun i _ => nw - (intOf i).toNat)
  case atStart => exact ⟨⟨0, Nat.zero_le _, rfl, HS.out.any⟩, Keeps.refl _ _ _⟩
  case round =>
    clear hcs hfs c0 c1 c2 c3 c4
    obtain ⟨⟨j, hj, rfl, hS1⟩, hk1⟩ := hrel
    obtain ⟨A1, n1, d1, m1, e1, H1, H1', hS1⟩ := hS1
    have HS1 := Lib.hid hS1
    have HK1 := Lib.hid hk1
    have hV1 : RowsVal M.clock (failRows M.rows (x.writes.take j) x.start) := failRows_good HCK.out HST.out HV.out
    have HV1 := Lib.hid hV1
    clear hS1 hk1 hV1
    obtain ⟨L, hL⟩ : ∃ L, L = failRows M.rows (x.writes.take j) x.start := ⟨_, rfl⟩
    rw [← hL] at HS1 HV1
    have HLL := Lib.hid hL
    clear hL
    by_cases hlt : j < nw
    · have hWr := HK1.out.own HW.out (by decide)
      obtain ⟨y, b, off, hy, rfl, hbb, g0, g1⟩ := (WritesAt.of_own hWr).at_ hlt
      have HY := Lib.hid hy
      have HKY : Hid (y.key.size ≤ maxLen) := HWK.out y (List.mem_of_getElem? hy)
      clear hy hWr
      go_upto_region 4 with (fail)
      obtain ⟨v, hv⟩ : ∃ v, v = wr.alloc (.cells #[.string y.key, .string y.value] 96) := ⟨_, rfl⟩
      rw [← hv]
      have HS2 : Hid (SiteAt v base gs gw gc C { M with rows := L } A1 n1 d1 m1 e1 H1 H1') := by rw [hv]; exact HS1.out.below ((Below.refl _ _).alloc (Nat.le_refl _) _) (Nat.le_refl _)
      have HB2 : Hid (v.heap[wr.heap.size]? = some (.cells #[.string y.key, .string y.value] 96 (0, 0))) := by show _ = _; rw [hv]; exact blk_new _ _ _
      have HK2 : Hid (Keeps [27, 37] base w v) := by rw [hv]; exact HK1.out.alloc _ HS1.out.size
      obtain ⟨_, hd1, _, hhd1, _⟩ := HS1.out.parts
      have HD1 := Lib.hid hhd1
      clear hv hhd1 g0 g1
      obtain ⟨hcs, hfs⟩ := blk_read HS2.out.site
      obtain ⟨hcb, hfb⟩ := blk_read HB2.out
      obtain ⟨c0, c1, c2, c3, c4⟩ := HS2.out.cells HX.out HD1.out
      go_region_held3 (fun w' => w'.cell? ⟨wr.heap.size, 0, none⟩ = some (.string y.key) ∧ w'.cell? ⟨gs, 1, none⟩ = some (.pointer (some ⟨gc, C * 5, none⟩)) ∧ w'.cell? ⟨gc, C * 5 + 1, none⟩ = some (.int .i64 x.start))
        (first | go_keep | exact ⟨by simpa using (blk_read (blk_keep hb' HB2.out (blk_lt HB2.out))).1 0, by simpa using (blk_read (HS2.out.below hb' (Nat.le_refl _)).site).1 1, ((HS2.out.below hb' (Nat.le_refl _)).cells HX.out HD1.out).2.1⟩)
        ((go_simp; go_at_call 74; refine (site_status_any M.clock y.key x.start base gs gw gc C { M with rows := L } _ (by exact HS2.out.drew.any) HV1.out).mono ?_; rintro e w2 ⟨rfl, hb⟩; have hb' : Below v.heap.size v w2 := ((Below.refl _ v).drew).trans hb))
      have HS3 := Lib.hid (HS2.out.below hb' (Nat.le_refl _))
      have HB3 := Lib.hid (blk_keep hb' HB2.out (blk_lt HB2.out))
      have HK3 : Hid (Keeps [27, 37] base w w2) := HK2.out.trans (Keeps.of_below hb' (Nat.le_refl _) HS2.out.size)
      clear hb hb' hcs hfs hcb hfb c0 c1 c2 c3 c4
      obtain ⟨hcs, hfs⟩ := blk_read HS3.out.site
      obtain ⟨hcb, hfb⟩ := blk_read HB3.out
      obtain ⟨c0, c1, c2, c3, c4⟩ := HS3.out.cells HX.out HD1.out
      have HFS : Hid (failRows M.rows (x.writes.take (j + 1)) x.start = failStep x.start L y) := by show _ = _; rw [failRows_snoc HY.out, HLL.out]
      by_cases h1 : (statusAt L y.key x.start).1 = 1
      · have e1 : ((statusAt L y.key x.start).1 == 1) = true := by simpa using h1
        have HF2 : Hid (failStep x.start L y = (undoAt L y.key x.start).1) := by show _ = _; unfold failStep; rw [if_pos h1]
        clear h1
        go_upto_region 6 with (fail)
        go_still_tail 10, (by kernel_rfl)
        go_wp2_with fail
        refine (site_undo_any M.clock y.key x.start HKY.out base gs gw gc C { M with rows := L } _ HS3.out.drew.any HV1.out).mono ?_
        rintro e w3 ⟨rfl, hS4, hk4⟩
        have HS4 := Lib.hid hS4
        have HK4 : Hid (Keeps [27, 37] base w w3) := HK3.out.drew.trans hk4
        clear hS4 hk4 hcs hfs hcb hfb c0 c1 c2 c3 c4
        go_wp2_with fail
        go_roundw
        case rel =>
          refine ⟨⟨j + 1, by omega, by go_num, ?_⟩, HK4.out⟩
          rw [HFS.out, HF2.out]
          exact HS4.out
        case measure => simp [intOf]; omega
      · have e1 : ((statusAt L y.key x.start).1 == 1) = false := by simpa using h1
        have HF2 : Hid (failStep x.start L y = L) := by show _ = _; unfold failStep; rw [if_neg h1]
        clear h1
        go_wp2_with fail
        go_roundw
        case rel =>
          refine ⟨⟨j + 1, by omega, by go_num, ?_⟩, HK3.out⟩
          rw [HFS.out, HF2.out]
          exact HS3.out.any
        case measure => simp [intOf]; omega
    · obtain rfl : j = nw := by omega
      have hall : x.writes.take j = x.writes := List.take_of_length_le (by rw [HNW.out]; exact Nat.le_refl _)
      obtain ⟨_, hd1, _, hhd1, _⟩ := HS1.out.parts
      obtain ⟨hcs, hfs⟩ := blk_read HS1.out.site
      obtain ⟨c0, c1, c2, c3, c4⟩ := HS1.out.cells HX.out hhd1
      obtain ⟨cur, hcur, _⟩ := own_blk HS1.out.clients.2.2.1
      have hfc := (blk_read hcur).2
      have HFL : Hid (failM M C x = { M with rows := L, clients := M.clients.set C zeroClient }) := by show _ = _; unfold failM; rw [HLL.out, hall]
      clear hall hhd1 hcur hlt hj
      go_wp2_with fail
      go_ret
      have hz := HS1.out.putZero (x := zeroClient) rfl
      rw [HFL.out]
      exact ⟨rfl, hz.1.any, (HK1.out.wide (by simp)).trans (hz.2.wide (by simp))⟩
end Go.Proofs.YtniomgngiiiklabDoor
