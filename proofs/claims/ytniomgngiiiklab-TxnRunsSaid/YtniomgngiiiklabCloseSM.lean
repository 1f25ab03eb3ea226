/- The walk of (*site).close. -/
import Derived.Test.YtniomgngiiiklabLocksM
namespace Go.Proofs.Ytniomgngiiiklab
open Go.RowKit

theorem SiteAt.drewN {w : World} {base gs gw gc C n c m c' : Nat} {M : MWorld} {A : Option Addr} {H H' : Heads} (h : SiteAt w base gs gw gc C M A n c m c' H H') (k : Nat) : SiteAt (w.drewN k) base gs gw gc C M A n c m c' H H' :=
  h.keep (ts := []) ((Keeps.refl [] base w).drewN k) ⟨by simp, by simp, by simp, by simp, by simp, by simp⟩

set_option maxRecDepth 100000 in
set_option maxHeartbeats 4000000 in
theorem site_close_any (base gs gw gc C : Nat) (M : MWorld) (x : MClient) (w : World) (hS : Site w base gs gw gc C M) (hv : RowsVal M.clock M.rows) (hck : 0 ≤ M.clock) (hx : M.clients[C]? = some x) (hst : x.start ≤ M.clock) (hwk : ∀ y ∈ x.writes, y.key.size ≤ maxLen) (hwl : x.writes.length ≤ 6) (hat : 0 ≤ x.at_ ∧ x.at_ < x.writes.length) :
    Calls Try.prog 59 #[.pointer (some ⟨gs, 0, none⟩)] w (StepRes w base gs gw gc C (closeM M C x)) := by
  obtain ⟨A, n, c, m, c', H, H', hS⟩ := hS
  obtain ⟨_, hd, _, hhd, _⟩ := hS.parts
  obtain ⟨j, hj⟩ : ∃ j : Nat, x.at_ = j := ⟨x.at_.toNat, by omega⟩
  have hjl : j < x.writes.length := by omega
  have hy : x.writes[j]? = some x.writes[j] := List.getElem?_eq_getElem hjl
  generalize x.writes[j] = y at hy
  have HY := Lib.hid hy
  have HS := Lib.hid hS
  have HV := Lib.hid hv
  have HCK := Lib.hid hck
  have HX := Lib.hid hx
  have HD := Lib.hid hhd
  have HST := Lib.hid hst
  have HWK := Lib.hid hwk
  have HWL := Lib.hid hwl
  have HJ := Lib.hid hj
  have HKY : Hid (y.key.size ≤ maxLen) := hwk y (List.mem_of_getElem? hy)
  clear hS hv hck hx hhd hst hwk hat hy
  go_enter Try.func59, Try.ntmps59
  go_upto_region 1 with (fail)
  obtain ⟨v, hv⟩ : ∃ v, v = w.alloc (.cells #[.pointer (some ⟨gs, 0, none⟩)] 60) := ⟨_, rfl⟩
  rw [← hv]
  have HK1 : Hid (Keeps [26, 36] base w v) := by rw [hv]; exact (Keeps.refl _ _ w).alloc _ HS.out.size
  have HS1 : Hid (SiteAt v base gs gw gc C M A n c m c' H H') := by rw [hv]; exact HS.out.below ((Below.refl _ _).alloc (Nat.le_refl _) _) (Nat.le_refl _)
  have HB1 : Hid (v.heap[w.heap.size]? = some (.cells #[.pointer (some ⟨gs, 0, none⟩)] 60 (0, 0))) := by show _ = _; rw [hv]; exact blk_new _ _ _
  clear hv
  obtain ⟨hcs, hfs⟩ := blk_read HS1.out.site
  obtain ⟨hcb, hfb⟩ := blk_read HB1.out
  obtain ⟨c0, c1, c2, c3, c4⟩ := HS1.out.cells HX.out HD.out
  obtain ⟨ga, hga, hzga, ha0⟩ := own_cell (HS1.out.writes HX.out HD.out) (writeCells_at x.writes j 0 y _ HY.out rfl)
  obtain ⟨ga', hga', _, ha1⟩ := own_cell (HS1.out.writes HX.out HD.out) (writeCells_at x.writes j 1 y _ HY.out rfl)
  obtain rfl : ga = ga' := by rw [hga] at hga'; injection hga' with e; injection e with e
  simp only [Nat.add_zero] at ha0
  rw [HJ.out] at c4
  rw [hga] at c3
  have hj0 : (0 : Int) ≤ (j : Int) := by omega
  have hji : (j : Int) < (x.writes.length : Int) := by omega
  clear hga hga'
  have hzs := blk_lt HS1.out.site
  have hzb := blk_lt HB1.out
  have hzc : gc < v.heap.size := by obtain ⟨cur, hcur, _⟩ := own_blk HS1.out.clients.2.2.1; exact blk_lt hcur
  go_region_held3 (fun w' => w'.cell? ⟨w.heap.size, 0, none⟩ = some (.pointer (some ⟨gs, 0, none⟩)) ∧ w'.cell? ⟨gs, 1, none⟩ = some (.pointer (some ⟨gc, C * 5, none⟩)) ∧ w'.cell? ⟨gc, C * 5 + 3, none⟩ = some (.slice (some ⟨ga, 0, none⟩) x.writes.length hd.2) ∧ w'.cell? ⟨gc, C * 5 + 4, none⟩ = some (.int .i64 (j : Int)) ∧ w'.cell? ⟨ga, j * 2, none⟩ = some (.string y.key) ∧ w'.cell? ⟨ga, j * 2 + 1, none⟩ = some (.string y.value))
    (go_keep)
    ((fail))
  go_upto_region 2 with (fail)
  obtain ⟨v2, hv2⟩ : ∃ v2, v2 = (v.alloc (.cells #[.string y.key, .string y.value] 76)).drew := ⟨_, rfl⟩
  rw [← hv2]
  have HK2 : Hid (Keeps [26, 36] base w v2) := by rw [hv2]; exact (HK1.out.alloc _ HS1.out.size).drew
  have hb2 : Below v.heap.size v v2 := by rw [hv2]; exact ((Below.refl _ _).alloc (Nat.le_refl _) _).drew
  have HS2 := Lib.hid (HS1.out.below hb2 (Nat.le_refl _))
  have HB2 := Lib.hid (blk_keep hb2 HB1.out (blk_lt HB1.out))
  have HX2 : Hid (v2.heap[v.heap.size]? = some (.cells #[.string y.key, .string y.value] 76 (0, 0))) := by show _ = _; rw [hv2]; exact blk_new _ _ _
  clear hv2 hb2 hcs hfs hcb hfb c0 c1 c2 c3 c4 ha0 ha1 hzs hzb hzc hzga
  obtain ⟨hcb, hfb⟩ := blk_read HB2.out
  obtain ⟨hcx, hfx⟩ := blk_read HX2.out
  have hzb := blk_lt HB2.out
  have hzx := blk_lt HX2.out
  go_wp2_with fail
  refine (site_at_any 85 _ (.inr (.inl ⟨rfl, _, rfl⟩)) (fun r => commitRow r x.start x.commit) (fun r => commitCode r x.start x.commit) (fun r hr => commitRow_key hr) M.clock y.key HKY.out base gs gw gc C M _ HS2.out.any HV.out (fun r A n c W hb hr => ?hp)).mono ?_
  case hp => exact close1_any r w.heap.size A n c W hr base gs gw gc C M x (HS2.out.any.below hb (Nat.le_refl _)) HX.out (Nat.lt_of_lt_of_le hzb hb.size) ((hb.cell (p := ⟨w.heap.size, 0, none⟩) hzb).trans (by simpa using hcb 0))
  rintro e w3 ⟨rfl, hS3, hk3⟩
  obtain ⟨p, hp⟩ : ∃ p, p = closeAt M.rows x := ⟨_, rfl⟩
  have hpe : atRow M.rows y.key (fun r => commitRow r x.start x.commit) (fun r => commitCode r x.start x.commit) = p := by
    rw [hp]; unfold closeAt; rw [writeNo_of HJ.out HY.out]
  rw [hpe] at hS3 ⊢
  obtain ⟨A3, n3, d3, m3, e3, H3, H3', hS3⟩ := hS3
  have HP := Lib.hid hp
  have HS3 := Lib.hid hS3
  have HB3 := Lib.hid (hk3.blk HB2.out (by decide))
  have HK3 := Lib.hid (HK2.out.trans hk3)
  have HMISS : Hid (p.2 ≠ 0 → p.1 = M.rows) := fun h => by rw [← hpe] at h ⊢; exact atRow_miss h
  clear hp hpe hS3 hk3 hcb hfb hcx hfx hzb hzx
  obtain ⟨l, code⟩ := p
  dsimp only at HS3 HMISS ⊢
  obtain ⟨_, hd3, _, hhd3, _⟩ := HS3.out.parts
  have HD3 := Lib.hid hhd3
  clear hhd3
  obtain ⟨hcb, hfb⟩ := blk_read HB3.out
  obtain ⟨hcs, hfs⟩ := blk_read HS3.out.site
  obtain ⟨c0, c1, c2, c3, c4⟩ := HS3.out.cells HX.out HD3.out
  rw [HJ.out] at c4
  obtain ⟨cur, hcur, _⟩ := own_blk HS3.out.clients.2.2.1
  have hfc := (blk_read hcur).2
  have hn1 : ¬ (gs = gc) := blk_ne HS3.out.site hcur (by decide)
  have hn2 : ¬ (gc = gs) := fun e => hn1 e.symm
  have hn3 : ¬ (w.heap.size = gc) := blk_ne HB3.out hcur (by decide)
  have hn4 : ¬ (gc = w.heap.size) := fun e => hn3 e.symm
  clear hcur
  by_cases hf : j = 0 ∧ code ≠ 0
  · obtain ⟨rfl, h0⟩ := hf
    have HM := HMISS.out h0
    subst HM
    have h0' : (code != 0) = true := by simpa using h0
    have hjz : (((0 : Nat) : Int) == 0) = true := by rfl
    have HL : Hid (closeM M C x = (failM M C x, 9)) := by show _ = _; unfold closeM; rw [← HP.out]; rw [if_pos ⟨by rw [HJ.out]; rfl, h0⟩]
    clear h0
    go_wp2_with fail
    refine (site_fail_any 9 base gs gw gc C M x w3 HS3.out.any HV.out HCK.out HX.out HST.out HWK.out HWL.out).mono ?_
    rintro e w4 ⟨rfl, hS4, hk4⟩
    have HS4 := Lib.hid hS4
    have HK4 := Lib.hid hk4
    clear hS4 hk4 hcb hfb hcs hfs c0 c1 c2 c3 c4
    go_wp2_with fail
    go_ret
    rw [HL.out]
    exact ⟨rfl, HS4.out, (HK3.out.wide (by simp)).trans HK4.out⟩
  · have HL : Hid (closeM M C x = ({ M with rows := l, clients := M.clients.set C (if x.at_ + 1 = x.writes.length then zeroClient else { x with phase := 4, at_ := x.at_ + 1 }) }, 0)) := by show _ = _; unfold closeM; rw [← HP.out]; rw [if_neg (fun h => hf ⟨by have := h.1; rw [HJ.out] at this; omega, h.2⟩)]
    have hwj : IntKind.i64.wrap ((j : Int) + 1) = (j : Int) + 1 := wrap64_in (by omega) (by omega)
    have hcase : (((j : Int) == 0) = true ∧ code = 0) ∨ ((j : Int) == 0) = false := by
      by_cases hz : j = 0
      · exact .inl ⟨by simp [hz], by by_cases h : code = 0; (· exact h); (· exact absurd ⟨hz, h⟩ hf)⟩
      · exact .inr (by simp; omega)
    clear hf
    rcases hcase with ⟨hjz, rfl⟩ | hjz
    all_goals
      go_upto_region 7 with (fail)
      obtain ⟨v4, hv4⟩ : ∃ v4, v4 = (w3.setCell ⟨gc, C * 5, none⟩ (.int .i64 4)).setCell ⟨gc, C * 5 + 4, none⟩ (.int .i64 ((j : Int) + 1)) := ⟨_, rfl⟩
      rw [← hv4]
      obtain ⟨HSa, HKa⟩ := HS3.out.put1 (i := 0) (x' := { x with phase := 4 }) (u := .int .i64 4) HX.out HD3.out (by simp [clientCells]) (by omega) rfl
      obtain ⟨HSb, HKb⟩ := HSa.put1 (i := 4) (x := { x with phase := 4 }) (x' := { x with phase := 4, at_ := x.at_ + 1 }) (u := .int .i64 (x.at_ + 1)) (List.getElem?_set_self (List.getElem?_eq_some_iff.1 HX.out).1) HD3.out (by simp [clientCells]) (by omega) rfl
      have hwr4 : (w3.setCell ⟨gc, C * 5 + 0, none⟩ (.int .i64 4)).setCell ⟨gc, C * 5 + 4, none⟩ (.int .i64 (x.at_ + 1)) = v4 := by rw [hv4, HJ.out]; rfl
      rw [hwr4] at HSb HKb
      rw [List.set_set] at HSb
      obtain ⟨x', hx'⟩ : ∃ x' : MClient, x' = { x with phase := 4, at_ := x.at_ + 1 } := ⟨_, rfl⟩
      have hcx' : (M.clients.set C x')[C]? = some x' := List.getElem?_set_self (List.getElem?_eq_some_iff.1 HX.out).1
      have hxa : x'.at_ = (j : Int) + 1 := by rw [hx']; show x.at_ + 1 = _; rw [HJ.out]
      have hxw : x'.writes = x.writes := by rw [hx']
      rw [← hx'] at HSb
      have HS4 := Lib.hid HSb
      have HK4 : Hid (Keeps [26, 36, 58] base w v4) := (HK3.out.wide (by simp)).trans ((HKa.trans HKb).wide (by simp))
      have HB4 := Lib.hid ((HKa.trans HKb).blk HB3.out (by decide))
      have HXX := Lib.hid hx'
      clear HSa HKa HSb HKb hwr4 hv4 hx' hcb hfb hcs hfs c0 c1 c2 c3 c4 hfc
      obtain ⟨hcb, hfb⟩ := blk_read HB4.out
      obtain ⟨hcs, hfs⟩ := blk_read HS4.out.site
      obtain ⟨c0, c1, c2, c3, c4⟩ := HS4.out.cells hcx' HD3.out
      rw [hxa] at c4
      rw [hxw] at c3
      obtain ⟨cur, hcur, _⟩ := own_blk HS4.out.clients.2.2.1
      have hfc := (blk_read hcur).2
      clear hcur hxa hxw hcx'
      by_cases hl : j + 1 = x.writes.length
      · have hd1 : ((j : Int) + 1 == (x.writes.length : Int)) = true := by simp; omega
        have HL' : Hid ((if x.at_ + 1 = x.writes.length then zeroClient else { x with phase := 4, at_ := x.at_ + 1 }) = zeroClient) := if_pos (by rw [HJ.out]; omega)
        clear hl
        go_quiet (fail)
        go_wp2_with fail
        go_ret
        rw [HL.out, HL'.out]
        have hz := HS4.out.putZero (x := zeroClient) rfl
        rw [List.set_set] at hz
        exact ⟨rfl, (hz.1.drewN _).any, HK4.out.trans ((hz.2.wide (by simp)).drewN _)⟩
      · have hd1 : ((j : Int) + 1 == (x.writes.length : Int)) = false := by simp; omega
        have HL' : Hid ((if x.at_ + 1 = x.writes.length then zeroClient else { x with phase := 4, at_ := x.at_ + 1 }) = x') := by show _ = _; rw [HXX.out]; exact if_neg (by rw [HJ.out]; omega)
        clear hl
        go_quiet (fail)
        go_wp2_with fail
        go_ret
        rw [HL.out, HL'.out]
        exact ⟨rfl, (HS4.out.drewN _).any, HK4.out.drewN _⟩
end Go.Proofs.Ytniomgngiiiklab
