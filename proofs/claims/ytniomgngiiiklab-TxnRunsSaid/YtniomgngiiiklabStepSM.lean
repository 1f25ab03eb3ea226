/- The walk of (*site).step. -/
import Derived.Test.YtniomgngiiiklabCloseSM
namespace Go.Proofs.Ytniomgngiiiklab
open Go.RowKit

/-- An answer's five cells. -/
def ansCells (a : MAns) : Array Value := #[.int .i64 a.code, .bool a.is, .string a.value, .int .i64 a.phase, .int .i64 a.time]
/-- What an act leaves: the site's new world, the answer so far. -/
def ActRes (w : World) (base gs gw gc C go : Nat) (M' : MWorld) (code : Int) (o : MAns) (e : Ending) (w' : World) : Prop :=
  e = .returned (.int .i64 code) ∧ Site w' base gs gw gc C M' ∧ w'.heap[go]? = some (.cells (ansCells o) 41 (0, 0)) ∧
    Keeps [26, 36, 58, 41, 76] base w w'

theorem lockM_setC {M : MWorld} {C : Nat} {x : MClient} : lockM (setC M C x) C x = lockM M C x := by
  unfold lockM failM setC
  simp only [List.set_set]
theorem good_writes {M : MWorld} {x : MClient} (hg : WorldGood M) (hx : x ∈ M.clients) : (∀ y ∈ x.writes, y.key.size ≤ maxLen) ∧ x.writes.length ≤ 6 := by
  obtain ⟨h1, h2⟩ := writes_good (hg.clients x hx)
  refine ⟨fun y hy => ?_, h1⟩
  have := key_size (h2.1 y hy).1
  unfold maxLen; omega

set_option maxRecDepth 100000 in
set_option maxHeartbeats 4000000 in
theorem site_step_any (base gs gw gc C go : Nat) (M : MWorld) (x : MClient) (w : World) (hS : Site w base gs gw gc C M) (hg : WorldGood M) (hx : M.clients[C]? = some x)
    (hgo : w.heap[go]? = some (.cells (ansCells zeroAns) 41 (0, 0))) (hbo : base ≤ go) :
    Calls Try.prog 26 #[.pointer (some ⟨gs, 0, none⟩), .pointer (some ⟨go, 0, none⟩)] w (ActRes w base gs gw gc C go (stepM M C x).1 (stepM M C x).2.1 { zeroAns with time := (stepM M C x).2.2 }) := by
  obtain ⟨A, n, c, m, c', H, H', hS⟩ := hS
  obtain ⟨_, hd, _, hhd, _⟩ := hS.parts
  obtain ⟨hwk, hwl⟩ := good_writes hg (List.mem_of_getElem? hx)
  have HCB := Lib.hid (hg.clients x (List.mem_of_getElem? hx))
  have HS := Lib.hid hS
  have HG := Lib.hid hg
  have HX := Lib.hid hx
  have HD := Lib.hid hhd
  have HWK := Lib.hid hwk
  have HWL := Lib.hid hwl
  have HBO := Lib.hid hbo
  have HGO : Hid (w.heap[go]? = some (.cells #[.int .i64 0, .bool false, .string ⟨#[]⟩, .int .i64 0, .int .i64 0] 41 (0, 0))) := hgo
  clear hS hg hx hhd hwk hwl hgo hbo
  obtain ⟨hcs, hfs⟩ := blk_read HS.out.site
  obtain ⟨hco, hfo⟩ := blk_read HGO.out
  obtain ⟨c0, c1, c2, c3, c4⟩ := HS.out.cells HX.out HD.out
  obtain ⟨cur, hcur, _⟩ := own_blk HS.out.clients.2.2.1
  have hfc := (blk_read hcur).2
  clear hcur
  by_cases p0 : x.phase = 0
  · have HE : Hid (stepM M C x = (M, 6, 0)) := by show _ = _; unfold stepM; rw [if_pos p0]
    rw [p0] at c0
    clear p0
    go_enter Try.func26, Try.ntmps26
    go_wp2_with fail
    go_ret
    rw [HE.out]
    exact ⟨rfl, HS.out.any, HGO.out, Keeps.refl _ _ _⟩
  have HB := Lib.hid (busy_of HCB.out p0)
  by_cases p1 : x.phase = 1
  · rw [p1] at c0
    by_cases hn : x.writes.length = 0
    · have HE : Hid (stepM M C x = (setC M C zeroClient, 0, 0)) := by show _ = _; unfold stepM; rw [if_neg p0, if_pos ⟨p1, hn⟩]
      rw [hn] at c3
      clear p0 p1 hn
      go_enter Try.func26, Try.ntmps26
      go_wp2_with fail
      go_ret
      rw [HE.out]
      have hz := HS.out.putZero (x := zeroClient) rfl
      exact ⟨rfl, hz.1.any, hz.2.blk HGO.out (by decide), hz.2.wide (by simp)⟩
    · have hb := HB.out.phase
      have hat : x.at_ = 0 := by omega
      have HE : Hid (stepM M C x = ((lockM M C { x with phase := 2 }).1, (lockM M C { x with phase := 2 }).2, 0)) := by show _ = _; unfold stepM; rw [if_neg p0, if_neg (fun h => hn h.2), if_pos p1]
      have hne : ((x.writes.length : Int) == 0) = false := by rw [beq_eq_false_iff_ne]; omega
      have HAT := Lib.hid hat
      have HN := Lib.hid hn
      clear p0 p1 hn hat hb
      go_enter Try.func26, Try.ntmps26
      go_wp2_with fail
      obtain ⟨HSa, HKa⟩ := HS.out.put1 (i := 0) (x' := { x with phase := 2 }) (u := .int .i64 2) HX.out HD.out (by simp [clientCells]) (by omega) rfl
      refine (site_lock_any base gs gw gc C (setC M C { x with phase := 2 }) { x with phase := 2 } _ (by exact HSa.any) HG.out.rows HG.out.clock.1 (List.getElem?_set_self (List.getElem?_eq_some_iff.1 HX.out).1) HB.out.start.2 HWK.out HWL.out ⟨by show 0 ≤ x.at_; rw [HAT.out]; omega, by show x.at_ < _; rw [HAT.out]; have := HN.out; show (0 : Int) < (x.writes.length : Int); omega⟩).mono ?_
      rintro e w1 ⟨rfl, hS1, hk1⟩
      rw [lockM_setC] at hS1 ⊢
      have HS1 := Lib.hid hS1
      have HK1 : Hid (Keeps [26, 36, 58] base w w1) := (HKa.wide (by simp)).trans hk1
      clear hS1 hk1 HSa HKa hcs hfs hco hfo c0 c1 c2 c3 c4 hfc
      go_wp2_with fail
      go_ret
      rw [HE.out]
      exact ⟨rfl, HS1.out, HK1.out.blk HGO.out (by decide), HK1.out.wide (by simp)⟩
  by_cases p2 : x.phase = 2
  · rw [p2] at c0
    obtain ⟨j, hj⟩ : ∃ j : Nat, x.at_ = j := ⟨x.at_.toNat, by have := HB.out.phase; omega⟩
    rw [hj] at c4
    by_cases hlt : j < x.writes.length
    · have HE : Hid (stepM M C x = ((lockM M C x).1, (lockM M C x).2, 0)) := by show _ = _; unfold stepM; rw [if_neg p0, if_neg (fun h => p1 h.1), if_neg p1, if_pos ⟨p2, by omega⟩]
      have hd1 : decide (j < x.writes.length) = true := by simpa using hlt
      have hd2 : decide ((j : Int) < (x.writes.length : Int)) = true := by simpa using hlt
      have HJ := Lib.hid hj
      clear p0 p1 p2 hj
      go_enter Try.func26, Try.ntmps26
      go_wp2_with fail
      go_quiet (fail)
      go_wp2_with fail
      refine (site_lock_any base gs gw gc C M x _ (by exact (HS.out.drewN _).any) HG.out.rows HG.out.clock.1 HX.out HB.out.start.2 HWK.out HWL.out ⟨by rw [HJ.out]; omega, by rw [HJ.out]; omega⟩).mono ?_
      rintro e w1 ⟨rfl, hS1, hk1⟩
      have HS1 := Lib.hid hS1
      have HK1 : Hid (Keeps [26, 36, 58] base w w1) := ((Keeps.refl _ _ w).drewN _).trans hk1
      clear hS1 hk1 hcs hfs hco hfo c0 c1 c2 c3 c4 hfc
      go_wp2_with fail
      go_ret
      rw [HE.out]
      exact ⟨rfl, HS1.out, HK1.out.blk HGO.out (by decide), HK1.out.wide (by simp)⟩
    · have HE : Hid (stepM M C x = ({ M with clock := M.clock + 1, clients := M.clients.set C { x with phase := 3, at_ := 0, commit := M.clock + 1 } }, 0, M.clock + 1)) := by show _ = _; unfold stepM; rw [if_neg p0, if_neg (fun h => p1 h.1), if_neg p1, if_neg (fun h => hlt (by omega)), if_pos p2]
      have hd1 : decide (j < x.writes.length) = false := by simpa using hlt
      have hd2 : decide ((j : Int) < (x.writes.length : Int)) = false := by simpa using hlt
      clear p0 p1 p2 hj hlt
      go_enter Try.func26, Try.ntmps26
      go_wp2_with fail
      go_quiet (fail)
      go_upto_region 12 with (fail)
      obtain ⟨v, hv⟩ : ∃ v, v = w.drewN nq := ⟨_, rfl⟩
      rw [← hv]
      have HKv : Hid (Keeps [26, 36, 58] base w v) := by rw [hv]; exact (Keeps.refl _ _ w).drewN _
      have HSv : Hid (SiteAt v base gs gw gc C M A n c m c' H H') := by rw [hv]; exact HS.out.drewN _
      clear hv hcs hfs hco hfo c0 c1 c2 c3 c4 hfc
      obtain ⟨hcs, hfs⟩ := blk_read HSv.out.site
      go_cut [] (fun wx => Site wx base gs gw gc C { M with clock := M.clock + 1, clients := M.clients.set C { x with phase := 3, at_ := 0, commit := M.clock + 1 } } ∧ Keeps [26, 36, 58] base w wx)
      case first =>
        go_region_law
          ((go_simp; go_at_call 23; refine (site_tick_any base gs gw gc C M _ (by exact HSv.out.drew.any) HG.out.clock).mono ?_; rintro e w1 ⟨rfl, hS1, hk1⟩; obtain ⟨A1, n1, d1, m1, e1, H1, H1', hS1⟩ := hS1; obtain ⟨_, hdx, _, hhdx, _⟩ := hS1.parts; obtain ⟨hcs1, hfs1⟩ := blk_read hS1.site; obtain ⟨c0, c1, c2, c3, c4⟩ := hS1.cells HX.out hhdx; have hfc := hS1.frozen.2.2))
        all_goals
          go_wp2_with fail
          go_meet
          obtain ⟨a1, k1⟩ := hS1.put1 (i := 0) (x' := { x with phase := 3 }) (u := .int .i64 3) HX.out hhdx (by simp [clientCells]) (by omega) rfl
          obtain ⟨a2, k2⟩ := a1.put1 (i := 4) (x := { x with phase := 3 }) (x' := { x with phase := 3, at_ := 0 }) (u := .int .i64 0) (List.getElem?_set_self (List.getElem?_eq_some_iff.1 HX.out).1) hhdx (by simp [clientCells]) (by omega) rfl
          obtain ⟨a3, k3⟩ := a2.put1 (i := 2) (x := { x with phase := 3, at_ := 0 }) (x' := { x with phase := 3, at_ := 0, commit := M.clock + 1 }) (u := .int .i64 (M.clock + 1)) (by simp only [List.set_set]; exact List.getElem?_set_self (List.getElem?_eq_some_iff.1 HX.out).1) hhdx (by simp [clientCells]) (by omega) rfl
          simp only [List.set_set] at a3
          exact ⟨a3.any, HKv.out.trans (((((Keeps.refl _ _ v).drew).trans hk1).wide (by simp)).trans (((k1.trans k2).trans k3).wide (by simp)))⟩
      case rest =>
        obtain ⟨⟨A2, n2, d2, m2, e2, H2, H2', hS2⟩, hk2⟩ := hcut
        obtain ⟨_, hdx, _, hhdx, _⟩ := hS2.parts
        have HS2 := Lib.hid hS2
        have HK2 := Lib.hid hk2
        have HB2 := Lib.hid (hk2.blk HGO.out (by decide))
        clear hcs hfs hS2 hk2
        obtain ⟨hcs, hfs⟩ := blk_read HS2.out.site
        obtain ⟨hco, hfo⟩ := blk_read HB2.out
        obtain ⟨c0, c1, c2, c3, c4⟩ := HS2.out.cells (x := { x with phase := 3, at_ := 0, commit := M.clock + 1 }) (List.getElem?_set_self (List.getElem?_eq_some_iff.1 HX.out).1) hhdx
        clear hhdx
        dsimp only at c2
        go_wp2_with fail
        go_ret
        rw [HE.out]
        have hks : Keeps [41] base wc (wc.setCell ⟨go, 4, none⟩ (.int .i64 (M.clock + 1))) := (Keeps.refl _ _ wc).set HB2.out (by simp) HBO.out _
        exact ⟨rfl, (HS2.out.keep hks ⟨by decide, by decide, by decide, by decide, by decide, by decide⟩).any, by simpa [ansCells, zeroAns] using blk_set HB2.out 4 (.int .i64 (M.clock + 1)), (HK2.out.wide (by simp)).trans (hks.wide (by simp))⟩
  · have hb := HB.out.phase
    have HE : Hid (stepM M C x = ((closeM M C x).1, (closeM M C x).2, 0)) := by show _ = _; unfold stepM; rw [if_neg p0, if_neg (fun h => p1 h.1), if_neg p1, if_neg (fun h => p2 h.1), if_neg p2]
    have HAT : Hid (0 ≤ x.at_ ∧ x.at_ < (x.writes.length : Int)) := by show _ ∧ _; omega
    have hph : x.phase = 3 ∨ x.phase = 4 := by omega
    clear p0 p1 p2 hb
    rcases hph with hph | hph
    all_goals
      rw [hph] at c0
      clear hph
      go_enter Try.func26, Try.ntmps26
      go_wp2_with fail
      go_quiet (fail)
      go_wp2_with fail
      refine (site_close_any base gs gw gc C M x _ (by exact (HS.out.drewN _).any) HG.out.rows HG.out.clock.1 HX.out HB.out.start.2 HWK.out HWL.out HAT.out).mono ?_
      rintro e w1 ⟨rfl, hS1, hk1⟩
      have HS1 := Lib.hid hS1
      have HK1 : Hid (Keeps [26, 36, 58] base w w1) := ((Keeps.refl _ _ w).drewN _).trans hk1
      clear hS1 hk1 hcs hfs hco hfo c0 c1 c2 c3 c4 hfc
      go_wp2_with fail
      go_ret
      rw [HE.out]
      exact ⟨rfl, HS1.out, HK1.out.blk HGO.out (by decide), HK1.out.wide (by simp)⟩
end Go.Proofs.Ytniomgngiiiklab
