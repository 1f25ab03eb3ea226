/- The walk of the reference's stepped: all ways. -/
import Derived.Test.YtniomgngiiiklabStepRefAM
import Derived.Test.YtniomgngiiiklabStepRefBM
import Derived.Test.YtniomgngiiiklabStepRefFM
import Derived.Test.YtniomgngiiiklabStepRefCM
import Derived.Test.YtniomgngiiiklabStepRefDM
import Derived.Test.YtniomgngiiiklabStepRefEM
import Derived.Test.YtniomgngiiiklabOwnsM
import Derived.Test.YtniomgngiiiklabFactsM
import Derived.Test.YtniomgngiiiklabMayWM
import Derived.Test.YtniomgngiiiklabWorldCopyM
namespace Go.Proofs.Ytniomgngiiiklab
open Go.RowKit

theorem stepped_any (C base gc n c m c' : Nat) (M : MWorld) (x : MClient) (A : Option Addr) (H H' : Heads) (w : World) (hS : RefAt w base gc M A n c m c' H H') (hg : WorldGood M) (hlt : M.clock ≠ 1099511627376) (hx : M.clients[C]? = some x) :
    Calls Try.prog 35 #[.agg #[.slice A n c, .int .i64 M.clock, .slice (some ⟨gc, 0, none⟩) m c'], .int .i64 (C : Int)] w (StepRet w base gc m c' (stepM M C x)) := by
  by_cases hway : x.phase = 0 ∨ x.writes.length = 0 ∨ (x.phase ≤ 2 ∧ x.at_ = x.writes.length)
  · exact stepped_front C base gc n c m c' M x A H H' w hS hg hlt hx hway
  · have hp0 : x.phase ≠ 0 := fun h => hway (.inl h)
    have hw0 : x.writes.length ≠ 0 := fun h => hway (.inr (.inl h))
    have hwy : ¬ (x.phase ≤ 2 ∧ x.at_ = x.writes.length) := fun h => hway (.inr (.inr h))
    by_cases hp2 : x.phase ≤ 2
    · by_cases hl : lockAns M.rows x (writeNo x 0) (writeNo x x.at_) = 0
      · exact stepped_lock C base gc n c m c' M x A H H' w hS hg hlt hx hp0 hw0 hwy hp2 hl
      · exact stepped_nolock C base gc n c m c' M x A H H' w hS hg hlt hx hp0 hw0 hwy hp2 hl
    · by_cases hc : commitCode (rv M.rows (writeNo x x.at_).key) x.start x.commit = 0
      · exact stepped_closed C base gc n c m c' M x A H H' w hS hg hlt hx hp0 hw0 hwy hp2 hc
      · by_cases ha : x.at_ = 0
        · exact stepped_gone C base gc n c m c' M x A H H' w hS hg hlt hx hp0 hw0 hwy hp2 ⟨hc, ha⟩
        · exact stepped_late C base gc n c m c' M x A H H' w hS hg hlt hx hp0 hw0 hwy hp2 ⟨hc, ha⟩
end Go.Proofs.Ytniomgngiiiklab

/- The walk of the reference's DidOf: kind 4. -/
namespace Go.Proofs.Ytniomgngiiiklab
open Go.RowKit

set_option maxRecDepth 100000 in
set_option maxHeartbeats 8000000 in
theorem didOf_4 (M : MWorld) (kind cc : Int) (key val : ByteArray) (A A' : Option Addr) (n c n' c' : Nat) (w : World) (hr : RowsOk w w.heap.size A n c M.rows) (hc : ClientsOk w w.heap.size A' n' c' M.clients) (hks : key.size ≤ maxLen) (C : Nat) (hcC : cc = C) (hok : doCode M ⟨kind, cc, key, val⟩ = 0) (hkind : kind = 4) :
    Calls Try.prog 12 #[.agg #[.slice A n c, .int .i64 M.clock, .slice A' n' c'], .agg #[.int .i64 kind, .int .i64 cc, .string key, .string val]] w (DoRet w (doM M ⟨kind, cc, key, val⟩)) := by
  subst hcC hkind
  have HR := Lib.hid hr
  have HC := Lib.hid hc
  have HN' := Lib.hid hc.len
  have HKS := Lib.hid hks
  clear hr hc hks
  go_enter Try.func12, Try.ntmps12
  go_wp2_with fail
  obtain ⟨v, hv⟩ : ∃ v, v = (((w.alloc (.cells #[.slice A n c, .int .i64 M.clock, .slice A' n' c'] 36)).alloc (.cells #[.int .i64 4, .int .i64 (C : Int), .string key, .string val] 38)).alloc (.cells #[.slice none 0 0, .int .i64 0, .slice none 0 0] 36)).alloc (.cells #[.int .i64 0, .bool false, .string ⟨#[]⟩, .int .i64 0, .int .i64 0] 41) := ⟨_, rfl⟩
  rw [← hv]
  obtain ⟨hb0, hBw, hBa, hB4, hB5⟩ : Below w.heap.size w v ∧ v.heap[w.heap.size]? = some (.cells #[.slice A n c, .int .i64 M.clock, .slice A' n' c'] 36 (0, 0)) ∧ v.heap[w.heap.size + 1]? = some (.cells #[.int .i64 4, .int .i64 (C : Int), .string key, .string val] 38 (0, 0)) ∧
      v.heap[w.heap.size + 1 + 1]? = some (.cells #[.slice none 0 0, .int .i64 0, .slice none 0 0] 36 (0, 0)) ∧ v.heap[w.heap.size + 1 + 1 + 1]? = some (.cells #[.int .i64 0, .bool false, .string ⟨#[]⟩, .int .i64 0, .int .i64 0] 41 (0, 0)) := by rw [hv]; exact blk_new4 w
  clear hv
  obtain ⟨gw, hgw⟩ : ∃ gw, gw = w.heap.size := ⟨_, rfl⟩
  obtain ⟨ga, hga⟩ : ∃ ga, ga = gw + 1 := ⟨_, rfl⟩
  obtain ⟨g4, hg4⟩ : ∃ g4, g4 = gw + 1 + 1 := ⟨_, rfl⟩
  obtain ⟨g5, hg5⟩ : ∃ g5, g5 = gw + 1 + 1 + 1 := ⟨_, rfl⟩
  rw [← hgw, ← hg5] at hB5
  rw [← hgw, ← hg4] at hB4
  rw [← hgw, ← hga] at hBa
  rw [← hgw] at hBw
  rw [← hgw, ← hg5, ← hg4, ← hga]
  have HBASE : Hid (gw = w.heap.size) := hgw
  have hn1 : ¬ (g4 = g5) := by omega
  have hn2 : ¬ (g5 = g4) := by omega
  have HN45 := Lib.hid hn1
  have HL0 := Lib.hid hb0
  have HBw := Lib.hid hBw
  have HBa := Lib.hid hBa
  have HB4 := Lib.hid hB4
  have HB5 := Lib.hid hB5
  have HG4 : Hid (gw < g4 ∧ gw < g5) := by show _ ∧ _; omega
  clear hg4 hg5 hga hgw hb0 hBw hBa hB4 hB5
  have HRv : Hid (RowsOk v v.heap.size A n c M.rows) := (HR.out.below HL0.out (Nat.le_refl _)).more HL0.out.size
  have HCv : Hid (ClientsOk v v.heap.size A' n' c' M.clients) := (HC.out.below HL0.out (Nat.le_refl _)).more HL0.out.size
  refine (worldMay_any M A A' n c n' c' v HRv.out HCv.out).mono ?_
  rintro e w1 ⟨rfl, hb⟩
  have HL1 := Lib.hid (HL0.out.trans (hb.mono HL0.out.size))
  have HB1w := Lib.hid (blk_keep hb HBw.out (blk_lt HBw.out))
  have HB1a := Lib.hid (blk_keep hb HBa.out (blk_lt HBa.out))
  have HB14 := Lib.hid (blk_keep hb HB4.out (blk_lt HB4.out))
  have HB15 := Lib.hid (blk_keep hb HB5.out (blk_lt HB5.out))
  have HR1 : Hid (RowsOk w1 w1.heap.size A n c M.rows) := (HRv.out.below hb (Nat.le_refl _)).more hb.size
  have HC1 : Hid (ClientsOk w1 w1.heap.size A' n' c' M.clients) := (HCv.out.below hb (Nat.le_refl _)).more hb.size
  clear hb HRv HCv HBw HBa HB4 HB5 HR HC HL0
  obtain ⟨hcw, hfw⟩ := blk_read HB1w.out
  obtain ⟨hca, hfa⟩ := blk_read HB1a.out
  obtain ⟨hg, hkk, hcc, hck⟩ := doCode_ok hok
  have HOK := Lib.hid hok
  have HG := Lib.hid hg
  have hw : worldB M = true := worldB_iff.2 hg
  rw [hw]
  have HX : Hid (inB 4 1 6 = true) := by show _ = _; decide
  have hn5 : n' ≤ 5 := by rw [← HN'.out]; exact hg.few
  have hwn : IntKind.i64.wrap ((n' : Int) - 1) = (n' : Int) - 1 := IntWalk.i64_in _ (by omega)
  have HY : Hid (inB (C : Int) 0 ((n' : Int) - 1) = true) := by show _ = _; have := HN'.out; have h2 := hcc.2; dsimp only at h2; unfold inB; simp only [Bool.and_eq_true, decide_eq_true_eq]; omega
  have hcl : C < n' := by have h2 := hcc.2; have := HN'.out; dsimp only at h2; omega
  have hclk : decide ((1099511627376 : Int) ≤ M.clock) = false := decide_eq_false (by have := hg.clock.2; omega)
  have HCK : Hid (M.clock ≠ 1099511627376) := hck
  clear hok hg hkk hcc hck hw
  go_wp2_with fail
  refine (in_is HX.out w1).mono ?_
  rintro e w' ⟨rfl, rfl⟩
  go_wp2_with fail
  refine (in_is HY.out w1).mono ?_
  rintro e w' ⟨rfl, rfl⟩
  go_wp2_with fail
  refine (worldCopy_any M A A' n c n' c' w1 HR1.out HC1.out).mono ?_
  rintro e w2 ⟨B, d, hs, B', d', hs', rfl, hor, hoc, hb⟩
  have HL2 := Lib.hid (HL1.out.trans (hb.mono HL1.out.size))
  have HB2w := Lib.hid (blk_keep hb HB1w.out (blk_lt HB1w.out))
  have HB2a := Lib.hid (blk_keep hb HB1a.out (blk_lt HB1a.out))
  have HB24 := Lib.hid (blk_keep hb HB14.out (blk_lt HB14.out))
  have HB25 := Lib.hid (blk_keep hb HB15.out (blk_lt HB15.out))
  have HOR := Lib.hid (hor.more HL1.out.size)
  have HOC := Lib.hid (hoc.more HL1.out.size)
  clear hb hor hoc hcw hfw hca hfa hwn hclk
  have hcM : M.clients[C]? = some (M.clients[C]'(by rw [HN'.out]; exact hcl)) := List.getElem?_eq_getElem _
  have hhC : hs'[C]? = some (hs'[C]'(by rw [HOC.out.2.1]; exact hcl)) := List.getElem?_eq_getElem _
  obtain ⟨gc, rfl, -, -⟩ := own_cell HOC.out.2.2.1 (clientsCells_at hcM hhC (i := 0) rfl)
  obtain ⟨hcw, hfw⟩ := blk_read HB2w.out
  have HCLT := Lib.hid hcl
  clear hcM hhC hn5
  go_upto_region 10 with (fail)
  obtain ⟨v3, hv3⟩ : ∃ v3, v3 = ((w2.setCell ⟨gw, 0, none⟩ (.slice B n d)).setCell ⟨gw, 1, none⟩ (.int .i64 M.clock)).setCell ⟨gw, 2, none⟩ (.slice (some ⟨gc, 0, none⟩) n' d') := ⟨_, rfl⟩
  rw [← hv3]
  have hgb : w.heap.size ≤ gw := by have := HBASE.out; omega
  have HK3 : Hid (Keeps [36] w.heap.size w2 v3) := by rw [hv3]; exact Keeps.set3r HB2w.out (by simp) hgb _ _ _ _ _ _
  have HB3w : Hid (v3.heap[gw]? = some (.cells #[.slice B n d, .int .i64 M.clock, .slice (some ⟨gc, 0, none⟩) n' d'] 36 (0, 0))) := by show _ = _; rw [hv3]; exact blk_row3r HB2w.out _ _ _
  have HB34 : Hid (v3.heap[g4]? = some (.cells #[.slice none 0 0, .int .i64 0, .slice none 0 0] 36 (0, 0))) := by
    show _ = _
    have hne : g4 ≠ gw := by have := HG4.out.1; omega
    rw [hv3]; exact blk_far (blk_far (blk_far HB24.out (p := ⟨gw, 0, none⟩) hne _) (p := ⟨gw, 1, none⟩) hne _) (p := ⟨gw, 2, none⟩) hne _
  have HB3a := Lib.hid (HK3.out.blk HB2a.out (by decide))
  have HB35 := Lib.hid (HK3.out.blk HB25.out (by decide))
  have HL3 := Lib.hid (HL2.out.trans HK3.out.below)
  have HAT3 : Hid (RefAt v3 w.heap.size gc M B n d n' d' hs hs') := ⟨HK3.out.rows HOR.out (by decide) (by decide), HK3.out.clients HOC.out (by decide) (by decide)⟩
  have HGC : Hid (gc < v3.heap.size ∧ w.heap.size ≤ gc) := ⟨HAT3.out.lt.2, HAT3.out.lt.1⟩
  clear hv3 hcw hfw HOR HOC HK3 HB2w HB2a HB24 HB25 HB1w HB1a HB14 HB15 HL1 HL2 HR1 HC1
  obtain ⟨hcw, hfw⟩ := blk_read HB3w.out
  obtain ⟨hca, hfa⟩ := blk_read HB3a.out
  obtain ⟨x, hx⟩ : ∃ x, M.clients[C]? = some x := ⟨_, List.getElem?_eq_getElem (by rw [HN'.out]; exact hcl)⟩
  obtain ⟨_, hd, hhd⟩ := HAT3.out.head hx
  have HXC := Lib.hid hx
  have HHD := Lib.hid hhd
  obtain ⟨nw, hnw⟩ : ∃ nw, nw = x.writes.length := ⟨_, rfl⟩
  obtain ⟨c0, c1, c2, c3, c4⟩ := HAT3.out.cells hx hhd
  rw [← hnw] at c3
  have HNW := Lib.hid hnw
  clear hx hhd hnw
  have hci : (C : Int) < (n' : Int) := by omega
  have hc0 : (0 : Int) ≤ (C : Int) := by omega
  clear hcl
  go_upto_region 12 with (fail)
  obtain ⟨v5, hv5⟩ : ∃ v5, v5 = (v3.alloc (.cells #[.int .i64 x.phase, .int .i64 x.start, .int .i64 x.commit, .slice hd.1 nw hd.2, .int .i64 x.at_] 58)).alloc (.cells #[.int .i64 0, .bool false, .string ⟨#[]⟩, .int .i64 0, .int .i64 0] 41) := ⟨_, rfl⟩
  rw [← hv5]
  obtain ⟨hb5, hBx, hBo⟩ : Below v3.heap.size v3 v5 ∧ v5.heap[v3.heap.size]? = some (.cells #[.int .i64 x.phase, .int .i64 x.start, .int .i64 x.commit, .slice hd.1 nw hd.2, .int .i64 x.at_] 58 (0, 0)) ∧ v5.heap[v3.heap.size + 1]? = some (.cells #[.int .i64 0, .bool false, .string ⟨#[]⟩, .int .i64 0, .int .i64 0] 41 (0, 0)) := by rw [hv5]; exact blk_new2 v3
  obtain ⟨gx, hgx⟩ : ∃ gx, gx = v3.heap.size := ⟨_, rfl⟩
  obtain ⟨go, hgo⟩ : ∃ go, go = gx + 1 := ⟨_, rfl⟩
  rw [← hgx] at hBx
  rw [← hgx, ← hgo] at hBo
  rw [← hgx, ← hgo]
  have HP : Hid (DidPos w gc gw gx go g4 g5) := by
    have h3 := HL3.out.size
    have h4 := HG4.out
    have hbb := HBASE.out
    have h5 := blk_lt HB35.out
    have hgg := HGC.out
    exact ⟨by omega, by omega, by omega, by omega, by omega, by omega, by omega, HN45.out, by omega⟩
  have HD : Hid (DidAt w v5 gc n' d' gw go g4 g5 M B n d hs hs' zeroAns) :=
    ⟨HAT3.out.below hb5 (Nat.le_refl _), HL3.out.trans (hb5.mono HL3.out.size), blk_keep hb5 HB3w.out (blk_lt HB3w.out), hBo, blk_keep hb5 HB34.out (blk_lt HB34.out), blk_keep hb5 HB35.out (blk_lt HB35.out)⟩
  have HBX := Lib.hid hBx
  have HBA := Lib.hid (blk_keep hb5 HB3a.out (blk_lt HB3a.out))
  have HNN : Hid (¬ (gw = g4) ∧ ¬ (g4 = gw) ∧ ¬ (g5 = go) ∧ ¬ (go = g5) ∧ ¬ (gw = g5) ∧ ¬ (g5 = gw) ∧ ¬ (go = g4) ∧ ¬ (g4 = go)) := by
    show _ ∧ _
    have h4 := HG4.out
    have h5 := blk_lt HB35.out
    have h6 := blk_lt HB34.out
    omega
  clear hv5 hb5 hBx hBo hgx hgo HB3w HB34 HB35 HB3a HL3 HAT3 HGC hcw hfw hca hfa c0 c1 c2 c3 c4 hgb HG4 HX HY
  have HCB := Lib.hid (HG.out.clients x (List.mem_of_getElem? HXC.out))
  obtain ⟨hca, hfa⟩ := blk_read HBA.out
  go_upto_block 0 with (fail)
  go_cut [] (fun wx => (∃ A2 n2 d2 H2 H2', DidAt w wx gc n' d' gw go g4 g5 (actM M ⟨4, (C : Int), key, val⟩ C x).1 A2 n2 d2 H2 H2' (actM M ⟨4, (C : Int), key, val⟩ C x).2) ∧ wx.heap[ga]? = some (.cells #[.int .i64 4, .int .i64 (C : Int), .string key, .string val] 38 (0, 0)))
  case first =>
    clear HNN
    obtain ⟨hcx, hfx⟩ := blk_read HBX.out
    obtain ⟨hcw, hfw⟩ := blk_read (show v5.heap[gw]? = some (.cells #[.slice B n d, .int .i64 M.clock, .slice (some ⟨gc, 0, none⟩) n' d'] 36 (0, 0)) from HD.out.bw)
    obtain ⟨hco, hfo⟩ := blk_read (show v5.heap[go]? = some (.cells #[.int .i64 0, .bool false, .string ⟨#[]⟩, .int .i64 0, .int .i64 0] 41 (0, 0)) from HD.out.bo)
    obtain ⟨c0, c1, c2, c3, c4⟩ := HD.out.at_.cells HXC.out HHD.out
    have hfc := HD.out.at_.frozen
    rw [← HNW.out] at c3
    have HBAD : Hid (∀ cd : Int, (∃ A2 n2 d2 H2 H2', DidAt w (v5.setCell ⟨go, 0, none⟩ (.int .i64 cd)) gc n' d' gw go g4 g5 M A2 n2 d2 H2 H2' { zeroAns with code := cd }) ∧ (v5.setCell ⟨go, 0, none⟩ (.int .i64 cd)).heap[ga]? = some (.cells #[.int .i64 4, .int .i64 (C : Int), .string key, .string val] 38 (0, 0))) := fun cd =>
      ⟨⟨_, _, _, _, _, HD.out.ans1 (i := 0) HP.out rfl⟩, blk_far HBA.out (p := ⟨go, 0, none⟩) (blk_ne HBA.out HD.out.bo (by decide)) _⟩
    have HE : Hid (actM M ⟨4, (C : Int), key, val⟩ C x = ((stepM M C x).1, { zeroAns with code := (stepM M C x).2.1, time := (stepM M C x).2.2 })) := act_step rfl
    clear c0 c1 c2 c3 c4 hfc
    go_wp2_with fail
    refine (stepped_any C w.heap.size gc n d n' d' M x B hs hs' v5 HD.out.at_ HG.out HCK.out HXC.out).mono ?_
    generalize stepM M C x = u at HE
    obtain ⟨M6, cd, tm⟩ := u
    rintro e w6 ⟨A3, n3, c3, rfl, H3, H3', hr6, hk6⟩
    dsimp only at hr6 HE ⊢
    have HAT6 := Lib.hid hr6
    have HK6 := Lib.hid hk6
    have HA6 := Lib.hid (hk6.blk HBA.out (by decide))
    have HBW6 := Lib.hid (hk6.blk HD.out.bw (by decide))
    have HBO6 := Lib.hid (hk6.blk HD.out.bo (by decide))
    clear hr6 hk6 hca hfa hcw hfw hco hfo hcx hfx
    obtain ⟨hcw, hfw⟩ := blk_read HBW6.out
    obtain ⟨hco, hfo⟩ := blk_read (show w6.heap[go]? = some (.cells #[.int .i64 0, .bool false, .string ⟨#[]⟩, .int .i64 0, .int .i64 0] 41 (0, 0)) from HBO6.out)
    have hnwo : ¬ (go = gw) := blk_ne HD.out.bo HD.out.bw (by decide)
    go_wp2_with fail
    go_meet
    rw [HE.out]
    have hz := HD.out.setWorld HP.out HAT6.out HK6.out
    have ha := blk_far (blk_far (blk_far HA6.out (p := ⟨gw, 0, none⟩) (blk_ne HA6.out HBW6.out (by decide)) (.slice A3 n3 c3)) (p := ⟨gw, 1, none⟩) (blk_ne HA6.out HBW6.out (by decide)) (.int .i64 M6.clock)) (p := ⟨gw, 2, none⟩) (blk_ne HA6.out HBW6.out (by decide)) (.slice (some ⟨gc, 0, none⟩) n' d')
    have hne : ga ≠ go := blk_ne ha hz.bo (by decide)
    refine ⟨⟨_, _, _, _, _, hz.ans (Keeps.set5 hz.bo (by simp) HP.out.po 0 1 2 3 4 _ _ _ _ _) (o' := { zeroAns with code := cd, time := tm }) (blk_row5 hz.bo _ _ _ _ _) (row5_other HP.out.n5o _ _ _ _ _ _ _ _ _ _)⟩, ?_⟩
    exact blk_row5_far ha hne _ _ _ _ _
  case rest =>
    have HF : Hid (doM M ⟨4, (C : Int), key, val⟩ = ((actM M ⟨4, (C : Int), key, val⟩ C x).1, { (actM M ⟨4, (C : Int), key, val⟩ C x).2 with phase := (clientAt (actM M ⟨4, (C : Int), key, val⟩ C x).1 C).phase }, 0)) := doM_ok HOK.out rfl (by rw [clientAt_some HXC.out])
    generalize actM M ⟨4, (C : Int), key, val⟩ C x = p at hcut HF
    obtain ⟨M', o⟩ := p
    obtain ⟨⟨A2, n2, d2, H2, H2', hd2⟩, hba⟩ := hcut
    dsimp only at hd2 HF
    have HD2 := Lib.hid hd2
    have HA2 := Lib.hid hba
    obtain ⟨x', hx'⟩ : ∃ x', M'.clients[C]? = some x' := ⟨_, List.getElem?_eq_getElem (by rw [hd2.at_.clients.1]; exact HCLT.out)⟩
    obtain ⟨_, hdx, hhdx⟩ := hd2.at_.head hx'
    rw [clientAt_some hx'] at HF
    obtain ⟨k0, _, _, _, _⟩ := hd2.at_.cells hx' hhdx
    clear hd2 hba hca hfa hhdx hx' HD HBX HBA HXC HHD HNW HCB HOK HG HCK
    obtain ⟨hca, hfa⟩ := blk_read HA2.out
    obtain ⟨hcw, hfw⟩ := blk_read HD2.out.bw
    obtain ⟨hco, hfo⟩ := blk_read HD2.out.bo
    go_upto_region 49 with (fail)
    obtain ⟨v6, hv6⟩ : ∃ v6, v6 = wc.setCell ⟨go, 3, none⟩ (.int .i64 x'.phase) := ⟨_, rfl⟩
    rw [← hv6]
    have HD6 : Hid (DidAt w v6 gc n' d' gw go g4 g5 M' A2 n2 d2 H2 H2' { o with phase := x'.phase }) := by show DidAt _ _ _ _ _ _ _ _ _ _ _ _ _ _ _ _; rw [hv6]; exact HD2.out.ans1 (i := 3) HP.out rfl
    clear hv6 hca hfa hcw hfw hco hfo k0 HD2 HA2
    obtain ⟨hcw, hfw⟩ := blk_read HD6.out.bw
    obtain ⟨hco, hfo⟩ := blk_read (show v6.heap[go]? = some (.cells #[.int .i64 o.code, .bool o.is, .string o.value, .int .i64 x'.phase, .int .i64 o.time] 41 (0, 0)) from HD6.out.bo)
    obtain ⟨hc4, hf4⟩ := blk_read HD6.out.b4
    obtain ⟨hc5, hf5⟩ := blk_read HD6.out.b5
    obtain ⟨m1, m2, m3, m4, m5, m6, m7, m8⟩ := HNN.out
    go_cut [6] (fun ev wx => ev = .int .i64 0 ∧ wx.heap[g4]? = some (.cells #[.slice A2 n2 d2, .int .i64 M'.clock, .slice (some ⟨gc, 0, none⟩) n' d'] 36 (0, 0)) ∧
      wx.heap[g5]? = some (.cells #[.int .i64 o.code, .bool o.is, .string o.value, .int .i64 x'.phase, .int .i64 o.time] 41 (0, 0)) ∧ Below w.heap.size v6 wx ∧ Keeps [36, 41] w.heap.size v6 wx)
    case first =>
      go_region
      all_goals
        go_wp2_with fail
        go_meet
        exact ⟨rfl, ref_end HD6.out.b4 HD6.out.b5 HP.out.p4 HP.out.p5 HN45.out _ _ _ _ _ _ _ _⟩
    case rest =>
      obtain ⟨rfl, h4, h5, hb, hk⟩ := hcut
      have HDN := Lib.hid (HD6.out.done hb hk)
      clear hb hk hcw hfw hco hfo hc4 hf4 hc5 hf5 m1 m2 m3 m4 m5 m6 m7 m8
      obtain ⟨hc4, hf4⟩ := blk_read h4
      obtain ⟨hc5, hf5⟩ := blk_read h5
      clear h4 h5
      go_wp2_with fail
      refine bodyPost_ret (v := .tuple #[.agg #[.slice A2 n2 d2, .int .i64 M'.clock, .slice (some ⟨gc, 0, none⟩) n' d'], .agg #[.int .i64 o.code, .bool o.is, .string o.value, .int .i64 x'.phase, .int .i64 o.time], .int .i64 0]) (by simp [results, Try.results12, go_sem, hc4, hc5]) rfl ?_
      rw [HF.out]
      exact ⟨A2, n2, d2, H2, some ⟨gc, 0, none⟩, n', d', H2', rfl, HDN.out.1, HDN.out.2.1, HDN.out.2.2⟩
end Go.Proofs.Ytniomgngiiiklab
