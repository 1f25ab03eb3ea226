/- The walk of the reference's DidOf: the guards. -/
import Derived.Test.YtniomgngiiiklabOwnsM
import Derived.Test.YtniomgngiiiklabFactsM
import Derived.Test.YtniomgngiiiklabMayWM
import Derived.Test.YtniomgngiiiklabWorldCopyM
namespace Go.Proofs.Ytniomgngiiiklab
open Go.RowKit

set_option maxRecDepth 100000 in
set_option maxHeartbeats 8000000 in
theorem didOf_bad (M : MWorld) (kind cc : Int) (key val : ByteArray) (A A' : Option Addr) (n c n' c' : Nat) (w : World) (hr : RowsOk w w.heap.size A n c M.rows) (hc : ClientsOk w w.heap.size A' n' c' M.clients) (hks : key.size ≤ maxLen) (hbad : doCode M ⟨kind, cc, key, val⟩ ≠ 0) :
    Calls Try.prog 12 #[.agg #[.slice A n c, .int .i64 M.clock, .slice A' n' c'], .agg #[.int .i64 kind, .int .i64 cc, .string key, .string val]] w (DoRet w (doM M ⟨kind, cc, key, val⟩)) := by
  have HR := Lib.hid hr
  have HC := Lib.hid hc
  have HN' := Lib.hid hc.len
  have HKS := Lib.hid hks
  clear hr hc hks
  go_enter Try.func12, Try.ntmps12
  go_wp2_with fail
  obtain ⟨v, hv⟩ : ∃ v, v = (((w.alloc (.cells #[.slice A n c, .int .i64 M.clock, .slice A' n' c'] 36)).alloc (.cells #[.int .i64 kind, .int .i64 cc, .string key, .string val] 38)).alloc (.cells #[.slice none 0 0, .int .i64 0, .slice none 0 0] 36)).alloc (.cells #[.int .i64 0, .bool false, .string ⟨#[]⟩, .int .i64 0, .int .i64 0] 41) := ⟨_, rfl⟩
  rw [← hv]
  obtain ⟨hb0, hBw, hBa, hB4, hB5⟩ : Below w.heap.size w v ∧ v.heap[w.heap.size]? = some (.cells #[.slice A n c, .int .i64 M.clock, .slice A' n' c'] 36 (0, 0)) ∧ v.heap[w.heap.size + 1]? = some (.cells #[.int .i64 kind, .int .i64 cc, .string key, .string val] 38 (0, 0)) ∧
      v.heap[w.heap.size + 1 + 1]? = some (.cells #[.slice none 0 0, .int .i64 0, .slice none 0 0] 36 (0, 0)) ∧ v.heap[w.heap.size + 1 + 1 + 1]? = some (.cells #[.int .i64 0, .bool false, .string ⟨#[]⟩, .int .i64 0, .int .i64 0] 41 (0, 0)) := by rw [hv]; exact blk_new4 w
  clear hv
  obtain ⟨gw, hgw⟩ : ∃ gw, gw = w.heap.size := ⟨_, rfl⟩
  obtain ⟨ga, hga⟩ : ∃ ga, ga = gw + 1 := ⟨_, rfl⟩
  obtain ⟨g4, hg4⟩ : ∃ g4, g4 = gw + 1 + 1 := ⟨_, rfl⟩
  obtain ⟨g5, hg5⟩ : ∃ g5, g5 = gw + 1 + 1 + 1 := ⟨_, rfl⟩
  rw [← hgw, ← hg5] at hB5
  rw [← hgw, ← hg4] at hB4
  rw [← hgw, ← hga] at hBa
  rw [← hgw] at hBw
  rw [← hgw, ← hg5, ← hg4, ← hga]
  have HBASE : Hid (gw = w.heap.size) := hgw
  have hn1 : ¬ (g4 = g5) := by omega
  have hn2 : ¬ (g5 = g4) := by omega
  have HN45 := Lib.hid hn1
  have HL0 := Lib.hid hb0
  have HBw := Lib.hid hBw
  have HBa := Lib.hid hBa
  have HB4 := Lib.hid hB4
  have HB5 := Lib.hid hB5
  have HG4 : Hid (gw < g4 ∧ gw < g5) := by show _ ∧ _; omega
  clear hg4 hg5 hga hgw hb0 hBw hBa hB4 hB5
  have HRv : Hid (RowsOk v v.heap.size A n c M.rows) := (HR.out.below HL0.out (Nat.le_refl _)).more HL0.out.size
  have HCv : Hid (ClientsOk v v.heap.size A' n' c' M.clients) := (HC.out.below HL0.out (Nat.le_refl _)).more HL0.out.size
  refine (worldMay_any M A A' n c n' c' v HRv.out HCv.out).mono ?_
  rintro e w1 ⟨rfl, hb⟩
  have HL1 := Lib.hid (HL0.out.trans (hb.mono HL0.out.size))
  have HB1w := Lib.hid (blk_keep hb HBw.out (blk_lt HBw.out))
  have HB1a := Lib.hid (blk_keep hb HBa.out (blk_lt HBa.out))
  have HB14 := Lib.hid (blk_keep hb HB4.out (blk_lt HB4.out))
  have HB15 := Lib.hid (blk_keep hb HB5.out (blk_lt HB5.out))
  have HR1 : Hid (RowsOk w1 w1.heap.size A n c M.rows) := (HRv.out.below hb (Nat.le_refl _)).more hb.size
  have HC1 : Hid (ClientsOk w1 w1.heap.size A' n' c' M.clients) := (HCv.out.below hb (Nat.le_refl _)).more hb.size
  clear hb HRv HCv HBw HBa HB4 HB5 HR HC HL0
  obtain ⟨hcw, hfw⟩ := blk_read HB1w.out
  obtain ⟨hca, hfa⟩ := blk_read HB1a.out
  obtain ⟨hc4, hf4⟩ := blk_read HB14.out
  obtain ⟨hc5, hf5⟩ := blk_read HB15.out
  have HBAD := Lib.hid hbad
  clear hbad
  cases hw : worldB M
  · have HE : Hid (doCode M ⟨kind, cc, key, val⟩ = 6) := by show _ = _; unfold doCode; rw [if_pos hw]
    clear hw
    go_upto_region 2 with (fail)
    go_cut [6] (fun ev wx => ev = .int .i64 6 ∧ wx.heap[g4]? = some (.cells #[.slice none 0 0, .int .i64 0, .slice none 0 0] 36 (0, 0)) ∧ wx.heap[g5]? = some (.cells #[.int .i64 0, .bool false, .string ⟨#[]⟩, .int .i64 0, .int .i64 0] 41 (0, 0)) ∧ Below w.heap.size w wx)
    case first =>
      go_wp2_with fail
      go_meet
      exact ⟨rfl, blk_row5_far (blk_row3r HB14.out _ _ _) HN45.out _ _ _ _ _, blk_row5 (blk_far (blk_far (blk_far HB15.out (p := ⟨g4, 0, none⟩) (fun e => HN45.out e.symm) _) (p := ⟨g4, 1, none⟩) (fun e => HN45.out e.symm) _) (p := ⟨g4, 2, none⟩) (fun e => HN45.out e.symm) _) _ _ _ _ _, below_row5 (by
        have h := HG4.out.1
        have hb := HBASE.out
        exact ((HL1.out.setCell (p := ⟨g4, 0, none⟩) (by show _ ≤ g4; omega) _).setCell (p := ⟨g4, 1, none⟩) (by show _ ≤ g4; omega) _).setCell (p := ⟨g4, 2, none⟩) (by show _ ≤ g4; omega) _) (by have := HG4.out.2; have := HBASE.out; omega) _ _ _ _ _⟩
    case rest =>
      obtain ⟨rfl, h4, h5, hb⟩ := hcut
      have HL := Lib.hid hb
      clear hb hcw hfw hca hfa hc4 hf4 hc5 hf5
      obtain ⟨hc4, hf4⟩ := blk_read h4
      obtain ⟨hc5, hf5⟩ := blk_read h5
      clear h4 h5
      go_wp2_with fail
      refine bodyPost_ret (v := .tuple #[.agg #[.slice none 0 0, .int .i64 0, .slice none 0 0], .agg #[.int .i64 0, .bool false, .string ⟨#[]⟩, .int .i64 0, .int .i64 0], .int .i64 6]) (by simp [results, Try.results12, go_sem, hc4, hc5]) rfl ?_
      exact doRet_bad HE.out (by decide) HL.out
  have HG : Hid (WorldGood M) := worldB_iff.1 hw
  have HW := Lib.hid hw
  clear hw
  by_cases hk : kind < 1 ∨ 6 < kind
  · have HE : Hid (doCode M ⟨kind, cc, key, val⟩ = 3) := by show _ = _; unfold doCode; rw [if_neg (by rw [HW.out]; decide), if_pos hk]
    have hx : inB kind 1 6 = false := by unfold inB; simp only [Bool.and_eq_false_iff, decide_eq_false_iff_not]; omega
    have HX := Lib.hid hx
    clear hk hx
    go_wp2_with fail
    refine (in_is HX.out w1).mono ?_
    rintro e w' ⟨rfl, rfl⟩
    go_upto_region 4 with (fail)
    go_cut [6] (fun ev wx => ev = .int .i64 3 ∧ wx.heap[g4]? = some (.cells #[.slice none 0 0, .int .i64 0, .slice none 0 0] 36 (0, 0)) ∧ wx.heap[g5]? = some (.cells #[.int .i64 0, .bool false, .string ⟨#[]⟩, .int .i64 0, .int .i64 0] 41 (0, 0)) ∧ Below w.heap.size w wx)
    case first =>
      go_wp2_with fail
      go_meet
      exact ⟨rfl, blk_row5_far (blk_row3r HB14.out _ _ _) HN45.out _ _ _ _ _, blk_row5 (blk_far (blk_far (blk_far HB15.out (p := ⟨g4, 0, none⟩) (fun e => HN45.out e.symm) _) (p := ⟨g4, 1, none⟩) (fun e => HN45.out e.symm) _) (p := ⟨g4, 2, none⟩) (fun e => HN45.out e.symm) _) _ _ _ _ _, below_row5 (by
        have h := HG4.out.1
        have hb := HBASE.out
        exact ((HL1.out.setCell (p := ⟨g4, 0, none⟩) (by show _ ≤ g4; omega) _).setCell (p := ⟨g4, 1, none⟩) (by show _ ≤ g4; omega) _).setCell (p := ⟨g4, 2, none⟩) (by show _ ≤ g4; omega) _) (by have := HG4.out.2; have := HBASE.out; omega) _ _ _ _ _⟩
    case rest =>
      obtain ⟨rfl, h4, h5, hb⟩ := hcut
      have HL := Lib.hid hb
      clear hb hcw hfw hca hfa hc4 hf4 hc5 hf5
      obtain ⟨hc4, hf4⟩ := blk_read h4
      obtain ⟨hc5, hf5⟩ := blk_read h5
      clear h4 h5
      go_wp2_with fail
      refine bodyPost_ret (v := .tuple #[.agg #[.slice none 0 0, .int .i64 0, .slice none 0 0], .agg #[.int .i64 0, .bool false, .string ⟨#[]⟩, .int .i64 0, .int .i64 0], .int .i64 3]) (by simp [results, Try.results12, go_sem, hc4, hc5]) rfl ?_
      exact doRet_bad HE.out (by decide) HL.out
  have HKN := Lib.hid hk
  have HX : Hid (inB kind 1 6 = true) := by show _ = _; unfold inB; simp only [Bool.and_eq_true, decide_eq_true_eq]; omega
  clear hk
  go_wp2_with fail
  refine (in_is HX.out w1).mono ?_
  rintro e w' ⟨rfl, rfl⟩
  have hn5 : n' ≤ 5 := by rw [← HN'.out]; exact HG.out.few
  have hwn : IntKind.i64.wrap ((n' : Int) - 1) = (n' : Int) - 1 := IntWalk.i64_in _ (by omega)
  by_cases hcc : cc < 0 ∨ (M.clients.length : Int) ≤ cc
  · have HE : Hid (doCode M ⟨kind, cc, key, val⟩ = 2) := by show _ = _; unfold doCode; rw [if_neg (by rw [HW.out]; decide), if_neg HKN.out, if_pos hcc]
    have HY : Hid (inB cc 0 ((n' : Int) - 1) = false) := by show _ = _; have := HN'.out; unfold inB; simp only [Bool.and_eq_false_iff, decide_eq_false_iff_not]; omega
    clear hcc
    go_wp2_with fail
    refine (in_is HY.out w1).mono ?_
    rintro e w' ⟨rfl, rfl⟩
    go_upto_region 6 with (fail)
    go_cut [6] (fun ev wx => ev = .int .i64 2 ∧ wx.heap[g4]? = some (.cells #[.slice none 0 0, .int .i64 0, .slice none 0 0] 36 (0, 0)) ∧ wx.heap[g5]? = some (.cells #[.int .i64 0, .bool false, .string ⟨#[]⟩, .int .i64 0, .int .i64 0] 41 (0, 0)) ∧ Below w.heap.size w wx)
    case first =>
      go_wp2_with fail
      go_meet
      exact ⟨rfl, blk_row5_far (blk_row3r HB14.out _ _ _) HN45.out _ _ _ _ _, blk_row5 (blk_far (blk_far (blk_far HB15.out (p := ⟨g4, 0, none⟩) (fun e => HN45.out e.symm) _) (p := ⟨g4, 1, none⟩) (fun e => HN45.out e.symm) _) (p := ⟨g4, 2, none⟩) (fun e => HN45.out e.symm) _) _ _ _ _ _, below_row5 (by
        have h := HG4.out.1
        have hb := HBASE.out
        exact ((HL1.out.setCell (p := ⟨g4, 0, none⟩) (by show _ ≤ g4; omega) _).setCell (p := ⟨g4, 1, none⟩) (by show _ ≤ g4; omega) _).setCell (p := ⟨g4, 2, none⟩) (by show _ ≤ g4; omega) _) (by have := HG4.out.2; have := HBASE.out; omega) _ _ _ _ _⟩
    case rest =>
      obtain ⟨rfl, h4, h5, hb⟩ := hcut
      have HL := Lib.hid hb
      clear hb hcw hfw hca hfa hc4 hf4 hc5 hf5
      obtain ⟨hc4, hf4⟩ := blk_read h4
      obtain ⟨hc5, hf5⟩ := blk_read h5
      clear h4 h5
      go_wp2_with fail
      refine bodyPost_ret (v := .tuple #[.agg #[.slice none 0 0, .int .i64 0, .slice none 0 0], .agg #[.int .i64 0, .bool false, .string ⟨#[]⟩, .int .i64 0, .int .i64 0], .int .i64 2]) (by simp [results, Try.results12, go_sem, hc4, hc5]) rfl ?_
      exact doRet_bad HE.out (by decide) HL.out
  have HCN := Lib.hid hcc
  have HY : Hid (inB cc 0 ((n' : Int) - 1) = true) := by show _ = _; have := HN'.out; unfold inB; simp only [Bool.and_eq_true, decide_eq_true_eq]; omega
  clear hcc
  go_wp2_with fail
  refine (in_is HY.out w1).mono ?_
  rintro e w' ⟨rfl, rfl⟩
  have hck : M.clock = 1099511627376 := by
    by_cases h : M.clock = 1099511627376
    · exact h
    · exact absurd (by unfold doCode; rw [if_neg (by rw [HW.out]; decide), if_neg HKN.out, if_neg HCN.out, if_neg h]) HBAD.out
  have HE : Hid (doCode M ⟨kind, cc, key, val⟩ = 1) := by show _ = _; unfold doCode; rw [if_neg (by rw [HW.out]; decide), if_neg HKN.out, if_neg HCN.out, if_pos hck]
  have hx : decide ((1099511627376 : Int) ≤ M.clock) = true := decide_eq_true (by omega)
  clear hck
  go_upto_region 8 with (fail)
  go_cut [6] (fun ev wx => ev = .int .i64 1 ∧ wx.heap[g4]? = some (.cells #[.slice none 0 0, .int .i64 0, .slice none 0 0] 36 (0, 0)) ∧ wx.heap[g5]? = some (.cells #[.int .i64 0, .bool false, .string ⟨#[]⟩, .int .i64 0, .int .i64 0] 41 (0, 0)) ∧ Below w.heap.size w wx)
  case first =>
    go_wp2_with fail
    go_meet
    exact ⟨rfl, blk_row5_far (blk_row3r HB14.out _ _ _) HN45.out _ _ _ _ _, blk_row5 (blk_far (blk_far (blk_far HB15.out (p := ⟨g4, 0, none⟩) (fun e => HN45.out e.symm) _) (p := ⟨g4, 1, none⟩) (fun e => HN45.out e.symm) _) (p := ⟨g4, 2, none⟩) (fun e => HN45.out e.symm) _) _ _ _ _ _, below_row5 (by
      have h := HG4.out.1
      have hb := HBASE.out
      exact ((HL1.out.setCell (p := ⟨g4, 0, none⟩) (by show _ ≤ g4; omega) _).setCell (p := ⟨g4, 1, none⟩) (by show _ ≤ g4; omega) _).setCell (p := ⟨g4, 2, none⟩) (by show _ ≤ g4; omega) _) (by have := HG4.out.2; have := HBASE.out; omega) _ _ _ _ _⟩
  case rest =>
    obtain ⟨rfl, h4, h5, hb⟩ := hcut
    have HL := Lib.hid hb
    clear hb hcw hfw hca hfa hc4 hf4 hc5 hf5
    obtain ⟨hc4, hf4⟩ := blk_read h4
    obtain ⟨hc5, hf5⟩ := blk_read h5
    clear h4 h5
    go_wp2_with fail
    refine bodyPost_ret (v := .tuple #[.agg #[.slice none 0 0, .int .i64 0, .slice none 0 0], .agg #[.int .i64 0, .bool false, .string ⟨#[]⟩, .int .i64 0, .int .i64 0], .int .i64 1]) (by simp [results, Try.results12, go_sem, hc4, hc5]) rfl ?_
    exact doRet_bad HE.out (by decide) HL.out
end Go.Proofs.Ytniomgngiiiklab

/- The walk of the reference's DidOf: kind 1. -/
namespace Go.Proofs.Ytniomgngiiiklab
open Go.RowKit

set_option maxRecDepth 100000 in
set_option maxHeartbeats 8000000 in
theorem didOf_1 (M : MWorld) (kind cc : Int) (key val : ByteArray) (A A' : Option Addr) (n c n' c' : Nat) (w : World) (hr : RowsOk w w.heap.size A n c M.rows) (hc : ClientsOk w w.heap.size A' n' c' M.clients) (hks : key.size ≤ maxLen) (C : Nat) (hcC : cc = C) (hok : doCode M ⟨kind, cc, key, val⟩ = 0) (hkind : kind = 1) :
    Calls Try.prog 12 #[.agg #[.slice A n c, .int .i64 M.clock, .slice A' n' c'], .agg #[.int .i64 kind, .int .i64 cc, .string key, .string val]] w (DoRet w (doM M ⟨kind, cc, key, val⟩)) := by
  subst hcC hkind
  have HR := Lib.hid hr
  have HC := Lib.hid hc
  have HN' := Lib.hid hc.len
  have HKS := Lib.hid hks
  clear hr hc hks
  go_enter Try.func12, Try.ntmps12
  go_wp2_with fail
  obtain ⟨v, hv⟩ : ∃ v, v = (((w.alloc (.cells #[.slice A n c, .int .i64 M.clock, .slice A' n' c'] 36)).alloc (.cells #[.int .i64 1, .int .i64 (C : Int), .string key, .string val] 38)).alloc (.cells #[.slice none 0 0, .int .i64 0, .slice none 0 0] 36)).alloc (.cells #[.int .i64 0, .bool false, .string ⟨#[]⟩, .int .i64 0, .int .i64 0] 41) := ⟨_, rfl⟩
  rw [← hv]
  obtain ⟨hb0, hBw, hBa, hB4, hB5⟩ : Below w.heap.size w v ∧ v.heap[w.heap.size]? = some (.cells #[.slice A n c, .int .i64 M.clock, .slice A' n' c'] 36 (0, 0)) ∧ v.heap[w.heap.size + 1]? = some (.cells #[.int .i64 1, .int .i64 (C : Int), .string key, .string val] 38 (0, 0)) ∧
      v.heap[w.heap.size + 1 + 1]? = some (.cells #[.slice none 0 0, .int .i64 0, .slice none 0 0] 36 (0, 0)) ∧ v.heap[w.heap.size + 1 + 1 + 1]? = some (.cells #[.int .i64 0, .bool false, .string ⟨#[]⟩, .int .i64 0, .int .i64 0] 41 (0, 0)) := by rw [hv]; exact blk_new4 w
  clear hv
  obtain ⟨gw, hgw⟩ : ∃ gw, gw = w.heap.size := ⟨_, rfl⟩
  obtain ⟨ga, hga⟩ : ∃ ga, ga = gw + 1 := ⟨_, rfl⟩
  obtain ⟨g4, hg4⟩ : ∃ g4, g4 = gw + 1 + 1 := ⟨_, rfl⟩
  obtain ⟨g5, hg5⟩ : ∃ g5, g5 = gw + 1 + 1 + 1 := ⟨_, rfl⟩
  rw [← hgw, ← hg5] at hB5
  rw [← hgw, ← hg4] at hB4
  rw [← hgw, ← hga] at hBa
  rw [← hgw] at hBw
  rw [← hgw, ← hg5, ← hg4, ← hga]
  have HBASE : Hid (gw = w.heap.size) := hgw
  have hn1 : ¬ (g4 = g5) := by omega
  have hn2 : ¬ (g5 = g4) := by omega
  have HN45 := Lib.hid hn1
  have HL0 := Lib.hid hb0
  have HBw := Lib.hid hBw
  have HBa := Lib.hid hBa
  have HB4 := Lib.hid hB4
  have HB5 := Lib.hid hB5
  have HG4 : Hid (gw < g4 ∧ gw < g5) := by show _ ∧ _; omega
  clear hg4 hg5 hga hgw hb0 hBw hBa hB4 hB5
  have HRv : Hid (RowsOk v v.heap.size A n c M.rows) := (HR.out.below HL0.out (Nat.le_refl _)).more HL0.out.size
  have HCv : Hid (ClientsOk v v.heap.size A' n' c' M.clients) := (HC.out.below HL0.out (Nat.le_refl _)).more HL0.out.size
  refine (worldMay_any M A A' n c n' c' v HRv.out HCv.out).mono ?_
  rintro e w1 ⟨rfl, hb⟩
  have HL1 := Lib.hid (HL0.out.trans (hb.mono HL0.out.size))
  have HB1w := Lib.hid (blk_keep hb HBw.out (blk_lt HBw.out))
  have HB1a := Lib.hid (blk_keep hb HBa.out (blk_lt HBa.out))
  have HB14 := Lib.hid (blk_keep hb HB4.out (blk_lt HB4.out))
  have HB15 := Lib.hid (blk_keep hb HB5.out (blk_lt HB5.out))
  have HR1 : Hid (RowsOk w1 w1.heap.size A n c M.rows) := (HRv.out.below hb (Nat.le_refl _)).more hb.size
  have HC1 : Hid (ClientsOk w1 w1.heap.size A' n' c' M.clients) := (HCv.out.below hb (Nat.le_refl _)).more hb.size
  clear hb HRv HCv HBw HBa HB4 HB5 HR HC HL0
  obtain ⟨hcw, hfw⟩ := blk_read HB1w.out
  obtain ⟨hca, hfa⟩ := blk_read HB1a.out
  obtain ⟨hg, hkk, hcc, hck⟩ := doCode_ok hok
  have HOK := Lib.hid hok
  have HG := Lib.hid hg
  have hw : worldB M = true := worldB_iff.2 hg
  rw [hw]
  have HX : Hid (inB 1 1 6 = true) := by show _ = _; decide
  have hn5 : n' ≤ 5 := by rw [← HN'.out]; exact hg.few
  have hwn : IntKind.i64.wrap ((n' : Int) - 1) = (n' : Int) - 1 := IntWalk.i64_in _ (by omega)
  have HY : Hid (inB (C : Int) 0 ((n' : Int) - 1) = true) := by show _ = _; have := HN'.out; have h2 := hcc.2; dsimp only at h2; unfold inB; simp only [Bool.and_eq_true, decide_eq_true_eq]; omega
  have hcl : C < n' := by have h2 := hcc.2; have := HN'.out; dsimp only at h2; omega
  have hclk : decide ((1099511627376 : Int) ≤ M.clock) = false := decide_eq_false (by have := hg.clock.2; omega)
  have HCK : Hid (M.clock ≠ 1099511627376) := hck
  clear hok hg hkk hcc hck hw
  go_wp2_with fail
  refine (in_is HX.out w1).mono ?_
  rintro e w' ⟨rfl, rfl⟩
  go_wp2_with fail
  refine (in_is HY.out w1).mono ?_
  rintro e w' ⟨rfl, rfl⟩
  go_wp2_with fail
  refine (worldCopy_any M A A' n c n' c' w1 HR1.out HC1.out).mono ?_
  rintro e w2 ⟨B, d, hs, B', d', hs', rfl, hor, hoc, hb⟩
  have HL2 := Lib.hid (HL1.out.trans (hb.mono HL1.out.size))
  have HB2w := Lib.hid (blk_keep hb HB1w.out (blk_lt HB1w.out))
  have HB2a := Lib.hid (blk_keep hb HB1a.out (blk_lt HB1a.out))
  have HB24 := Lib.hid (blk_keep hb HB14.out (blk_lt HB14.out))
  have HB25 := Lib.hid (blk_keep hb HB15.out (blk_lt HB15.out))
  have HOR := Lib.hid (hor.more HL1.out.size)
  have HOC := Lib.hid (hoc.more HL1.out.size)
  clear hb hor hoc hcw hfw hca hfa hwn hclk
  have hcM : M.clients[C]? = some (M.clients[C]'(by rw [HN'.out]; exact hcl)) := List.getElem?_eq_getElem _
  have hhC : hs'[C]? = some (hs'[C]'(by rw [HOC.out.2.1]; exact hcl)) := List.getElem?_eq_getElem _
  obtain ⟨gc, rfl, -, -⟩ := own_cell HOC.out.2.2.1 (clientsCells_at hcM hhC (i := 0) rfl)
  obtain ⟨hcw, hfw⟩ := blk_read HB2w.out
  have HCLT := Lib.hid hcl
  clear hcM hhC hn5
  go_upto_region 10 with (fail)
  obtain ⟨v3, hv3⟩ : ∃ v3, v3 = ((w2.setCell ⟨gw, 0, none⟩ (.slice B n d)).setCell ⟨gw, 1, none⟩ (.int .i64 M.clock)).setCell ⟨gw, 2, none⟩ (.slice (some ⟨gc, 0, none⟩) n' d') := ⟨_, rfl⟩
  rw [← hv3]
  have hgb : w.heap.size ≤ gw := by have := HBASE.out; omega
  have HK3 : Hid (Keeps [36] w.heap.size w2 v3) := by rw [hv3]; exact Keeps.set3r HB2w.out (by simp) hgb _ _ _ _ _ _
  have HB3w : Hid (v3.heap[gw]? = some (.cells #[.slice B n d, .int .i64 M.clock, .slice (some ⟨gc, 0, none⟩) n' d'] 36 (0, 0))) := by show _ = _; rw [hv3]; exact blk_row3r HB2w.out _ _ _
  have HB34 : Hid (v3.heap[g4]? = some (.cells #[.slice none 0 0, .int .i64 0, .slice none 0 0] 36 (0, 0))) := by
    show _ = _
    have hne : g4 ≠ gw := by have := HG4.out.1; omega
    rw [hv3]; exact blk_far (blk_far (blk_far HB24.out (p := ⟨gw, 0, none⟩) hne _) (p := ⟨gw, 1, none⟩) hne _) (p := ⟨gw, 2, none⟩) hne _
  have HB3a := Lib.hid (HK3.out.blk HB2a.out (by decide))
  have HB35 := Lib.hid (HK3.out.blk HB25.out (by decide))
  have HL3 := Lib.hid (HL2.out.trans HK3.out.below)
  have HAT3 : Hid (RefAt v3 w.heap.size gc M B n d n' d' hs hs') := ⟨HK3.out.rows HOR.out (by decide) (by decide), HK3.out.clients HOC.out (by decide) (by decide)⟩
  have HGC : Hid (gc < v3.heap.size ∧ w.heap.size ≤ gc) := ⟨HAT3.out.lt.2, HAT3.out.lt.1⟩
  clear hv3 hcw hfw HOR HOC HK3 HB2w HB2a HB24 HB25 HB1w HB1a HB14 HB15 HL1 HL2 HR1 HC1
  obtain ⟨hcw, hfw⟩ := blk_read HB3w.out
  obtain ⟨hca, hfa⟩ := blk_read HB3a.out
  obtain ⟨x, hx⟩ : ∃ x, M.clients[C]? = some x := ⟨_, List.getElem?_eq_getElem (by rw [HN'.out]; exact hcl)⟩
  obtain ⟨_, hd, hhd⟩ := HAT3.out.head hx
  have HXC := Lib.hid hx
  have HHD := Lib.hid hhd
  obtain ⟨nw, hnw⟩ : ∃ nw, nw = x.writes.length := ⟨_, rfl⟩
  obtain ⟨c0, c1, c2, c3, c4⟩ := HAT3.out.cells hx hhd
  rw [← hnw] at c3
  have HNW := Lib.hid hnw
  clear hx hhd hnw
  have hci : (C : Int) < (n' : Int) := by omega
  have hc0 : (0 : Int) ≤ (C : Int) := by omega
  clear hcl
  go_upto_region 12 with (fail)
  obtain ⟨v5, hv5⟩ : ∃ v5, v5 = (v3.alloc (.cells #[.int .i64 x.phase, .int .i64 x.start, .int .i64 x.commit, .slice hd.1 nw hd.2, .int .i64 x.at_] 58)).alloc (.cells #[.int .i64 0, .bool false, .string ⟨#[]⟩, .int .i64 0, .int .i64 0] 41) := ⟨_, rfl⟩
  rw [← hv5]
  obtain ⟨hb5, hBx, hBo⟩ : Below v3.heap.size v3 v5 ∧ v5.heap[v3.heap.size]? = some (.cells #[.int .i64 x.phase, .int .i64 x.start, .int .i64 x.commit, .slice hd.1 nw hd.2, .int .i64 x.at_] 58 (0, 0)) ∧ v5.heap[v3.heap.size + 1]? = some (.cells #[.int .i64 0, .bool false, .string ⟨#[]⟩, .int .i64 0, .int .i64 0] 41 (0, 0)) := by rw [hv5]; exact blk_new2 v3
  obtain ⟨gx, hgx⟩ : ∃ gx, gx = v3.heap.size := ⟨_, rfl⟩
  obtain ⟨go, hgo⟩ : ∃ go, go = gx + 1 := ⟨_, rfl⟩
  rw [← hgx] at hBx
  rw [← hgx, ← hgo] at hBo
  rw [← hgx, ← hgo]
  have HP : Hid (DidPos w gc gw gx go g4 g5) := by
    have h3 := HL3.out.size
    have h4 := HG4.out
    have hbb := HBASE.out
    have h5 := blk_lt HB35.out
    have hgg := HGC.out
    exact ⟨by omega, by omega, by omega, by omega, by omega, by omega, by omega, HN45.out, by omega⟩
  have HD : Hid (DidAt w v5 gc n' d' gw go g4 g5 M B n d hs hs' zeroAns) :=
    ⟨HAT3.out.below hb5 (Nat.le_refl _), HL3.out.trans (hb5.mono HL3.out.size), blk_keep hb5 HB3w.out (blk_lt HB3w.out), hBo, blk_keep hb5 HB34.out (blk_lt HB34.out), blk_keep hb5 HB35.out (blk_lt HB35.out)⟩
  have HBX := Lib.hid hBx
  have HBA := Lib.hid (blk_keep hb5 HB3a.out (blk_lt HB3a.out))
  have HNN : Hid (¬ (gw = g4) ∧ ¬ (g4 = gw) ∧ ¬ (g5 = go) ∧ ¬ (go = g5) ∧ ¬ (gw = g5) ∧ ¬ (g5 = gw) ∧ ¬ (go = g4) ∧ ¬ (g4 = go)) := by
    show _ ∧ _
    have h4 := HG4.out
    have h5 := blk_lt HB35.out
    have h6 := blk_lt HB34.out
    omega
  clear hv5 hb5 hBx hBo hgx hgo HB3w HB34 HB35 HB3a HL3 HAT3 HGC hcw hfw hca hfa c0 c1 c2 c3 c4 hgb HG4 HX HY
  have HCB := Lib.hid (HG.out.clients x (List.mem_of_getElem? HXC.out))
  obtain ⟨hca, hfa⟩ := blk_read HBA.out
  go_upto_block 0 with (fail)
  go_cut [] (fun wx => (∃ A2 n2 d2 H2 H2', DidAt w wx gc n' d' gw go g4 g5 (actM M ⟨1, (C : Int), key, val⟩ C x).1 A2 n2 d2 H2 H2' (actM M ⟨1, (C : Int), key, val⟩ C x).2) ∧ wx.heap[ga]? = some (.cells #[.int .i64 1, .int .i64 (C : Int), .string key, .string val] 38 (0, 0)))
  case first =>
    clear HNN
    obtain ⟨hcx, hfx⟩ := blk_read HBX.out
    obtain ⟨hcw, hfw⟩ := blk_read (show v5.heap[gw]? = some (.cells #[.slice B n d, .int .i64 M.clock, .slice (some ⟨gc, 0, none⟩) n' d'] 36 (0, 0)) from HD.out.bw)
    obtain ⟨hco, hfo⟩ := blk_read (show v5.heap[go]? = some (.cells #[.int .i64 0, .bool false, .string ⟨#[]⟩, .int .i64 0, .int .i64 0] 41 (0, 0)) from HD.out.bo)
    obtain ⟨c0, c1, c2, c3, c4⟩ := HD.out.at_.cells HXC.out HHD.out
    have hfc := HD.out.at_.frozen
    rw [← HNW.out] at c3
    have HBAD : Hid (∀ cd : Int, (∃ A2 n2 d2 H2 H2', DidAt w (v5.setCell ⟨go, 0, none⟩ (.int .i64 cd)) gc n' d' gw go g4 g5 M A2 n2 d2 H2 H2' { zeroAns with code := cd }) ∧ (v5.setCell ⟨go, 0, none⟩ (.int .i64 cd)).heap[ga]? = some (.cells #[.int .i64 1, .int .i64 (C : Int), .string key, .string val] 38 (0, 0))) := fun cd =>
      ⟨⟨_, _, _, _, _, HD.out.ans1 (i := 0) HP.out rfl⟩, blk_far HBA.out (p := ⟨go, 0, none⟩) (blk_ne HBA.out HD.out.bo (by decide)) _⟩
    by_cases p0 : x.phase = 0
    · have HE : Hid (actM M ⟨1, (C : Int), key, val⟩ C x = ({ M with clock := M.clock + 1, clients := M.clients.set C ⟨1, M.clock + 1, 0, [], 0⟩ }, { zeroAns with time := M.clock + 1 })) := act_begin rfl p0
      have d0 : (x.phase == 0) = true := by simpa using p0
      have hwc : IntKind.i64.wrap (M.clock + 1) = M.clock + 1 := IntWalk.i64_in _ (by have := HG.out.clock; omega)
      clear p0
      go_upto_region 17 with (fail)
      obtain ⟨v6, hv6⟩ : ∃ v6, v6 = v5.setCell ⟨gw, 1, none⟩ (.int .i64 (M.clock + 1)) := ⟨_, rfl⟩
      rw [← hv6]
      have HD6 : Hid (DidAt w v6 gc n' d' gw go g4 g5 { M with clock := M.clock + 1 } B n d hs hs' zeroAns) := by show DidAt _ _ _ _ _ _ _ _ _ _ _ _ _ _ _ _; rw [hv6]; exact HD.out.setClock HP.out _
      have HA6 : Hid (v6.heap[ga]? = some (.cells #[.int .i64 1, .int .i64 (C : Int), .string key, .string val] 38 (0, 0))) := by show _ = _; rw [hv6]; exact blk_far HBA.out (p := ⟨gw, 1, none⟩) (blk_ne HBA.out HD.out.bw (by decide)) _
      clear hv6 hca hfa hcw hfw hco hfo hcx hfx c0 c1 c2 c3 c4 hfc hwc
      obtain ⟨hca, hfa⟩ := blk_read HA6.out
      obtain ⟨hcw, hfw⟩ := blk_read (show v6.heap[gw]? = some (.cells #[.slice B n d, .int .i64 (M.clock + 1), .slice (some ⟨gc, 0, none⟩) n' d'] 36 (0, 0)) from HD6.out.bw)
      obtain ⟨c0, c1, c2, c3, c4⟩ := HD6.out.at_.cells HXC.out HHD.out
      have hfc := HD6.out.at_.frozen
      have HPT := Lib.hid (HD6.out.at_.put (C := C) (x := ⟨1, M.clock + 1, 0, [], 0⟩) (A2 := none) (c2 := 0) HCLT.out (World.ownsRow_nil _ _ _ _) (fun _ _ _ _ hn => hn))
      go_upto_region 18 with (fail)
      obtain ⟨v7, hv7⟩ : ∃ v7, v7 = ((((v6.setCell ⟨gc, C * 5, none⟩ (.int .i64 1)).setCell ⟨gc, C * 5 + 1, none⟩ (.int .i64 (M.clock + 1))).setCell ⟨gc, C * 5 + 2, none⟩ (.int .i64 0)).setCell ⟨gc, C * 5 + 3, none⟩ (.slice none 0 0)).setCell ⟨gc, C * 5 + 4, none⟩ (.int .i64 0) := ⟨_, rfl⟩
      rw [← hv7]
      have HD7 : Hid (DidAt w v7 gc n' d' gw go g4 g5 (setC { M with clock := M.clock + 1 } C ⟨1, M.clock + 1, 0, [], 0⟩) B n d hs (hs'.set C (none, 0)) zeroAns) := by show DidAt _ _ _ _ _ _ _ _ _ _ _ _ _ _ _ _; rw [hv7]; exact HD6.out.turn HPT.out rfl
      have HA7 : Hid (v7.heap[ga]? = some (.cells #[.int .i64 1, .int .i64 (C : Int), .string key, .string val] 38 (0, 0))) := by show _ = _; rw [hv7]; exact HPT.out.2.blk HA6.out (by decide)
      clear hv7 hca hfa hcw hfw c0 c1 c2 c3 c4 hfc HPT
      obtain ⟨hcw, hfw⟩ := blk_read (show v7.heap[gw]? = some (.cells #[.slice B n d, .int .i64 (M.clock + 1), .slice (some ⟨gc, 0, none⟩) n' d'] 36 (0, 0)) from HD7.out.bw)
      obtain ⟨hco, hfo⟩ := blk_read (show v7.heap[go]? = some (.cells #[.int .i64 0, .bool false, .string ⟨#[]⟩, .int .i64 0, .int .i64 0] 41 (0, 0)) from HD7.out.bo)
      go_wp2_with fail
      go_meet
      rw [HE.out]
      exact ⟨⟨_, _, _, _, _, HD7.out.ans1 (i := 4) HP.out rfl⟩, blk_far HA7.out (p := ⟨go, 4, none⟩) (blk_ne HA7.out HD7.out.bo (by decide)) _⟩
    · have HE : Hid (actM M ⟨1, (C : Int), key, val⟩ C x = (M, { zeroAns with code := 6 })) := act_state (.inl ⟨rfl, p0⟩)
      have d0 : (x.phase == 0) = false := by simpa using p0
      clear p0
      go_wp2_with fail
      go_meet
      rw [HE.out]
      exact HBAD.out 6
  case rest =>
    have HF : Hid (doM M ⟨1, (C : Int), key, val⟩ = ((actM M ⟨1, (C : Int), key, val⟩ C x).1, { (actM M ⟨1, (C : Int), key, val⟩ C x).2 with phase := (clientAt (actM M ⟨1, (C : Int), key, val⟩ C x).1 C).phase }, 0)) := doM_ok HOK.out rfl (by rw [clientAt_some HXC.out])
    generalize actM M ⟨1, (C : Int), key, val⟩ C x = p at hcut HF
    obtain ⟨M', o⟩ := p
    obtain ⟨⟨A2, n2, d2, H2, H2', hd2⟩, hba⟩ := hcut
    dsimp only at hd2 HF
    have HD2 := Lib.hid hd2
    have HA2 := Lib.hid hba
    obtain ⟨x', hx'⟩ : ∃ x', M'.clients[C]? = some x' := ⟨_, List.getElem?_eq_getElem (by rw [hd2.at_.clients.1]; exact HCLT.out)⟩
    obtain ⟨_, hdx, hhdx⟩ := hd2.at_.head hx'
    rw [clientAt_some hx'] at HF
    obtain ⟨k0, _, _, _, _⟩ := hd2.at_.cells hx' hhdx
    clear hd2 hba hca hfa hhdx hx' HD HBX HBA HXC HHD HNW HCB HOK HG HCK
    obtain ⟨hca, hfa⟩ := blk_read HA2.out
    obtain ⟨hcw, hfw⟩ := blk_read HD2.out.bw
    obtain ⟨hco, hfo⟩ := blk_read HD2.out.bo
    go_upto_region 49 with (fail)
    obtain ⟨v6, hv6⟩ : ∃ v6, v6 = wc.setCell ⟨go, 3, none⟩ (.int .i64 x'.phase) := ⟨_, rfl⟩
    rw [← hv6]
    have HD6 : Hid (DidAt w v6 gc n' d' gw go g4 g5 M' A2 n2 d2 H2 H2' { o with phase := x'.phase }) := by show DidAt _ _ _ _ _ _ _ _ _ _ _ _ _ _ _ _; rw [hv6]; exact HD2.out.ans1 (i := 3) HP.out rfl
    clear hv6 hca hfa hcw hfw hco hfo k0 HD2 HA2
    obtain ⟨hcw, hfw⟩ := blk_read HD6.out.bw
    obtain ⟨hco, hfo⟩ := blk_read (show v6.heap[go]? = some (.cells #[.int .i64 o.code, .bool o.is, .string o.value, .int .i64 x'.phase, .int .i64 o.time] 41 (0, 0)) from HD6.out.bo)
    obtain ⟨hc4, hf4⟩ := blk_read HD6.out.b4
    obtain ⟨hc5, hf5⟩ := blk_read HD6.out.b5
    obtain ⟨m1, m2, m3, m4, m5, m6, m7, m8⟩ := HNN.out
    go_cut [6] (fun ev wx => ev = .int .i64 0 ∧ wx.heap[g4]? = some (.cells #[.slice A2 n2 d2, .int .i64 M'.clock, .slice (some ⟨gc, 0, none⟩) n' d'] 36 (0, 0)) ∧
      wx.heap[g5]? = some (.cells #[.int .i64 o.code, .bool o.is, .string o.value, .int .i64 x'.phase, .int .i64 o.time] 41 (0, 0)) ∧ Below w.heap.size v6 wx ∧ Keeps [36, 41] w.heap.size v6 wx)
    case first =>
      go_region
      all_goals
        go_wp2_with fail
        go_meet
        exact ⟨rfl, ref_end HD6.out.b4 HD6.out.b5 HP.out.p4 HP.out.p5 HN45.out _ _ _ _ _ _ _ _⟩
    case rest =>
      obtain ⟨rfl, h4, h5, hb, hk⟩ := hcut
      have HDN := Lib.hid (HD6.out.done hb hk)
      clear hb hk hcw hfw hco hfo hc4 hf4 hc5 hf5 m1 m2 m3 m4 m5 m6 m7 m8
      obtain ⟨hc4, hf4⟩ := blk_read h4
      obtain ⟨hc5, hf5⟩ := blk_read h5
      clear h4 h5
      go_wp2_with fail
      refine bodyPost_ret (v := .tuple #[.agg #[.slice A2 n2 d2, .int .i64 M'.clock, .slice (some ⟨gc, 0, none⟩) n' d'], .agg #[.int .i64 o.code, .bool o.is, .string o.value, .int .i64 x'.phase, .int .i64 o.time], .int .i64 0]) (by simp [results, Try.results12, go_sem, hc4, hc5]) rfl ?_
      rw [HF.out]
      exact ⟨A2, n2, d2, H2, some ⟨gc, 0, none⟩, n', d', H2', rfl, HDN.out.1, HDN.out.2.1, HDN.out.2.2⟩
end Go.Proofs.Ytniomgngiiiklab
