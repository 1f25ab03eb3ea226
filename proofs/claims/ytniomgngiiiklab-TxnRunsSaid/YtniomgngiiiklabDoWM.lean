/- The walk of txn.Do. -/
import Derived.Test.YtniomgngiiiklabStepsM
import Derived.Test.YtniomgngiiiklabPutSM
import Derived.Test.YtniomgngiiiklabChecksM
import Derived.Test.YtniomgngiiiklabCopiesM
import Derived.BigRegion
import Derived.Test.YtniomgngiiiklabOwnsM
namespace Go.Proofs.Ytniomgngiiiklab
open Go.RowKit

theorem blk_row3 {w : World} {g : Nat} {t : TypeId} {a b c : Value} (h : w.heap[g]? = some (.cells #[a, b, c] t (0, 0))) (a' b' c' : Value) :
    (((w.setCell ⟨g, 0, none⟩ a').setCell ⟨g, 1, none⟩ b').setCell ⟨g, 2, none⟩ c').heap[g]? = some (.cells #[a', b', c'] t (0, 0)) := blk_set (blk_set (blk_set h 0 a') 1 b') 2 c'
theorem blk_row3_far {w : World} {g g' : Nat} {t : TypeId} {cs : Array Value} (h : w.heap[g]? = some (.cells cs t (0, 0))) (hne : g ≠ g') (a' b' c' : Value) :
    (((w.setCell ⟨g', 0, none⟩ a').setCell ⟨g', 1, none⟩ b').setCell ⟨g', 2, none⟩ c').heap[g]? = some (.cells cs t (0, 0)) := blk_far (blk_far (blk_far h hne a') hne b') hne c'
theorem Keeps.set3 {w : World} {base g : Nat} {ts : List TypeId} {t : TypeId} {cs : Array Value} (hg : w.heap[g]? = some (.cells cs t (0, 0))) (ht : t ∈ ts) (hb : base ≤ g) (i1 i2 i3 : Nat) (a b c : Value) :
    Keeps ts base w (((w.setCell ⟨g, i1, none⟩ a).setCell ⟨g, i2, none⟩ b).setCell ⟨g, i3, none⟩ c) :=
  (((Keeps.refl ts base w).set hg ht hb a).set (blk_set hg i1 a) ht hb b).set (blk_set (blk_set hg i1 a) i2 b) ht hb c
theorem array3 {cs : Array Value} (h : cs.size = 3) : ∃ a b c, cs = #[a, b, c] := by
  obtain ⟨l⟩ := cs
  match l, h with
  | [a, b, c], _ => exact ⟨a, b, c, rfl⟩
theorem array5 {cs : Array Value} (h : cs.size = 5) : ∃ a b c d e, cs = #[a, b, c, d, e] := by
  obtain ⟨l⟩ := cs
  match l, h with
  | [a, b, c, d, e], _ => exact ⟨a, b, c, d, e, rfl⟩

/-- The switch of Do leaves this. -/
def ActLeft (w : World) (base gs gw gc C go g4 g5 : Nat) (p : MWorld × MAns) (w' : World) : Prop :=
  Site w' base gs gw gc C p.1 ∧ w'.heap[go]? = some (.cells (ansCells p.2) 41 (0, 0)) ∧ (∃ a b c, w'.heap[g4]? = some (.cells #[a, b, c] 36 (0, 0))) ∧
    (∃ a b c d e, w'.heap[g5]? = some (.cells #[a, b, c, d, e] 41 (0, 0))) ∧ Below base w w'

theorem act_left {v5 wx : World} {ts : List TypeId} {base gs gw gc C go g4 g5 : Nat} {M' : MWorld} {o : MAns} {cs4 cs5 : Array Value} (hS : Site wx base gs gw gc C M') (hgo : wx.heap[go]? = some (.cells (ansCells o) 41 (0, 0))) (k : Keeps ts base v5 wx)
    (h4 : v5.heap[g4]? = some (.cells cs4 36 (0, 0))) (s4 : cs4.size = 3) (h5 : v5.heap[g5]? = some (.cells cs5 41 (0, 0))) (s5 : cs5.size = 5) : ActLeft v5 base gs gw gc C go g4 g5 (M', o) wx := by
  obtain ⟨c4, e4, z4⟩ := k.shape g4 _ _ h4 (by decide) (by decide)
  obtain ⟨c5, e5, z5⟩ := k.shape g5 _ _ h5 (by decide) (by decide)
  obtain ⟨a, b, c, rfl⟩ := array3 (z4.trans s4)
  obtain ⟨a', b', c', d', e', rfl⟩ := array5 (z5.trans s5)
  exact ⟨hS, hgo, ⟨a, b, c, e4⟩, ⟨a', b', c', d', e', e5⟩, k.below⟩

theorem drew_blk {X : World} {g : Nat} {o : Option Obj} (h : X.heap[g]? = o) : X.drew.heap[g]? = o := h
/-- The world and the answer laid into Do's results. -/
theorem do_end {v : World} {base g4 g5 : Nat} {a4 b4 c4 a5 b5 c5 d5 e5 : Value} (h4 : v.heap[g4]? = some (.cells #[a4, b4, c4] 36 (0, 0))) (h5 : v.heap[g5]? = some (.cells #[a5, b5, c5, d5, e5] 41 (0, 0)))
    (b4' : base ≤ g4) (b5' : base ≤ g5) (hne : g4 ≠ g5) (a b c a' b' c' d' e' : Value) :
    ((((((((v.setCell ⟨g4, 0, none⟩ a).setCell ⟨g4, 1, none⟩ b).setCell ⟨g4, 2, none⟩ c).setCell ⟨g5, 0, none⟩ a').setCell ⟨g5, 1, none⟩ b').setCell ⟨g5, 2, none⟩ c').setCell ⟨g5, 3, none⟩ d').setCell ⟨g5, 4, none⟩ e').drew.heap[g4]? = some (.cells #[a, b, c] 36 (0, 0)) ∧
    ((((((((v.setCell ⟨g4, 0, none⟩ a).setCell ⟨g4, 1, none⟩ b).setCell ⟨g4, 2, none⟩ c).setCell ⟨g5, 0, none⟩ a').setCell ⟨g5, 1, none⟩ b').setCell ⟨g5, 2, none⟩ c').setCell ⟨g5, 3, none⟩ d').setCell ⟨g5, 4, none⟩ e').drew.heap[g5]? = some (.cells #[a', b', c', d', e'] 41 (0, 0)) ∧
    Keeps [36, 41] base v ((((((((v.setCell ⟨g4, 0, none⟩ a).setCell ⟨g4, 1, none⟩ b).setCell ⟨g4, 2, none⟩ c).setCell ⟨g5, 0, none⟩ a').setCell ⟨g5, 1, none⟩ b').setCell ⟨g5, 2, none⟩ c').setCell ⟨g5, 3, none⟩ d').setCell ⟨g5, 4, none⟩ e').drew := by
  have hf := blk_row3_far h5 (fun e => hne e.symm) a b c
  exact ⟨drew_blk (blk_row5_far (blk_row3 h4 a b c) hne a' b' c' d' e'), drew_blk (blk_row5 hf a' b' c' d' e'), ((Keeps.set3 (ts := [36, 41]) h4 (by simp) b4' 0 1 2 a b c).trans (Keeps.set5 hf (by simp) b5' 0 1 2 3 4 a' b' c' d' e')).drew⟩

set_option maxRecDepth 100000 in
set_option maxHeartbeats 8000000 in
theorem txnDo_any (M : MWorld) (kind cc : Int) (key val : ByteArray) (A A' : Option Addr) (n c n' c' : Nat) (w : World) (hr : RowsOk w w.heap.size A n c M.rows) (hc : ClientsOk w w.heap.size A' n' c' M.clients) :
    Calls Try.prog 11 #[.agg #[.slice A n c, .int .i64 M.clock, .slice A' n' c'], .agg #[.int .i64 kind, .int .i64 cc, .string key, .string val]] w (DoRet w (doM M ⟨kind, cc, key, val⟩)) := by
  have HR := Lib.hid hr
  have HC := Lib.hid hc
  have HN' := Lib.hid hc.len
  clear hr hc
  go_enter Try.func11, Try.ntmps11
  go_wp2_with fail
  obtain ⟨v, hv⟩ : ∃ v, v = (((w.alloc (.cells #[.slice A n c, .int .i64 M.clock, .slice A' n' c'] 36)).alloc (.cells #[.int .i64 kind, .int .i64 cc, .string key, .string val] 38)).alloc (.cells #[.slice none 0 0, .int .i64 0, .slice none 0 0] 36)).alloc (.cells #[.int .i64 0, .bool false, .string ⟨#[]⟩, .int .i64 0, .int .i64 0] 41) := ⟨_, rfl⟩
  rw [← hv]
  obtain ⟨hb0, hBw, hBa, hB4, hB5⟩ : Below w.heap.size w v ∧ v.heap[w.heap.size]? = some (.cells #[.slice A n c, .int .i64 M.clock, .slice A' n' c'] 36 (0, 0)) ∧ v.heap[w.heap.size + 1]? = some (.cells #[.int .i64 kind, .int .i64 cc, .string key, .string val] 38 (0, 0)) ∧
      v.heap[w.heap.size + 1 + 1]? = some (.cells #[.slice none 0 0, .int .i64 0, .slice none 0 0] 36 (0, 0)) ∧ v.heap[w.heap.size + 1 + 1 + 1]? = some (.cells #[.int .i64 0, .bool false, .string ⟨#[]⟩, .int .i64 0, .int .i64 0] 41 (0, 0)) := by rw [hv]; exact blk_new4 w
  clear hv
  obtain ⟨gw, hgw⟩ : ∃ gw, gw = w.heap.size := ⟨_, rfl⟩
  obtain ⟨ga, hga⟩ : ∃ ga, ga = gw + 1 := ⟨_, rfl⟩
  obtain ⟨g4, hg4⟩ : ∃ g4, g4 = gw + 1 + 1 := ⟨_, rfl⟩
  obtain ⟨g5, hg5⟩ : ∃ g5, g5 = gw + 1 + 1 + 1 := ⟨_, rfl⟩
  rw [← hgw, ← hg5] at hB5
  rw [← hgw, ← hg4] at hB4
  rw [← hgw, ← hga] at hBa
  rw [← hgw] at hBw
  rw [← hgw, ← hg5, ← hg4, ← hga]
  have HBASE : Hid (gw = w.heap.size) := hgw
  have hn1 : ¬ (g4 = g5) := by omega
  have hn2 : ¬ (g5 = g4) := by omega
  have HN45 := Lib.hid hn1
  have HL0 := Lib.hid hb0
  have HBw := Lib.hid hBw
  have HBa := Lib.hid hBa
  have HB4 := Lib.hid hB4
  have HB5 := Lib.hid hB5
  have HG4 : Hid (gw < g4 ∧ gw < g5) := by show _ ∧ _; omega
  clear hg4 hg5 hga hgw hb0 hBw hBa hB4 hB5
  have HRv : Hid (RowsOk v v.heap.size A n c M.rows) := (HR.out.below HL0.out (Nat.le_refl _)).more HL0.out.size
  have HCv : Hid (ClientsOk v v.heap.size A' n' c' M.clients) := (HC.out.below HL0.out (Nat.le_refl _)).more HL0.out.size
  refine (txnCheck_any M A A' n c n' c' v HRv.out HCv.out).mono ?_
  rintro e w1 ⟨rfl, hb⟩
  have HL1 := Lib.hid (HL0.out.trans (hb.mono HL0.out.size))
  have HB1w := Lib.hid (blk_keep hb HBw.out (blk_lt HBw.out))
  have HB1a := Lib.hid (blk_keep hb HBa.out (blk_lt HBa.out))
  have HB14 := Lib.hid (blk_keep hb HB4.out (blk_lt HB4.out))
  have HB15 := Lib.hid (blk_keep hb HB5.out (blk_lt HB5.out))
  have HR1 : Hid (RowsOk w1 w1.heap.size A n c M.rows) := (HRv.out.below hb (Nat.le_refl _)).more hb.size
  have HC1 : Hid (ClientsOk w1 w1.heap.size A' n' c' M.clients) := (HCv.out.below hb (Nat.le_refl _)).more hb.size
  clear hb
  obtain ⟨hcw, hfw⟩ := blk_read HB1w.out
  obtain ⟨hca, hfa⟩ := blk_read HB1a.out
  obtain ⟨hc4, hf4⟩ := blk_read HB14.out
  obtain ⟨hc5, hf5⟩ := blk_read HB15.out
  cases hw : worldB M
  · have HE : Hid (doCode M ⟨kind, cc, key, val⟩ = 6) := by show _ = _; unfold doCode; rw [if_pos hw]
    rw [okCode_false]
    go_upto_region 3 with (fail)
    go_cut [6] (fun ev wx => ev = .int .i64 6 ∧ wx.heap[g4]? = some (.cells #[.slice none 0 0, .int .i64 0, .slice none 0 0] 36 (0, 0)) ∧ wx.heap[g5]? = some (.cells #[.int .i64 0, .bool false, .string ⟨#[]⟩, .int .i64 0, .int .i64 0] 41 (0, 0)) ∧ Below w.heap.size w wx)
    case first =>
      go_wp2_with fail
      go_meet
      exact ⟨rfl, blk_row5_far (blk_row3 HB14.out _ _ _) HN45.out _ _ _ _ _, blk_row5 (blk_row3_far HB15.out (fun e => HN45.out e.symm) _ _ _) _ _ _ _ _, below_row5 (by
        have h := HG4.out.1
        have hb := HBASE.out
        exact ((HL1.out.setCell (p := ⟨g4, 0, none⟩) (by show _ ≤ g4; omega) _).setCell (p := ⟨g4, 1, none⟩) (by show _ ≤ g4; omega) _).setCell (p := ⟨g4, 2, none⟩) (by show _ ≤ g4; omega) _) (by have := HG4.out.2; have := HBASE.out; omega) _ _ _ _ _⟩
    case rest =>
      obtain ⟨rfl, h4, h5, hb⟩ := hcut
      have HL := Lib.hid hb
      clear hb hcw hfw hca hfa hc4 hf4 hc5 hf5
      obtain ⟨hc4, hf4⟩ := blk_read h4
      obtain ⟨hc5, hf5⟩ := blk_read h5
      clear h4 h5
      go_wp2_with fail
      refine bodyPost_ret (v := .tuple #[.agg #[.slice none 0 0, .int .i64 0, .slice none 0 0], .agg #[.int .i64 0, .bool false, .string ⟨#[]⟩, .int .i64 0, .int .i64 0], .int .i64 6]) (by simp [results, Try.results11, go_sem, hc4, hc5]) rfl ?_
      exact doRet_bad HE.out (by decide) HL.out
  rw [okCode_true]
  have HG : Hid (WorldGood M) := worldB_iff.1 hw
  have HW := Lib.hid hw
  clear hw
  by_cases hk : kind < 1 ∨ 6 < kind
  · have HE : Hid (doCode M ⟨kind, cc, key, val⟩ = 3) := by show _ = _; unfold doCode; rw [if_neg (by rw [HW.out]; decide), if_pos hk]
    have hx : (decide (kind < 1) = true) ∨ (decide (kind < 1) = false ∧ decide (6 < kind) = true) := by
      by_cases h : kind < 1
      · exact .inl (decide_eq_true h)
      · exact .inr ⟨decide_eq_false h, decide_eq_true (by omega)⟩
    clear hk
    rcases hx with hx | ⟨hx, hy⟩
    all_goals
      go_upto_region 5 with (fail)
      go_cut [6] (fun ev wx => ev = .int .i64 3 ∧ wx.heap[g4]? = some (.cells #[.slice none 0 0, .int .i64 0, .slice none 0 0] 36 (0, 0)) ∧ wx.heap[g5]? = some (.cells #[.int .i64 0, .bool false, .string ⟨#[]⟩, .int .i64 0, .int .i64 0] 41 (0, 0)) ∧ Below w.heap.size w wx)
      case first =>
        go_wp2_with fail
        go_meet
        exact ⟨rfl, blk_row5_far (blk_row3 HB14.out _ _ _) HN45.out _ _ _ _ _, blk_row5 (blk_row3_far HB15.out (fun e => HN45.out e.symm) _ _ _) _ _ _ _ _, below_row5 (by
          have h := HG4.out.1
          have hb := HBASE.out
          exact ((HL1.out.setCell (p := ⟨g4, 0, none⟩) (by show _ ≤ g4; omega) _).setCell (p := ⟨g4, 1, none⟩) (by show _ ≤ g4; omega) _).setCell (p := ⟨g4, 2, none⟩) (by show _ ≤ g4; omega) _) (by have := HG4.out.2; have := HBASE.out; omega) _ _ _ _ _⟩
      case rest =>
        obtain ⟨rfl, h4, h5, hb⟩ := hcut
        have HL := Lib.hid hb
        clear hb hcw hfw hca hfa hc4 hf4 hc5 hf5
        obtain ⟨hc4, hf4⟩ := blk_read h4
        obtain ⟨hc5, hf5⟩ := blk_read h5
        clear h4 h5
        go_wp2_with fail
        refine bodyPost_ret (v := .tuple #[.agg #[.slice none 0 0, .int .i64 0, .slice none 0 0], .agg #[.int .i64 0, .bool false, .string ⟨#[]⟩, .int .i64 0, .int .i64 0], .int .i64 3]) (by simp [results, Try.results11, go_sem, hc4, hc5]) rfl ?_
        exact doRet_bad HE.out (by decide) HL.out
  have hk1 : decide (kind < 1) = false := decide_eq_false (by omega)
  have hk2 : decide (6 < kind) = false := decide_eq_false (by omega)
  have HKK : Hid (1 ≤ kind ∧ kind ≤ 6) := by show _ ∧ _; omega
  have HKN := Lib.hid hk
  clear hk
  by_cases hcc : cc < 0 ∨ (M.clients.length : Int) ≤ cc
  · have HE : Hid (doCode M ⟨kind, cc, key, val⟩ = 2) := by show _ = _; unfold doCode; rw [if_neg (by rw [HW.out]; decide), if_neg HKN.out, if_pos hcc]
    rw [HN'.out] at hcc
    have hx : (decide (cc < 0) = true) ∨ (decide (cc < 0) = false ∧ decide ((n' : Int) ≤ cc) = true) := by
      by_cases h : cc < 0
      · exact .inl (decide_eq_true h)
      · exact .inr ⟨decide_eq_false h, decide_eq_true (by omega)⟩
    clear hcc
    rcases hx with hx | ⟨hx, hy⟩
    all_goals
      go_upto_region 7 with (fail)
      go_cut [6] (fun ev wx => ev = .int .i64 2 ∧ wx.heap[g4]? = some (.cells #[.slice none 0 0, .int .i64 0, .slice none 0 0] 36 (0, 0)) ∧ wx.heap[g5]? = some (.cells #[.int .i64 0, .bool false, .string ⟨#[]⟩, .int .i64 0, .int .i64 0] 41 (0, 0)) ∧ Below w.heap.size w wx)
      case first =>
        go_wp2_with fail
        go_meet
        exact ⟨rfl, blk_row5_far (blk_row3 HB14.out _ _ _) HN45.out _ _ _ _ _, blk_row5 (blk_row3_far HB15.out (fun e => HN45.out e.symm) _ _ _) _ _ _ _ _, below_row5 (by
          have h := HG4.out.1
          have hb := HBASE.out
          exact ((HL1.out.setCell (p := ⟨g4, 0, none⟩) (by show _ ≤ g4; omega) _).setCell (p := ⟨g4, 1, none⟩) (by show _ ≤ g4; omega) _).setCell (p := ⟨g4, 2, none⟩) (by show _ ≤ g4; omega) _) (by have := HG4.out.2; have := HBASE.out; omega) _ _ _ _ _⟩
      case rest =>
        obtain ⟨rfl, h4, h5, hb⟩ := hcut
        have HL := Lib.hid hb
        clear hb hcw hfw hca hfa hc4 hf4 hc5 hf5
        obtain ⟨hc4, hf4⟩ := blk_read h4
        obtain ⟨hc5, hf5⟩ := blk_read h5
        clear h4 h5
        go_wp2_with fail
        refine bodyPost_ret (v := .tuple #[.agg #[.slice none 0 0, .int .i64 0, .slice none 0 0], .agg #[.int .i64 0, .bool false, .string ⟨#[]⟩, .int .i64 0, .int .i64 0], .int .i64 2]) (by simp [results, Try.results11, go_sem, hc4, hc5]) rfl ?_
        exact doRet_bad HE.out (by decide) HL.out
  have HCN := Lib.hid hcc
  rw [HN'.out] at hcc
  obtain ⟨C, rfl⟩ : ∃ C : Nat, cc = C := ⟨cc.toNat, by omega⟩
  have hcl : C < n' := by omega
  have hcc1 : decide ((C : Int) < 0) = false := decide_eq_false (by omega)
  have hcc2 : decide ((n' : Int) ≤ (C : Int)) = false := decide_eq_false (by omega)
  have hcc3 : decide (n' ≤ C) = false := decide_eq_false (by omega)
  clear hcc
  by_cases hck : M.clock = 1099511627376
  · have HE : Hid (doCode M ⟨kind, (C : Int), key, val⟩ = 1) := by show _ = _; unfold doCode; rw [if_neg (by rw [HW.out]; decide), if_neg HKN.out, if_neg HCN.out, if_pos hck]
    have hx : (M.clock == 1099511627376) = true := by simpa using hck
    clear hck
    go_upto_region 9 with (fail)
    go_cut [6] (fun ev wx => ev = .int .i64 1 ∧ wx.heap[g4]? = some (.cells #[.slice none 0 0, .int .i64 0, .slice none 0 0] 36 (0, 0)) ∧ wx.heap[g5]? = some (.cells #[.int .i64 0, .bool false, .string ⟨#[]⟩, .int .i64 0, .int .i64 0] 41 (0, 0)) ∧ Below w.heap.size w wx)
    case first =>
      go_wp2_with fail
      go_meet
      exact ⟨rfl, blk_row5_far (blk_row3 HB14.out _ _ _) HN45.out _ _ _ _ _, blk_row5 (blk_row3_far HB15.out (fun e => HN45.out e.symm) _ _ _) _ _ _ _ _, below_row5 (by
        have h := HG4.out.1
        have hb := HBASE.out
        exact ((HL1.out.setCell (p := ⟨g4, 0, none⟩) (by show _ ≤ g4; omega) _).setCell (p := ⟨g4, 1, none⟩) (by show _ ≤ g4; omega) _).setCell (p := ⟨g4, 2, none⟩) (by show _ ≤ g4; omega) _) (by have := HG4.out.2; have := HBASE.out; omega) _ _ _ _ _⟩
    case rest =>
      obtain ⟨rfl, h4, h5, hb⟩ := hcut
      have HL := Lib.hid hb
      clear hb hcw hfw hca hfa hc4 hf4 hc5 hf5
      obtain ⟨hc4, hf4⟩ := blk_read h4
      obtain ⟨hc5, hf5⟩ := blk_read h5
      clear h4 h5
      go_wp2_with fail
      refine bodyPost_ret (v := .tuple #[.agg #[.slice none 0 0, .int .i64 0, .slice none 0 0], .agg #[.int .i64 0, .bool false, .string ⟨#[]⟩, .int .i64 0, .int .i64 0], .int .i64 1]) (by simp [results, Try.results11, go_sem, hc4, hc5]) rfl ?_
      exact doRet_bad HE.out (by decide) HL.out
  have HE : Hid (doCode M ⟨kind, (C : Int), key, val⟩ = 0) := by show _ = _; unfold doCode; rw [if_neg (by rw [HW.out]; decide), if_neg HKN.out, if_neg HCN.out, if_neg hck]
  have hx : (M.clock == 1099511627376) = false := by simpa using hck
  clear hck HCN
  go_wp2_with fail
  refine (txnCopy_any M A A' n c n' c' w1 HR1.out HC1.out).mono ?_
  rintro e w2 ⟨B, d, hs, B', d', hs', rfl, hor, hoc, hb⟩
  have HL2 := Lib.hid (HL1.out.trans (hb.mono HL1.out.size))
  have HB2w := Lib.hid (blk_keep hb HB1w.out (blk_lt HB1w.out))
  have HB2a := Lib.hid (blk_keep hb HB1a.out (blk_lt HB1a.out))
  have HB24 := Lib.hid (blk_keep hb HB14.out (blk_lt HB14.out))
  have HB25 := Lib.hid (blk_keep hb HB15.out (blk_lt HB15.out))
  have HOR := Lib.hid (hor.more HL1.out.size)
  have HOC := Lib.hid (hoc.more HL1.out.size)
  clear hb hor hoc hcw hfw hca hfa hc4 hf4 hc5 hf5
  have hcM : M.clients[C]? = some (M.clients[C]'(by rw [HN'.out]; exact hcl)) := List.getElem?_eq_getElem _
  have hhC : hs'[C]? = some (hs'[C]'(by rw [HOC.out.2.1]; exact hcl)) := List.getElem?_eq_getElem _
  obtain ⟨gc, rfl, _, _⟩ := own_cell HOC.out.2.2.1 (clientsCells_at hcM hhC (i := 0) rfl)
  have HCM := Lib.hid hcM
  clear hcM hhC
  obtain ⟨hcw, hfw⟩ := blk_read HB2w.out
  obtain ⟨hca, hfa⟩ := blk_read HB2a.out
  go_upto_region 11 with (fail)
  obtain ⟨v3, hv3⟩ : ∃ v3, v3 = ((w2.setCell ⟨gw, 0, none⟩ (.slice B n d)).setCell ⟨gw, 1, none⟩ (.int .i64 M.clock)).setCell ⟨gw, 2, none⟩ (.slice (some ⟨gc, 0, none⟩) n' d') := ⟨_, rfl⟩
  rw [← hv3]
  have hgb : w.heap.size ≤ gw := by have := HBASE.out; omega
  have HK3 : Hid (Keeps [36] w.heap.size w2 v3) := by rw [hv3]; exact Keeps.set3 HB2w.out (by simp) hgb _ _ _ _ _ _
  have HB3w : Hid (v3.heap[gw]? = some (.cells #[.slice B n d, .int .i64 M.clock, .slice (some ⟨gc, 0, none⟩) n' d'] 36 (0, 0))) := by show _ = _; rw [hv3]; exact blk_row3 HB2w.out _ _ _
  have HB34 : Hid (v3.heap[g4]? = some (.cells #[.slice none 0 0, .int .i64 0, .slice none 0 0] 36 (0, 0))) := by show _ = _; rw [hv3]; exact blk_row3_far HB24.out (by have := HG4.out.1; omega) _ _ _
  have HB3a := Lib.hid (HK3.out.blk HB2a.out (by decide))
  have HB35 := Lib.hid (HK3.out.blk HB25.out (by decide))
  have HL3 := Lib.hid (HL2.out.trans HK3.out.below)
  have HOR3 := Lib.hid (HK3.out.rows HOR.out (by decide) (by decide))
  have HOC3 := Lib.hid (HK3.out.clients HOC.out (by decide) (by decide))
  clear hv3 hcw hfw hca hfa
  obtain ⟨hcw, hfw⟩ := blk_read HB3w.out
  obtain ⟨hca, hfa⟩ := blk_read HB3a.out
  have hcl1 : (C : Int) < (n' : Int) := by omega
  have hcl2 : (0 : Int) ≤ (C : Int) := by omega
  go_upto_block 0 with (fail)
  obtain ⟨v5, hv5⟩ : ∃ v5, v5 = (v3.alloc (.cells #[.pointer (some ⟨gw, 0, none⟩), .pointer (some ⟨gc, C * 5, none⟩)] 64)).alloc (.cells #[.int .i64 0, .bool false, .string ⟨#[]⟩, .int .i64 0, .int .i64 0] 41) := ⟨_, rfl⟩
  rw [← hv5]
  obtain ⟨hb5, hBs, hBo⟩ : Below v3.heap.size v3 v5 ∧ v5.heap[v3.heap.size]? = some (.cells #[.pointer (some ⟨gw, 0, none⟩), .pointer (some ⟨gc, C * 5, none⟩)] 64 (0, 0)) ∧ v5.heap[v3.heap.size + 1]? = some (.cells #[.int .i64 0, .bool false, .string ⟨#[]⟩, .int .i64 0, .int .i64 0] 41 (0, 0)) := by rw [hv5]; exact blk_new2 v3
  clear hv5 hcw hfw hca hfa
  have HGN : Hid (g5 ≠ v3.heap.size + 1 ∧ w.heap.size ≤ v3.heap.size) := by show _ ∧ _; exact ⟨by have := blk_lt HB35.out; omega, HL3.out.size⟩
  have HSA : Hid (SiteAt v5 w.heap.size v3.heap.size gw gc C M B n d n' d' hs hs') := ⟨hBs, blk_keep hb5 HB3w.out (blk_lt HB3w.out), HOR3.out.below hb5 (Nat.le_refl _), HOC3.out.below hb5 (Nat.le_refl _), hcl, HGN.out.2, hgb⟩
  have HBO := Lib.hid hBo
  have HB5a := Lib.hid (blk_keep hb5 HB3a.out (blk_lt HB3a.out))
  have HB54 := Lib.hid (blk_keep hb5 HB34.out (blk_lt HB34.out))
  have HB55 := Lib.hid (blk_keep hb5 HB35.out (blk_lt HB35.out))
  have HL5 := Lib.hid (HL3.out.trans (hb5.mono HL3.out.size))
  obtain ⟨gs, hgs⟩ : ∃ gs, gs = v3.heap.size := ⟨_, rfl⟩
  obtain ⟨go, hgo⟩ : ∃ go, go = gs + 1 := ⟨_, rfl⟩
  rw [← hgs, ← hgo] at HBO HGN
  rw [← hgs] at HSA
  rw [← hgs, ← hgo]
  have HGO : Hid (w.heap.size ≤ go ∧ g5 ≠ go) := by show _ ∧ _; exact ⟨by rw [hgo]; have := HGN.out.2; omega, HGN.out.1⟩
  clear hgs hgo HGN hb5 hBs hBo HOR3 HOC3 HB3w HB34 HB35 HB3a HL3 HK3 HOR HOC HB2w HB2a HB24 HB25 HL2 HB1w HB1a HB14 HB15 HL1 HR1 HC1 HRv HCv HBw HBa HB4 HB5 HL0 HR HC hk1 hk2 hcc1 hcc2 hcc3 hx hcl1 hcl2
  obtain ⟨x, hd, hx, hhd, hxe⟩ := HSA.out.parts
  have HX := Lib.hid hx
  have HD := Lib.hid hhd
  have HXE := Lib.hid hxe
  have HCB := Lib.hid (HG.out.clients x (List.mem_of_getElem? hx))
  clear hx hhd hxe HCM
  go_cut [] (fun wx => ActLeft v5 w.heap.size gs gw gc C go g4 g5 (actM M ⟨kind, (C : Int), key, val⟩ C x) wx)
  case first =>
    obtain ⟨hca, hfa⟩ := blk_read HB5a.out
    obtain ⟨hcs, hfs⟩ := blk_read HSA.out.site
    obtain ⟨hco, hfo⟩ := blk_read HBO.out
    obtain ⟨c0, c1, c2, c3, c4⟩ := HSA.out.cells HX.out HD.out
    have hkk : kind = 1 ∨ kind = 2 ∨ kind = 3 ∨ kind = 4 ∨ kind = 5 ∨ kind = 6 := by have := HKK.out; omega
    clear HE HKN HKK
    have HBAD : Hid (∀ M' : MWorld × MAns, M' = (M, { zeroAns with code := 6 }) → ActLeft v5 w.heap.size gs gw gc C go g4 g5 M' (v5.setCell ⟨go, 0, none⟩ (.int .i64 6))) := by
      rintro _ rfl
      have hk : Keeps [41] w.heap.size v5 (v5.setCell ⟨go, 0, none⟩ (.int .i64 6)) := (Keeps.refl _ _ _).set HBO.out (by simp) HGO.out.1 _
      exact act_left (HSA.out.keep hk ⟨by decide, by decide, by decide, by decide, by decide, by decide⟩).any (by simpa [ansCells, zeroAns] using blk_set HBO.out 0 (.int .i64 6)) hk HB54.out rfl HB55.out rfl
    rcases hkk with rfl | rfl | rfl | rfl | rfl | rfl
    · by_cases p0 : x.phase = 0
      · have HE : Hid (actM M ⟨1, (C : Int), key, val⟩ C x = ({ M with clock := M.clock + 1, clients := M.clients.set C ⟨1, M.clock + 1, 0, [], 0⟩ }, { zeroAns with time := M.clock + 1 })) := by show _ = _; unfold actM; rw [if_neg (by simp [p0]), if_pos rfl]
        rw [p0] at c0
        clear p0
        go_upto_region 19 with (fail)
        go_cut [] (fun wx => Site wx w.heap.size gs gw gc C { M with clock := M.clock + 1, clients := M.clients.set C ⟨1, M.clock + 1, 0, [], 0⟩ } ∧ Keeps [26, 36, 58] w.heap.size v5 wx)
        case first =>
          go_region_law
            ((go_simp; go_at_call 23; refine (site_tick_any w.heap.size gs gw gc C M _ (by exact HSA.out.drew.any) HG.out.clock).mono ?_; rintro e w1 ⟨rfl, hS1, hk1⟩; obtain ⟨A1, n1, d1, m1, e1, H1, H1', hS1⟩ := hS1; obtain ⟨_, hdx, _, hhdx, _⟩ := hS1.parts; obtain ⟨hcs1, hfs1⟩ := blk_read hS1.site; obtain ⟨c0, c1, c2, c3, c4⟩ := hS1.cells HX.out hhdx; have hfc := hS1.frozen.2.2))
          all_goals
            go_wp2_with fail
            go_meet
            have hz := hS1.putZero (x := ⟨1, M.clock + 1, 0, [], 0⟩) rfl
            exact ⟨hz.1.any, ((((Keeps.refl _ _ v5).drew).trans hk1).wide (by simp)).trans (hz.2.wide (by simp))⟩
        case rest =>
          obtain ⟨⟨A2, n2, d2, m2, e2, H2, H2', hS2⟩, hk2⟩ := hcut
          obtain ⟨_, hdx, _, hhdx, _⟩ := hS2.parts
          have HS2 := Lib.hid hS2
          have HK2 := Lib.hid hk2
          have HB2 := Lib.hid (hk2.blk HBO.out (by decide))
          clear hca hfa hcs hfs hco hfo c0 c1 c2 c3 c4 hS2 hk2
          obtain ⟨hcs, hfs⟩ := blk_read HS2.out.site
          obtain ⟨hco, hfo⟩ := blk_read HB2.out
          obtain ⟨c0, c1, c2, c3, c4⟩ := HS2.out.cells (x := ⟨1, M.clock + 1, 0, [], 0⟩) (List.getElem?_set_self (List.getElem?_eq_some_iff.1 HX.out).1) hhdx
          clear hhdx
          dsimp only at c1
          go_wp2_with fail
          go_meet
          rw [HE.out]
          have hks : Keeps [41] w.heap.size wc (wc.setCell ⟨go, 4, none⟩ (.int .i64 (M.clock + 1))) := (Keeps.refl _ _ wc).set HB2.out (by simp) HGO.out.1 _
          exact act_left (HS2.out.keep hks ⟨by decide, by decide, by decide, by decide, by decide, by decide⟩).any (by simpa [ansCells, zeroAns] using blk_set HB2.out 4 (.int .i64 (M.clock + 1))) ((HK2.out.wide (ts' := [26, 36, 58, 41]) (by simp)).trans (hks.wide (by simp))) HB54.out rfl HB55.out rfl
      · have HE : Hid (actM M ⟨1, (C : Int), key, val⟩ C x = (M, { zeroAns with code := 6 })) := by show _ = _; unfold actM; rw [if_pos (.inl ⟨rfl, p0⟩)]
        have p0' : (x.phase != 0) = true := by simpa using p0
        clear p0
        go_wp2_with fail
        go_meet
        exact HBAD.out _ HE.out
    · by_cases p1 : x.phase = 1
      · have HE : Hid (actM M ⟨2, (C : Int), key, val⟩ C x = (M, { zeroAns with code := (getM M x key).2.2, value := (getM M x key).1, is := (getM M x key).2.1 })) := by show _ = _; unfold actM; rw [if_neg (by simp [p1]), if_neg (by simp), if_pos rfl]
        rw [p1] at c0
        clear p1
        go_wp2_with fail
        refine (site_get_any key w.heap.size gs gw gc C go M x v5 HSA.out.any HG.out HX.out HBO.out HGO.out.1).mono ?_
        rintro e w1 ⟨rfl, hS1, hgo1, hk1⟩
        have HS1 := Lib.hid hS1
        have HK1 := Lib.hid hk1
        have HO1 : Hid (w1.heap[go]? = some (.cells #[.int .i64 0, .bool (getM M x key).2.1, .string (getM M x key).1, .int .i64 0, .int .i64 0] 41 (0, 0))) := hgo1
        clear hS1 hk1 hgo1 hca hfa hcs hfs hco hfo c0 c1 c2 c3 c4
        obtain ⟨hco, hfo⟩ := blk_read HO1.out
        go_wp2_with fail
        go_meet
        rw [HE.out]
        have hks : Keeps [41] w.heap.size w1 (w1.setCell ⟨go, 0, none⟩ (.int .i64 (getM M x key).2.2)) := (Keeps.refl _ _ w1).set HO1.out (by simp) HGO.out.1 _
        exact act_left (HS1.out.keep hks ⟨by decide, by decide, by decide, by decide, by decide, by decide⟩) (by simpa [ansCells, zeroAns] using blk_set HO1.out 0 (.int .i64 (getM M x key).2.2)) (HK1.out.trans (hks.wide (by simp))) HB54.out rfl HB55.out rfl
      · have HE : Hid (actM M ⟨2, (C : Int), key, val⟩ C x = (M, { zeroAns with code := 6 })) := by show _ = _; unfold actM; rw [if_pos (.inr (.inl ⟨.inl rfl, p1⟩))]
        have p1' : (x.phase != 1) = true := by simpa using p1
        clear p1
        go_wp2_with fail
        go_meet
        exact HBAD.out _ HE.out
    · by_cases p1 : x.phase = 1
      · have HE : Hid (actM M ⟨3, (C : Int), key, val⟩ C x = ((putM M C x key val).1, { zeroAns with code := (putM M C x key val).2 })) := by show _ = _; unfold actM; rw [if_neg (by simp [p1]), if_neg (by simp), if_neg (by simp), if_pos rfl]
        rw [p1] at c0
        clear p1
        go_wp2_with fail
        refine (site_put_any key val w.heap.size gs gw gc C go zeroAns M x v5 HSA.out.any HG.out HX.out HBO.out).mono ?_
        rintro e w1 ⟨rfl, hS1, hgo1, hk1⟩
        have HS1 := Lib.hid hS1
        have HK1 := Lib.hid hk1
        have HO1 : Hid (w1.heap[go]? = some (.cells #[.int .i64 0, .bool false, .string ⟨#[]⟩, .int .i64 0, .int .i64 0] 41 (0, 0))) := hgo1
        clear hS1 hk1 hgo1 hca hfa hcs hfs hco hfo c0 c1 c2 c3 c4
        obtain ⟨hco, hfo⟩ := blk_read HO1.out
        go_wp2_with fail
        go_meet
        rw [HE.out]
        have hks : Keeps [41] w.heap.size w1 (w1.setCell ⟨go, 0, none⟩ (.int .i64 (putM M C x key val).2)) := (Keeps.refl _ _ w1).set HO1.out (by simp) HGO.out.1 _
        exact act_left (HS1.out.keep hks ⟨by decide, by decide, by decide, by decide, by decide, by decide⟩) (by simpa [ansCells, zeroAns] using blk_set HO1.out 0 (.int .i64 (putM M C x key val).2)) (HK1.out.trans (hks.wide (by simp))) HB54.out rfl HB55.out rfl
      · have HE : Hid (actM M ⟨3, (C : Int), key, val⟩ C x = (M, { zeroAns with code := 6 })) := by show _ = _; unfold actM; rw [if_pos (.inr (.inl ⟨.inr rfl, p1⟩))]
        have p1' : (x.phase != 1) = true := by simpa using p1
        clear p1
        go_wp2_with fail
        go_meet
        exact HBAD.out _ HE.out
    · have HE : Hid (actM M ⟨4, (C : Int), key, val⟩ C x = ((stepM M C x).1, { zeroAns with code := (stepM M C x).2.1, time := (stepM M C x).2.2 })) := by show _ = _; unfold actM; rw [if_neg (by simp), if_neg (by simp), if_neg (by simp), if_neg (by simp), if_pos rfl]
      go_wp2_with fail
      refine (site_step_any w.heap.size gs gw gc C go M x v5 HSA.out.any HG.out HX.out HBO.out HGO.out.1).mono ?_
      rintro e w1 ⟨rfl, hS1, hgo1, hk1⟩
      have HS1 := Lib.hid hS1
      have HK1 := Lib.hid hk1
      have HO1 : Hid (w1.heap[go]? = some (.cells #[.int .i64 0, .bool false, .string ⟨#[]⟩, .int .i64 0, .int .i64 (stepM M C x).2.2] 41 (0, 0))) := hgo1
      clear hS1 hk1 hgo1 hca hfa hcs hfs hco hfo c0 c1 c2 c3 c4
      obtain ⟨hco, hfo⟩ := blk_read HO1.out
      go_wp2_with fail
      go_meet
      rw [HE.out]
      have hks : Keeps [41] w.heap.size w1 (w1.setCell ⟨go, 0, none⟩ (.int .i64 (stepM M C x).2.1)) := (Keeps.refl _ _ w1).set HO1.out (by simp) HGO.out.1 _
      exact act_left (HS1.out.keep hks ⟨by decide, by decide, by decide, by decide, by decide, by decide⟩) (by simpa [ansCells, zeroAns] using blk_set HO1.out 0 (.int .i64 (stepM M C x).2.1)) (HK1.out.trans (hks.wide (by simp))) HB54.out rfl HB55.out rfl
    · by_cases p0 : x.phase = 0
      · have HE : Hid (actM M ⟨5, (C : Int), key, val⟩ C x = (M, { zeroAns with code := 6 })) := by show _ = _; unfold actM; rw [if_pos (.inr (.inr ⟨rfl, p0⟩))]
        rw [p0] at c0
        clear p0
        go_wp2_with fail
        go_meet
        exact HBAD.out _ HE.out
      · have HE : Hid (actM M ⟨5, (C : Int), key, val⟩ C x = (setC M C zeroClient, zeroAns)) := by show _ = _; unfold actM; rw [if_neg (by simp [p0]), if_neg (by simp), if_neg (by simp), if_neg (by simp), if_neg (by simp), if_pos rfl]
        have p0' : (x.phase == 0) = false := by simpa using p0
        have hfc := HSA.out.frozen.2.2
        clear p0
        go_wp2_with fail
        go_meet
        rw [HE.out]
        have hz := HSA.out.putZero (x := zeroClient) rfl
        exact act_left hz.1.any (hz.2.blk HBO.out (by decide)) hz.2 HB54.out rfl HB55.out rfl
    · have HE : Hid (actM M ⟨6, (C : Int), key, val⟩ C x = ({ M with rows := (resolveR M.rows key).1 }, { zeroAns with code := (resolveR M.rows key).2 })) := by show _ = _; unfold actM; rw [if_neg (by simp), if_neg (by simp), if_neg (by simp), if_neg (by simp), if_neg (by simp), if_neg (by simp)]
      go_wp2_with fail
      refine (site_resolve_any key w.heap.size gs gw gc C go zeroAns M v5 HSA.out.any HG.out HBO.out).mono ?_
      rintro e w1 ⟨rfl, hS1, hgo1, hk1⟩
      have HS1 := Lib.hid hS1
      have HK1 := Lib.hid hk1
      have HO1 : Hid (w1.heap[go]? = some (.cells #[.int .i64 0, .bool false, .string ⟨#[]⟩, .int .i64 0, .int .i64 0] 41 (0, 0))) := hgo1
      clear hS1 hk1 hgo1 hca hfa hcs hfs hco hfo c0 c1 c2 c3 c4
      obtain ⟨hco, hfo⟩ := blk_read HO1.out
      go_wp2_with fail
      go_meet
      rw [HE.out]
      have hks : Keeps [41] w.heap.size w1 (w1.setCell ⟨go, 0, none⟩ (.int .i64 (resolveR M.rows key).2)) := (Keeps.refl _ _ w1).set HO1.out (by simp) HGO.out.1 _
      exact act_left (HS1.out.keep hks ⟨by decide, by decide, by decide, by decide, by decide, by decide⟩) (by simpa [ansCells, zeroAns] using blk_set HO1.out 0 (.int .i64 (resolveR M.rows key).2)) (HK1.out.trans (hks.wide (by simp))) HB54.out rfl HB55.out rfl
  case rest =>
    have HF : Hid (doM M ⟨kind, (C : Int), key, val⟩ = ((actM M ⟨kind, (C : Int), key, val⟩ C x).1, { (actM M ⟨kind, (C : Int), key, val⟩ C x).2 with phase := (clientAt (actM M ⟨kind, (C : Int), key, val⟩ C x).1 C).phase }, 0)) := by show _ = _; unfold doM; rw [if_pos HE.out]; simp only [Int.toNat_natCast, HXE.out]
    generalize actM M ⟨kind, (C : Int), key, val⟩ C x = p at hcut HF
    obtain ⟨M', o⟩ := p
    obtain ⟨⟨A2, n2, d2, m2, e2, H2, H2', hS2⟩, hgo, ⟨a4, b4, c4, h4⟩, ⟨a5, b5, c5, d5, e5, h5⟩, hb⟩ := hcut
    obtain ⟨x', hdx, hx', hhdx, hxe⟩ := hS2.parts
    dsimp only at hS2 hgo hx' hxe HF
    rw [hxe] at HF
    have HS2 := Lib.hid hS2
    have HO2 : Hid (wc.heap[go]? = some (.cells #[.int .i64 o.code, .bool o.is, .string o.value, .int .i64 o.phase, .int .i64 o.time] 41 (0, 0))) := hgo
    have HB4 := Lib.hid h4
    have HB5 := Lib.hid h5
    have HLc := Lib.hid (HL5.out.trans hb)
    obtain ⟨hcs, hfs⟩ := blk_read HS2.out.site
    obtain ⟨hco, hfo⟩ := blk_read HO2.out
    obtain ⟨k0, k1, k2, k3, k4⟩ := HS2.out.cells hx' hhdx
    clear hS2 hgo h4 h5 hb hx' hhdx hxe HXE HX HD HCB HE HSA HBO HB5a HB54 HB55
    go_upto_region 30 with (fail)
    obtain ⟨v6, hv6⟩ : ∃ v6, v6 = wc.setCell ⟨go, 3, none⟩ (.int .i64 x'.phase) := ⟨_, rfl⟩
    rw [← hv6]
    have HK6 : Hid (Keeps [41] w.heap.size wc v6) := by rw [hv6]; exact (Keeps.refl _ _ wc).set HO2.out (by simp) HGO.out.1 _
    have HO6 : Hid (v6.heap[go]? = some (.cells #[.int .i64 o.code, .bool o.is, .string o.value, .int .i64 x'.phase, .int .i64 o.time] 41 (0, 0))) := by show _ = _; rw [hv6]; simpa using blk_set HO2.out 3 (.int .i64 x'.phase)
    have HB65 : Hid (v6.heap[g5]? = some (.cells #[a5, b5, c5, d5, e5] 41 (0, 0))) := by show _ = _; rw [hv6]; exact blk_far HB5.out (p := ⟨go, 3, none⟩) HGO.out.2 _
    have HB64 := Lib.hid (HK6.out.blk HB4.out (by decide))
    have HS6 := Lib.hid (HS2.out.keep HK6.out ⟨by decide, by decide, by decide, by decide, by decide, by decide⟩)
    have HL6 := Lib.hid (HLc.out.trans HK6.out.below)
    clear hv6 hcs hfs hco hfo k0 k1 k2 k3 k4
    obtain ⟨hcw, hfw⟩ := blk_read HS6.out.world
    obtain ⟨hco, hfo⟩ := blk_read HO6.out
    obtain ⟨hc4, hf4⟩ := blk_read HB64.out
    obtain ⟨hc5, hf5⟩ := blk_read HB65.out
    have n1 : ¬ (gw = g4) := by have := HG4.out.1; omega
    have n2' : ¬ (g4 = gw) := by have := HG4.out.1; omega
    have n3 : ¬ (g5 = go) := HGO.out.2
    have n4 : ¬ (go = g5) := fun e => HGO.out.2 e.symm
    have n5 : ¬ (gw = g5) := by have := HG4.out.2; omega
    have n6 : ¬ (g5 = gw) := by have := HG4.out.2; omega
    have n7 : ¬ (go = g4) := blk_ne HO6.out HB64.out (by decide)
    have n8 : ¬ (g4 = go) := fun e => n7 e.symm
    go_cut [6] (fun ev wx => ev = .int .i64 0 ∧ wx.heap[g4]? = some (.cells #[.slice A2 n2 d2, .int .i64 M'.clock, .slice (some ⟨gc, 0, none⟩) m2 e2] 36 (0, 0)) ∧
      wx.heap[g5]? = some (.cells #[.int .i64 o.code, .bool o.is, .string o.value, .int .i64 x'.phase, .int .i64 o.time] 41 (0, 0)) ∧ Keeps [36, 41] w.heap.size v6 wx)
    case first =>
      go_region
      all_goals
        go_wp2_with fail
        go_meet
        have hb4 : w.heap.size ≤ g4 := by have := HG4.out.1; omega
        have hb5 : w.heap.size ≤ g5 := by have := HG4.out.2; omega
        exact ⟨rfl, do_end HB64.out HB65.out hb4 hb5 HN45.out _ _ _ _ _ _ _ _⟩
    case rest =>
      obtain ⟨rfl, h4, h5, hk⟩ := hcut
      have HKK := Lib.hid hk
      have HR := Lib.hid (hk.rows HS6.out.rows (by decide) (by decide))
      have HC := Lib.hid (hk.clients HS6.out.clients (by decide) (by decide))
      clear hk hcw hfw hco hfo hc4 hf4 hc5 hf5 n1 n2' n3 n4 n5 n6 n7 n8
      obtain ⟨hc4, hf4⟩ := blk_read h4
      obtain ⟨hc5, hf5⟩ := blk_read h5
      clear h4 h5
      go_wp2_with fail
      refine bodyPost_ret (v := .tuple #[.agg #[.slice A2 n2 d2, .int .i64 M'.clock, .slice (some ⟨gc, 0, none⟩) m2 e2], .agg #[.int .i64 o.code, .bool o.is, .string o.value, .int .i64 x'.phase, .int .i64 o.time], .int .i64 0]) (by simp [results, Try.results11, go_sem, hc4, hc5]) rfl ?_
      rw [HF.out]
      exact ⟨A2, n2, d2, H2, some ⟨gc, 0, none⟩, m2, e2, H2', rfl, HR.out, HC.out, HL6.out.trans HKK.out.below⟩
end Go.Proofs.Ytniomgngiiiklab
