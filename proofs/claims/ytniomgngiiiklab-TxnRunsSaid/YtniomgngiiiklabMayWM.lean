/- The walks of the reference's writesMay, clientMay and WorldMay. -/
import Derived.Test.YtniomgngiiiklabMayAM
import Derived.Test.YtniomgngiiiklabChecksM
namespace Go.Proofs.Ytniomgngiiiklab
open Go.RowKit

theorem keyMay_is {k : ByteArray} {b : Bool} (h : keyB k = b) (hs : k.size ≤ maxLen) (w : World) : Calls Try.prog 31 #[.string k] w fun e w' => e = .returned (.bool b) ∧ w = w' := by
  subst h; exact keyMay_any k w hs

theorem leqK (x y : ByteArray) : (Op.bytesLess x.toList y.toList || x.toList == y.toList) = !(Op.bytesLess y.toList x.toList) := by
  show (ltK x y || x.toList == y.toList) = !(ltK y x)
  cases h1 : ltK y x
  · cases h2 : ltK x y
    · have := ltK_total h2 h1
      subst this; simp
    · rfl
  · have h3 := ltK_ne h1
    rw [ltK_asymm h1]
    cases h2 : (x.toList == y.toList)
    · rfl
    · exact absurd (toList_inj (by simpa using h2)).symm h3
theorem in_is {n lo hi : Int} {b : Bool} (h : inB n lo hi = b) (w : World) : Calls Try.prog 29 #[.int .i64 n, .int .i64 lo, .int .i64 hi] w fun e w' => e = .returned (.bool b) ∧ w = w' := by
  subst h; exact in_any n lo hi w

set_option maxRecDepth 100000 in
set_option maxHeartbeats 2000000 in
theorem writesMay_any (ws : List MWrite) (A : Option Addr) (n c : Nat) (w : World) (h : WritesOk w w.heap.size A n c ws) :
    Calls Try.prog 88 #[.slice A n c] w fun e w' => e = .returned (.bool (writesB ws && decide (ws.length ≤ 6))) ∧ Below w.heap.size w w' := by
  have H := Lib.hid h
  have Hn := Lib.hid h.at_.1
  have hsm := h.small
  clear h
  go_enter Try.func88, Try.ntmps88
  go_wp2_with fail
  go_loopw [3] (fun i wr => (∃ j : Nat, j ≤ n ∧ i = .int .i64 j ∧ WritesGood (ws.take j)) ∧ Below w.heap.size w wr) (fun i _ => n - (intOf i).toNat)
  case atStart => exact ⟨⟨0, Nat.zero_le _, rfl, ⟨fun y hy => (List.not_mem_nil hy).elim, List.Pairwise.nil⟩⟩, Below.refl _ _⟩
  case round =>
    obtain ⟨⟨j, hj, rfl, hgo⟩, hbel⟩ := hrel
    have HGO := Lib.hid hgo
    have HL := Lib.hid hbel
    clear hgo hbel
    by_cases hlt : j < n
    · obtain ⟨y, b, off, hy, rfl, hbb, g0, g1⟩ := (H.out.at_.below HL.out (Nat.le_refl _)).at_ hlt
      have HY := Lib.hid hy
      have HKS := Lib.hid (H.out.keys y (List.mem_of_getElem? hy))
      have hprev : (j = 0 ∨ ∃ (i : Nat) (z : MWrite), j = i + 1 ∧ ws[i]? = some z ∧ wr.cell? ⟨b, off + i * 2, none⟩ = some (.string z.key)) := by
        rcases j with _ | i
        · exact .inl rfl
        · obtain ⟨z, b', off', hz', e, _, g0', _⟩ := (H.out.at_.below HL.out (Nat.le_refl _)).at_ (show i < n by omega)
          injection e with e
          injection e with e1 e2
          subst e1; subst e2
          exact .inr ⟨i, z, rfl, hz', g0'⟩
      clear hy
      cases hk : keyB y.key
      · have HE : Hid (writesB ws = false) := writes_bad HY.out (.inl hk)
        have HKM := Lib.hid (keyMay_is hk HKS.out)
        clear hprev hk
        go_wp2_with fail
        go_quiet ((go_at_call 31; exact quiet_left (HKM.out _)))
        go_wp2_with fail
        go_ret
        rw [HE.out]
        exact ⟨rfl, below_drewN HL.out _⟩
      have HKM := Lib.hid (keyMay_is hk HKS.out)
      by_cases hv : y.value.size ≤ 20
      rotate_left
      · have HE : Hid (writesB ws = false) := writes_bad HY.out (.inr (by omega))
        have hv1 : decide ((20 : Int) < (y.value.size : Int)) = true := decide_eq_true (by omega)
        clear hprev hk
        go_wp2_with fail
        go_quiet ((go_at_call 31; exact quiet_left (HKM.out _)))
        go_wp2_with fail
        go_ret
        rw [HE.out]
        exact ⟨rfl, below_drewN HL.out _⟩
      have hv1 : decide ((20 : Int) < (y.value.size : Int)) = false := decide_eq_false (by omega)
      rcases hprev with rfl | ⟨i, z, rfl, hz', hcz⟩
      · have HW : Hid (WritesGood (ws.take (0 + 1))) := writes_more HGO.out HY.out hk hv (.inl rfl)
        have g0' : wr.cell? ⟨b, off, none⟩ = some (.string y.key) := by simpa using g0
        have g1' : wr.cell? ⟨b, off + 1, none⟩ = some (.string y.value) := by simpa using g1
        clear hk hv
        go_wp2_with fail
        go_quiet ((go_at_call 31; exact quiet_left (HKM.out _)))
        go_wp2_with fail
        go_roundw
        case rel => exact ⟨⟨0 + 1, by omega, by go_num, HW.out⟩, below_drewN HL.out _⟩
        case measure => simp [intOf]; omega
      · have hgd : decide ((0 : Int) < (i : Int) + 1) = true := decide_eq_true (by omega)
        have hwr : IntKind.i64.wrap (i : Int) = i := IntWalk.i64_in _ (by omega)
        have hjn : (i : Int) < n := by omega
        have hj0 : (0 : Int) ≤ (i : Int) := by omega
        have HZ := Lib.hid hz'
        clear hz'
        cases hcmp : Op.bytesLess z.key.toList y.key.toList
        · have HE : Hid (writesB ws = false) := writes_order HZ.out HY.out hcmp
          have hle : (Op.bytesLess y.key.toList z.key.toList || y.key.toList == z.key.toList) = true := by rw [leqK, hcmp]; rfl
          clear hk hv
          go_wp2_with fail
          go_quiet ((go_at_call 31; exact quiet_left (HKM.out _)))
          go_wp2_with fail
          go_ret
          rw [HE.out]
          exact ⟨rfl, below_drewN HL.out _⟩
        · have HW : Hid (WritesGood (ws.take (i + 1 + 1))) := writes_more HGO.out HY.out hk hv (.inr ⟨i, z, rfl, HZ.out, hcmp⟩)
          have hle : (Op.bytesLess y.key.toList z.key.toList || y.key.toList == z.key.toList) = false := by rw [leqK, hcmp]; rfl
          clear hk hv
          go_wp2_with fail
          go_quiet ((go_at_call 31; exact quiet_left (HKM.out _)))
          go_wp2_with fail
          go_roundw
          case rel => exact ⟨⟨i + 1 + 1, by omega, by go_num, HW.out⟩, below_drewN HL.out _⟩
          case measure => simp [intOf]; omega
    · obtain rfl : j = n := by omega
      have HE : Hid ((writesB ws && decide (ws.length ≤ 6)) = decide ((j : Int) ≤ 6)) := by
        show _ = _
        have hg := HGO.out
        rw [List.take_of_length_le (by rw [Hn.out]; exact Nat.le_refl _)] at hg
        rw [writesB_iff.2 hg, Bool.true_and, Hn.out]
        exact decide_eq_decide.2 (by omega)
      go_wp2_with fail
      all_goals
        go_ret
        rw [HE.out]
        refine ⟨ret_bool ?_, HL.out⟩
        first | rfl | simp | (simp; omega)

set_option maxRecDepth 100000 in
set_option maxHeartbeats 8000000 in
theorem clientMay_any (x : MClient) (clock : Int) (A : Option Addr) (n c : Nat) (w : World) (h : WritesOk w w.heap.size A n c x.writes) (hck : 0 ≤ clock ∧ clock ≤ 1099511627376) :
    Calls Try.prog 65 #[.agg #[.int .i64 x.phase, .int .i64 x.start, .int .i64 x.commit, .slice A n c, .int .i64 x.at_], .int .i64 clock] w fun e w' => e = .returned (.bool (clientB x clock)) ∧ Below w.heap.size w w' := by
  have H := Lib.hid h
  have Hn := Lib.hid h.at_.1
  clear h
  have HL0 : Hid (Below w.heap.size w (w.alloc (.cells #[.int .i64 x.phase, .int .i64 x.start, .int .i64 x.commit, .slice A n c, .int .i64 x.at_] 58))) := (Below.refl _ w).alloc (Nat.le_refl _) _
  have HB0 : Hid ((w.alloc (.cells #[.int .i64 x.phase, .int .i64 x.start, .int .i64 x.commit, .slice A n c, .int .i64 x.at_] 58)).heap[w.heap.size]? = some (.cells #[.int .i64 x.phase, .int .i64 x.start, .int .i64 x.commit, .slice A n c, .int .i64 x.at_] 58 (0, 0))) := blk_new w _ _
  go_enter Try.func65, Try.ntmps65
  go_wp2_with fail
  refine (writesMay_any x.writes A n c _ ((H.out.below HL0.out (Nat.le_refl _)).more HL0.out.size)).mono ?_
  rintro e w1 ⟨rfl, hb⟩
  have HL1 := Lib.hid (HL0.out.trans (hb.mono HL0.out.size))
  have HB1 := Lib.hid ((hb.block _ (blk_lt HB0.out)).trans HB0.out)
  clear hb HB0 HL0
  cases hwb : (writesB x.writes && decide (x.writes.length ≤ 6))
  · have HE : Hid (clientB x clock = false) := by
      show _ = _
      unfold clientB
      revert hwb
      cases writesB x.writes <;> cases decide (x.writes.length ≤ 6) <;> simp
    clear hwb
    go_wp2_with fail
    go_ret
    rw [HE.out]
    exact ⟨rfl, HL1.out⟩
  have hw2 : writesB x.writes = true ∧ x.writes.length ≤ 6 := by simpa using hwb
  have HP : Hid (clientB x clock = phaseB x clock) := by
    show _ = _
    unfold clientB phaseB
    rw [decide_eq_true hw2.2, hw2.1, Bool.true_and, Bool.true_and]
  have hn6 : n ≤ 6 := by rw [← Hn.out]; exact hw2.2
  have HN : Hid (x.writes.length = n) := Hn.out
  clear hwb hw2 Hn H
  obtain ⟨hc0, hf0⟩ := blk_read HB1.out
  by_cases h0 : x.phase = 0
  · have e0 : (x.phase == 0) = true := by simpa using h0
    go_wp2_with fail
    all_goals
      go_ret
      refine ⟨ret_bool ?_, HL1.out⟩
      rw [HP.out]
      clear hc0 hf0 HP HL1 HB1
      have hn := HN.out
      clear HN
      simp only [beq_iff_eq] at *
      rw [Bool.eq_iff_iff, phaseB_iff]
      simp only [Bool.false_eq_true, beq_iff_eq, hn]
      refine ⟨fun h => ?_, fun h => ?_⟩ <;> first | exact (h : False).elim | omega
  have e0 : (x.phase == 0) = false := by simpa using h0
  cases e1 : inB x.start 1 clock
  · go_wp2_with (go_at_call 29; refine (in_any _ _ _ _).mono ?_; rintro e w' ⟨rfl, rfl⟩)
    all_goals
      go_ret
      refine ⟨ret_bool ?_, HL1.out⟩
      rw [HP.out]
      clear hc0 hf0 HP HL1 HB1
      have hn := HN.out
      clear HN
      simp only [inB, beq_eq_false_iff_ne, ne_eq, Bool.and_eq_false_iff, decide_eq_false_iff_not] at *
      rw [Bool.eq_iff_iff, phaseB_iff]
      simp only [Bool.false_eq_true, hn]
      refine ⟨fun h => ?_, fun h => ?_⟩ <;> first | exact (h : False).elim | omega
  cases e2 : inB x.phase 1 4
  · go_wp2_with (go_at_call 29; refine (in_any _ _ _ _).mono ?_; rintro e w' ⟨rfl, rfl⟩)
    all_goals
      go_ret
      refine ⟨ret_bool ?_, HL1.out⟩
      rw [HP.out]
      clear hc0 hf0 HP HL1 HB1
      have hn := HN.out
      clear HN
      simp only [inB, beq_eq_false_iff_ne, ne_eq, Bool.and_eq_true, Bool.and_eq_false_iff, decide_eq_true_eq, decide_eq_false_iff_not] at *
      rw [Bool.eq_iff_iff, phaseB_iff]
      simp only [Bool.false_eq_true, hn]
      refine ⟨fun h => ?_, fun h => ?_⟩ <;> first | exact (h : False).elim | omega
  have hs : 1 ≤ x.start ∧ x.start ≤ clock := by unfold inB at e1; simpa using e1
  obtain ⟨hs1, hs2⟩ := hs
  obtain ⟨hk1, hk2⟩ := hck
  go_wp2_with (go_at_call 29; refine (in_any _ _ _ _).mono ?_; rintro e w' ⟨rfl, rfl⟩)
  all_goals
    go_ret
    refine ⟨ret_bool ?_, HL1.out⟩
    rw [HP.out]
    clear hc0 hf0 HP HL1 HB1
    have hn := HN.out
    clear HN
    simp only [inB, beq_iff_eq, beq_eq_false_iff_ne, ne_eq, Bool.and_eq_true, Bool.and_eq_false_iff, Bool.not_eq_true', Bool.not_eq_false', decide_eq_true_eq, decide_eq_false_iff_not] at *
    rw [Bool.eq_iff_iff, phaseB_iff]
    simp only [Bool.false_eq_true, Bool.and_eq_true, decide_eq_true_eq, beq_iff_eq, hn]
    refine ⟨fun h => ?_, fun h => ?_⟩ <;> first | exact (h : False).elim | omega
set_option maxRecDepth 100000 in
set_option maxHeartbeats 4000000 in
theorem worldMay_any (M : MWorld) (A A' : Option Addr) (n c n' c' : Nat) (w : World) (hr : RowsOk w w.heap.size A n c M.rows) (hc : ClientsOk w w.heap.size A' n' c' M.clients) :
    Calls Try.prog 28 #[.agg #[.slice A n c, .int .i64 M.clock, .slice A' n' c']] w fun e w' => e = .returned (.bool (worldB M)) ∧ Below w.heap.size w w' := by
  have HR := Lib.hid hr
  have HC := Lib.hid hc
  have hn := hr.len
  have hn' := hc.len
  clear hr hc
  by_cases hbad : 40 < n ∨ 5 < n' ∨ M.clock < 0 ∨ 1099511627376 < M.clock
  · have HE : Hid (worldB M = false) := by show _ = _; rw [world_head_bad (by rw [hn, hn']; exact hbad)]
    have hx : 40 < n ∨ (n ≤ 40 ∧ 5 < n') ∨ (n ≤ 40 ∧ n' ≤ 5 ∧ M.clock < 0) ∨ (n ≤ 40 ∧ n' ≤ 5 ∧ 0 ≤ M.clock ∧ 1099511627376 < M.clock) := by omega
    clear hbad hn hn'
    rcases hx with h1 | ⟨h1, h2⟩ | ⟨h1, h2, h3⟩ | ⟨h1, h2, h3, h4⟩
    · have d1 : decide ((40 : Int) < (n : Int)) = true := decide_eq_true (by omega)
      go_enter Try.func28, Try.ntmps28
      go_wp2_with fail
      go_ret
      rw [HE.out]
      exact ⟨rfl, (Below.refl _ _).alloc (Nat.le_refl _) _⟩
    · have d1 : decide ((40 : Int) < (n : Int)) = false := decide_eq_false (by omega)
      have d2 : decide ((5 : Int) < (n' : Int)) = true := decide_eq_true (by omega)
      go_enter Try.func28, Try.ntmps28
      go_wp2_with fail
      go_ret
      rw [HE.out]
      exact ⟨rfl, (Below.refl _ _).alloc (Nat.le_refl _) _⟩
    · have d1 : decide ((40 : Int) < (n : Int)) = false := decide_eq_false (by omega)
      have d2 : decide ((5 : Int) < (n' : Int)) = false := decide_eq_false (by omega)
      have HIN := Lib.hid (in_is (n := M.clock) (lo := 0) (hi := 1099511627376) (b := false) (by unfold inB; simp; omega))
      go_enter Try.func28, Try.ntmps28
      go_wp2_with (go_at_call 29; refine (HIN.out _).mono ?_; rintro e w' ⟨rfl, rfl⟩)
      go_ret
      rw [HE.out]
      exact ⟨rfl, (Below.refl _ _).alloc (Nat.le_refl _) _⟩
    · have d1 : decide ((40 : Int) < (n : Int)) = false := decide_eq_false (by omega)
      have d2 : decide ((5 : Int) < (n' : Int)) = false := decide_eq_false (by omega)
      have HIN := Lib.hid (in_is (n := M.clock) (lo := 0) (hi := 1099511627376) (b := false) (by unfold inB; simp; omega))
      go_enter Try.func28, Try.ntmps28
      go_wp2_with (go_at_call 29; refine (HIN.out _).mono ?_; rintro e w' ⟨rfl, rfl⟩)
      go_ret
      rw [HE.out]
      exact ⟨rfl, (Below.refl _ _).alloc (Nat.le_refl _) _⟩
  have d1 : decide ((40 : Int) < (n : Int)) = false := decide_eq_false (by omega)
  have d2 : decide ((5 : Int) < (n' : Int)) = false := decide_eq_false (by omega)
  have h3 : 0 ≤ M.clock := by omega
  have h4 : M.clock ≤ 1099511627376 := by omega
  have h1 : n ≤ 40 := by omega
  have h2 : n' ≤ 5 := by omega
  have HN := Lib.hid hn
  have HN' := Lib.hid hn'
  have HIN := Lib.hid (in_is (n := M.clock) (lo := 0) (hi := 1099511627376) (b := true) (by unfold inB; simp; omega))
  clear hbad hn hn'
  go_enter Try.func28, Try.ntmps28
  go_wp2_with (go_at_call 29; refine (HIN.out _).mono ?_; rintro e w' ⟨rfl, rfl⟩)
  clear HIN
  go_loopw [3] (fun i wr => (∃ k : Nat, k ≤ n ∧ i = .int .i64 k ∧ RowsPre M.clock (M.rows.take k)) ∧ Below w.heap.size w wr ∧ wr.heap[w.heap.size]? = some (.cells #[.slice A n c, .int .i64 M.clock, .slice A' n' c'] 36 (0, 0))) (fun i _ => n - (intOf i).toNat)
  case atStart => exact ⟨⟨0, Nat.zero_le _, rfl, rows_pre_nil _⟩, (Below.refl _ _).alloc (Nat.le_refl _) _, blk_new _ _ _⟩
  case round =>
    obtain ⟨⟨k, hk, rfl, hpre⟩, hbel, hblk⟩ := hrel
    have HP := Lib.hid hpre
    have HL := Lib.hid hbel
    have HB := Lib.hid hblk
    clear hpre hbel hblk d1 d2
    obtain ⟨hc0, hf0⟩ := blk_read HB.out
    have hz := blk_lt HB.out
    by_cases hlt : k < n
    · obtain ⟨r, b, off, A1, n1, c1, hr, rfl, hbb, hok, g0, g1, g2, g3, g4⟩ := (HR.out.below HL.out (Nat.le_refl _)).row hlt
      have HRR := Lib.hid hr
      have HOK := Lib.hid (hok.more (Nat.le_of_lt hz))
      have hbz : b < wr.heap.size := by omega
      have hprev0 : (k = 0 ∨ ∃ (i : Nat) (z : MRow), k = i + 1 ∧ M.rows[i]? = some z ∧ wr.cell? ⟨b, off + i * 5, none⟩ = some (.string z.key)) := by
        rcases k with _ | i
        · exact .inl rfl
        · obtain ⟨z, b', off', _, _, _, hz', e, _, _, g0', _⟩ := (HR.out.below HL.out (Nat.le_refl _)).row (show i < n by omega)
          injection e with e
          injection e with e1 e2
          subst e1; subst e2
          exact .inr ⟨i, z, rfl, hz', g0'⟩
      clear hr hok
      go_upto_region 7 with (fail)
      obtain ⟨v, hv⟩ : ∃ v, v = wr.alloc (.cells #[.string r.key, .int .i64 r.ls, .string r.lp, .string r.value, .slice A1 n1 c1] 26) := ⟨_, rfl⟩
      rw [← hv]
      have hbv : Below wr.heap.size wr v := by rw [hv]; exact (Below.refl _ _).alloc (Nat.le_refl _) _
      have HLv := Lib.hid (HL.out.trans (hbv.mono HL.out.size))
      have HBv := Lib.hid (blk_keep hbv HB.out hz)
      have HYv : Hid (v.heap[wr.heap.size]? = some (.cells #[.string r.key, .int .i64 r.ls, .string r.lp, .string r.value, .slice A1 n1 c1] 26 (0, 0))) := by show _ = _; rw [hv]; exact blk_new _ _ _
      have HOKv := Lib.hid ((HOK.out.below hbv (Nat.le_refl _)).more hbv.size)
      have hprev : (k = 0 ∨ ∃ (i : Nat) (z : MRow), k = i + 1 ∧ M.rows[i]? = some z ∧ v.cell? ⟨b, off + i * 5, none⟩ = some (.string z.key)) := by
        rcases hprev0 with h | ⟨i, z, h1, h2, h3⟩
        · exact .inl h
        · exact .inr ⟨i, z, h1, h2, (hbv.cell (p := ⟨b, off + i * 5, none⟩) hbz).trans h3⟩
      clear hv hc0 hf0 g0 g1 g2 g3 g4 hprev0
      have hzx := blk_lt HBv.out
      have hzy := blk_lt HYv.out
      have hbz' : b < v.heap.size := by have := hbv.size; omega
      obtain ⟨hcx, hfx⟩ := blk_read HBv.out
      obtain ⟨hcy, hfy⟩ := blk_read HYv.out
      clear hbv
      go_cut [61] (fun t wx => ∃ T : Bool, t = .bool T ∧ RowTest M k r T ∧ Below v.heap.size v wx)
      case first =>
        have q0 : ∀ u : Grown v, u.w.cell? ⟨wr.heap.size, 0, none⟩ = some (.string r.key) := fun u => grown_cell u hzy (by simpa using hcy 0)
        have q1 : ∀ u : Grown v, u.w.cell? ⟨wr.heap.size, 1, none⟩ = some (.int .i64 r.ls) := fun u => grown_cell u hzy (by simpa using hcy 1)
        have q2 : ∀ u : Grown v, u.w.cell? ⟨wr.heap.size, 2, none⟩ = some (.string r.lp) := fun u => grown_cell u hzy (by simpa using hcy 2)
        have q3 : ∀ u : Grown v, u.w.cell? ⟨wr.heap.size, 3, none⟩ = some (.string r.value) := fun u => grown_cell u hzy (by simpa using hcy 3)
        have q4 : ∀ u : Grown v, u.w.cell? ⟨wr.heap.size, 4, none⟩ = some (.slice A1 n1 c1) := fun u => grown_cell u hzy (by simpa using hcy 4)
        have q5 : ∀ u : Grown v, u.w.cell? ⟨w.heap.size, 0, none⟩ = some (.slice (some ⟨b, off, none⟩) n c) := fun u => grown_cell u hzx (by simpa using hcx 0)
        have q6 : ∀ u : Grown v, u.w.cell? ⟨w.heap.size, 1, none⟩ = some (.int .i64 M.clock) := fun u => grown_cell u hzx (by simpa using hcx 1)
        cases hrb : rowB r
        · have HW := Lib.hid (world_row_bad HRR.out (.inl hrb))
          clear hprev
          refine wp_region_grown (by kernel_rfl) (by kernel_rfl) ?_
          repeat (go_big_quiet_step ((go_at_call 45; refine grown_call ((may_any r A1 n1 c1 _ (HOKv.out.grown _).recs.at_ (by have := HOKv.out.recs.small; unfold maxLen; omega) HOKv.out.key HOKv.out.lp).mono (fun _ _ h => (by rw [hrb] at h; exact h))))))
          refine wpQuiet_nil ?_
          rintro _ ⟨⟨w2, hb'⟩, rfl⟩
          clear q0 q1 q2 q3 q4 q5 q6
          go_wp2_with fail
          go_meet
          exact ⟨true, rfl, ⟨fun _ => HW.out, fun h => by cases h⟩, hb'⟩
        have HRB := Lib.hid hrb
        clear hrb
        rcases hprev with rfl | ⟨i, z, rfl, hz', hcz⟩
        · by_cases hls : r.ls ≤ M.clock
          · have hd : decide (M.clock < r.ls) = false := decide_eq_false (by omega)
            have HLS := Lib.hid hls
            clear hls
            refine wp_region_grown (by kernel_rfl) (by kernel_rfl) ?_
            repeat (go_big_quiet_step ((go_at_call 45; refine grown_call ((may_any r A1 n1 c1 _ (HOKv.out.grown _).recs.at_ (by have := HOKv.out.recs.small; unfold maxLen; omega) HOKv.out.key HOKv.out.lp).mono (fun _ _ h => (by rw [HRB.out] at h; exact h))))))
            refine wpQuiet_nil ?_
            rintro _ ⟨⟨w2, hb'⟩, rfl⟩
            clear q0 q1 q2 q3 q4 q5 q6
            go_wp2_with fail
            go_meet
            exact ⟨false, rfl, ⟨(fun h => by cases h), fun _ => ⟨HRB.out, HLS.out, .inl rfl⟩⟩, hb'⟩
          · have hd : decide (M.clock < r.ls) = true := decide_eq_true (by omega)
            have HW := Lib.hid (world_row_bad HRR.out (.inr (by omega)))
            clear hls
            refine wp_region_grown (by kernel_rfl) (by kernel_rfl) ?_
            repeat (go_big_quiet_step ((go_at_call 45; refine grown_call ((may_any r A1 n1 c1 _ (HOKv.out.grown _).recs.at_ (by have := HOKv.out.recs.small; unfold maxLen; omega) HOKv.out.key HOKv.out.lp).mono (fun _ _ h => (by rw [HRB.out] at h; exact h))))))
            refine wpQuiet_nil ?_
            rintro _ ⟨⟨w2, hb'⟩, rfl⟩
            clear q0 q1 q2 q3 q4 q5 q6
            go_wp2_with fail
            go_meet
            exact ⟨true, rfl, ⟨fun _ => HW.out, fun h => by cases h⟩, hb'⟩
        · have q7 : ∀ u : Grown v, u.w.cell? ⟨b, off + i * 5, none⟩ = some (.string z.key) := fun u => grown_cell u hbz' hcz
          have hgd : decide ((0 : Int) < (i : Int) + 1) = true := decide_eq_true (by omega)
          have hwr : IntKind.i64.wrap (i : Int) = i := IntWalk.i64_in _ (by omega)
          have hjn : (i : Int) < n := by omega
          have hj0 : (0 : Int) ≤ (i : Int) := by omega
          have HZ := Lib.hid hz'
          clear hz'
          by_cases hls : r.ls ≤ M.clock
          rotate_left
          · have hd : decide (M.clock < r.ls) = true := decide_eq_true (by omega)
            have HW := Lib.hid (world_row_bad HRR.out (.inr (by omega)))
            clear hls
            refine wp_region_grown (by kernel_rfl) (by kernel_rfl) ?_
            repeat (go_big_quiet_step ((go_at_call 45; refine grown_call ((may_any r A1 n1 c1 _ (HOKv.out.grown _).recs.at_ (by have := HOKv.out.recs.small; unfold maxLen; omega) HOKv.out.key HOKv.out.lp).mono (fun _ _ h => (by rw [HRB.out] at h; exact h))))))
            refine wpQuiet_nil ?_
            rintro _ ⟨⟨w2, hb'⟩, rfl⟩
            clear q0 q1 q2 q3 q4 q5 q6
            go_wp2_with fail
            go_meet
            exact ⟨true, rfl, ⟨fun _ => HW.out, fun h => by cases h⟩, hb'⟩
          have hd : decide (M.clock < r.ls) = false := decide_eq_false (by omega)
          have HLS := Lib.hid hls
          clear hls
          cases hcmp : Op.bytesLess z.key.toList r.key.toList
          · have HW := Lib.hid (world_order HZ.out HRR.out hcmp)
            have hle : (Op.bytesLess r.key.toList z.key.toList || r.key.toList == z.key.toList) = true := by rw [leqK, hcmp]; rfl
            refine wp_region_grown (by kernel_rfl) (by kernel_rfl) ?_
            repeat (go_big_quiet_step ((go_at_call 45; refine grown_call ((may_any r A1 n1 c1 _ (HOKv.out.grown _).recs.at_ (by have := HOKv.out.recs.small; unfold maxLen; omega) HOKv.out.key HOKv.out.lp).mono (fun _ _ h => (by rw [HRB.out] at h; exact h))))))
            refine wpQuiet_nil ?_
            rintro _ ⟨⟨w2, hb'⟩, rfl⟩
            clear q0 q1 q2 q3 q4 q5 q6
            go_wp2_with fail
            go_meet
            exact ⟨true, rfl, ⟨fun _ => HW.out, fun h => by cases h⟩, hb'⟩
          · have hle : (Op.bytesLess r.key.toList z.key.toList || r.key.toList == z.key.toList) = false := by rw [leqK, hcmp]; rfl
            refine wp_region_grown (by kernel_rfl) (by kernel_rfl) ?_
            repeat (go_big_quiet_step ((go_at_call 45; refine grown_call ((may_any r A1 n1 c1 _ (HOKv.out.grown _).recs.at_ (by have := HOKv.out.recs.small; unfold maxLen; omega) HOKv.out.key HOKv.out.lp).mono (fun _ _ h => (by rw [HRB.out] at h; exact h))))))
            refine wpQuiet_nil ?_
            rintro _ ⟨⟨w2, hb'⟩, rfl⟩
            clear q0 q1 q2 q3 q4 q5 q6
            go_wp2_with fail
            go_meet
            exact ⟨false, rfl, ⟨(fun h => by cases h), fun _ => ⟨HRB.out, HLS.out, .inr ⟨i, z, rfl, HZ.out, hcmp⟩⟩⟩, hb'⟩
      case rest =>
        obtain ⟨T, rfl, hT, hb'⟩ := hcut
        have HT := Lib.hid hT
        have HLc := Lib.hid (HLv.out.trans (hb'.mono HLv.out.size))
        have HBc := Lib.hid (blk_keep hb' HBv.out hzx)
        have HYc := Lib.hid (blk_keep hb' HYv.out hzy)
        have HOKc := Lib.hid ((HOKv.out.below hb' (Nat.le_refl _)).more hb'.size)
        clear hT hb' hcx hfx hcy hfy hprev
        cases T
        rotate_left
        · have HE : Hid (worldB M = false) := by show _ = _; rw [HT.out.1 rfl]
          go_wp2_with fail
          go_ret
          rw [HE.out]
          exact ⟨rfl, HLc.out⟩
        obtain ⟨hcy, hfy⟩ := blk_read HYc.out
        have hsm := HOKc.out.recs.small
        have hn1 := HOKc.out.recs.at_.1
        have HN1 := Lib.hid hn1
        have hkk : k < M.rows.length := by rw [HN.out]; exact hlt
        obtain ⟨gy, hgy⟩ : ∃ gy, gy = wr.heap.size := ⟨_, rfl⟩
        rw [← hgy] at HYc ⊢
        clear hn1 hgy HYv
        go_wp2_with fail
        clear hcy hfy
        go_loopw [5] (fun i ws => (∃ m : Nat, m ≤ n1 ∧ i = .int .i64 m ∧ ∀ y ∈ r.recs.take m, y.start ≤ M.clock ∧ y.commit ≤ M.clock) ∧ Below wc.heap.size wc ws) (fun i _ => n1 - (intOf i).toNat)
        case atStart => exact ⟨⟨0, Nat.zero_le _, rfl, fun y hy => (List.not_mem_nil hy).elim⟩, Below.refl _ _⟩
        case round =>
          obtain ⟨⟨m, hm, rfl, hall⟩, hbel2⟩ := hrel
          have HA := Lib.hid hall
          have HL3 := Lib.hid hbel2
          have HB2 := Lib.hid (blk_keep hbel2 HBc.out (blk_lt HBc.out))
          have HY2 := Lib.hid (blk_keep hbel2 HYc.out (blk_lt HYc.out))
          have HL2 := Lib.hid (HLc.out.trans (hbel2.mono HLc.out.size))
          clear hall hbel2
          obtain ⟨hc0, hf0⟩ := blk_read HB2.out
          obtain ⟨hcy, hfy⟩ := blk_read HY2.out
          by_cases hlt2 : m < n1
          · obtain ⟨x, b2, off2, hx, rfl, hb2, e0, e1, e2⟩ := (HOKc.out.recs.at_.below HL3.out (Nat.le_refl _)).at_ hlt2
            have HX := Lib.hid hx
            clear hx
            by_cases h5 : x.start ≤ M.clock
            · have d5 : decide (M.clock < x.start) = false := decide_eq_false (by omega)
              by_cases h6 : x.commit ≤ M.clock
              · have d6 : decide (M.clock < x.commit) = false := decide_eq_false (by omega)
                have HNX := Lib.hid (recs_more HA.out HX.out h5 h6)
                clear h5 h6
                go_wp2_with fail
                go_quiet (fail)
                go_wp2_with fail
                go_roundw
                case rel => exact ⟨⟨m + 1, by omega, by go_num, HNX.out⟩, below_drewN HL3.out _⟩
                case measure => simp [intOf]; omega
              · have d6 : decide (M.clock < x.commit) = true := decide_eq_true (by omega)
                have HE : Hid (worldB M = false) := by show _ = _; rw [world_rec_bad HRR.out HX.out (.inr (by omega))]
                clear h5 h6
                go_wp2_with fail
                go_quiet (fail)
                go_wp2_with fail
                go_ret
                rw [HE.out]
                exact ⟨rfl, below_drewN HL2.out _⟩
            · have d5 : decide (M.clock < x.start) = true := decide_eq_true (by omega)
              have HE : Hid (worldB M = false) := by show _ = _; rw [world_rec_bad HRR.out HX.out (.inl (by omega))]
              clear h5
              go_wp2_with fail
              go_quiet (fail)
              go_wp2_with fail
              go_ret
              rw [HE.out]
              exact ⟨rfl, below_drewN HL2.out _⟩
          · obtain rfl : m = n1 := by omega
            have HNX : Hid (RowsPre M.clock (M.rows.take (k + 1))) := by
              obtain ⟨t1, t2, t3⟩ := HT.out.2 rfl
              refine rows_more HP.out HRR.out t1 ⟨t2, ?_⟩ t3
              have := HA.out
              rwa [List.take_of_length_le (by rw [HN1.out]; exact Nat.le_refl _)] at this
            go_wp2_with fail
            go_roundw
            case rel => exact ⟨⟨k + 1, by omega, by go_num, HNX.out⟩, HL2.out, HB2.out⟩
            case measure => simp [intOf]; omega
    · obtain rfl : k = n := by omega
      have HPR : Hid (RowsPre M.clock M.rows) := by
        have := HP.out
        rwa [List.take_of_length_le (by rw [HN.out]; exact Nat.le_refl _)] at this
      clear hlt hk
      go_wp2_with fail
      obtain ⟨wo, ho⟩ : ∃ wo : World, wo = wr := ⟨_, rfl⟩
      subst ho
      have HLo := Lib.hid HL.out
      have HBo := Lib.hid HB.out
      clear HL HB hc0 hf0 hz
      go_loopw [6] (fun i ws => (∃ m : Nat, m ≤ n' ∧ i = .int .i64 m ∧ ∀ y ∈ M.clients.take m, clientB y M.clock = true) ∧ Below w.heap.size w ws ∧ ws.heap[w.heap.size]? = some (.cells #[.slice A k c, .int .i64 M.clock, .slice A' n' c'] 36 (0, 0))) (fun i _ => n' - (intOf i).toNat)
      case atStart => exact ⟨⟨0, Nat.zero_le _, rfl, fun y hy => (List.not_mem_nil hy).elim⟩, HLo.out, HBo.out⟩
      case round =>
        obtain ⟨⟨m, hm, rfl, hall⟩, hbel, hblk⟩ := hrel
        have HA := Lib.hid hall
        have HL := Lib.hid hbel
        have HB := Lib.hid hblk
        clear hall hbel hblk
        obtain ⟨hc0, hf0⟩ := blk_read HB.out
        have hz := blk_lt HB.out
        by_cases hlt : m < n'
        · obtain ⟨x, b, off, A1, n1, c1, hx, rfl, hbb, hok, g0, g1, g2, g3, g4⟩ := (HC.out.below HL.out (Nat.le_refl _)).client hlt
          have HX := Lib.hid hx
          have HOK := Lib.hid hok.writes
          clear hx hok
          have hg0 := blk_lt HB.out
          have HOKr := Lib.hid (HOK.out.more (C := wr.heap.size) (Nat.le_of_lt hz))
          have HFN : Hid (worldB M = true → True) := fun _ => trivial
          have hz0 : w.heap.size < wr.heap.size := hz
          have hbz : b < wr.heap.size := by omega
          have HCL : Hid (∀ u : Grown wr, Calls Try.prog 65 #[.agg #[.int .i64 x.phase, .int .i64 x.start, .int .i64 x.commit, .slice A1 n1 c1, .int .i64 x.at_], .int .i64 M.clock] u.w fun e w' => e = .returned (.bool (clientB x M.clock)) ∧ Below u.w.heap.size u.w w') := by
            show ∀ u : Grown wr, _
            intro u
            exact clientMay_any x M.clock A1 n1 c1 u.w ((HOKr.out.below u.below (Nat.le_refl _)).more u.below.size) ⟨h3, h4⟩
          have q0 : ∀ u : Grown wr, u.w.cell? ⟨w.heap.size, 1, none⟩ = some (.int .i64 M.clock) := fun u => grown_cell u hz (by simpa using hc0 1)
          have q1 : ∀ u : Grown wr, u.w.cell? ⟨w.heap.size, 2, none⟩ = some (.slice (some ⟨b, off, none⟩) n' c') := fun u => grown_cell u hz (by simpa using hc0 2)
          have p0 : ∀ u : Grown wr, u.w.cell? ⟨b, off + m * 5, none⟩ = some (.int .i64 x.phase) := fun u => grown_cell u hbz g0
          have p1 : ∀ u : Grown wr, u.w.cell? ⟨b, off + m * 5 + 1, none⟩ = some (.int .i64 x.start) := fun u => grown_cell u hbz g1
          have p2 : ∀ u : Grown wr, u.w.cell? ⟨b, off + m * 5 + 2, none⟩ = some (.int .i64 x.commit) := fun u => grown_cell u hbz g2
          have p3 : ∀ u : Grown wr, u.w.cell? ⟨b, off + m * 5 + 3, none⟩ = some (.slice A1 n1 c1) := fun u => grown_cell u hbz g3
          have p4 : ∀ u : Grown wr, u.w.cell? ⟨b, off + m * 5 + 4, none⟩ = some (.int .i64 x.at_) := fun u => grown_cell u hbz g4
          clear HFN
          cases hcb : clientB x M.clock
          · have HE : Hid (worldB M = false) := by show _ = _; rw [world_client_bad HX.out hcb]
            rw [hcb] at HCL
            go_upto_region 17 with (fail)
            refine wp_region_grown (by kernel_rfl) (by kernel_rfl) ?_
            repeat (go_big_quiet_step ((go_at_call 65; exact grown_call (HCL.out _))))
            refine wpQuiet_nil ?_
            rintro _ ⟨⟨w2, hb'⟩, rfl⟩
            clear q0 q1 p0 p1 p2 p3 p4
            go_wp2_with fail
            go_ret
            rw [HE.out]
            exact ⟨rfl, HL.out.trans (hb'.mono HL.out.size)⟩
          · have HNX := Lib.hid (clients_more HA.out HX.out hcb)
            rw [hcb] at HCL
            go_upto_region 17 with (fail)
            refine wp_region_grown (by kernel_rfl) (by kernel_rfl) ?_
            repeat (go_big_quiet_step ((go_at_call 65; exact grown_call (HCL.out _))))
            refine wpQuiet_nil ?_
            rintro _ ⟨⟨w2, hb'⟩, rfl⟩
            clear q0 q1 p0 p1 p2 p3 p4
            go_wp2_with fail
            go_roundw
            case rel => exact ⟨⟨m + 1, by omega, by go_num, HNX.out⟩, HL.out.trans (hb'.mono HL.out.size), blk_keep hb' HB.out hz⟩
            case measure => simp [intOf]; omega
        · obtain rfl : m = n' := by omega
          have HE : Hid (worldB M = true) := by
            show _ = _
            have hcl := HA.out
            rw [List.take_of_length_le (by rw [HN'.out]; exact Nat.le_refl _)] at hcl
            rw [world_all (by rw [HN.out]; exact h1) (by rw [HN'.out]; exact h2) ⟨h3, h4⟩ HPR.out hcl]
          go_wp2_with fail
          go_ret
          rw [HE.out]
          exact ⟨rfl, HL.out⟩
end Go.Proofs.Ytniomgngiiiklab
