/- The walk of txn.Check. -/
import Derived.Test.YtniomgngiiiklaaClientW
import Derived.Test.YtniomgngiiiklaaCheck
namespace Go.Proofs.Ytniomgngiiiklaa
open Go.RowKit

theorem RowOk.grown {v : World} {r : MRow} {A : Option Addr} {n c : Nat} (h : RowOk v v.heap.size r A n c) (u : Grown v) : RowOk u.w u.w.heap.size r A n c := (h.below u.below (Nat.le_refl _)).more u.below.size
/-- What the test of row k says. -/
def RowTest (M : MWorld) (k : Nat) (r : MRow) (T : Bool) : Prop :=
  (T = true → worldB M = false) ∧ (T = false → rowB r = true ∧ r.ls ≤ M.clock ∧ (k = 0 ∨ ∃ j y, k = j + 1 ∧ M.rows[j]? = some y ∧ ltK y.key r.key = true))
theorem okCode_true : okCode true = 0 := rfl
theorem okCode_false : okCode false = 6 := rfl
set_option maxRecDepth 100000 in
set_option maxHeartbeats 4000000 in
theorem txnCheck_any (M : MWorld) (A A' : Option Addr) (n c n' c' : Nat) (w : World) (hr : RowsOk w w.heap.size A n c M.rows) (hc : ClientsOk w w.heap.size A' n' c' M.clients) :
    Calls Try.prog 25 #[.agg #[.slice A n c, .int .i64 M.clock, .slice A' n' c']] w fun e w' => e = .returned (.int .i64 (okCode (worldB M))) ∧ Below w.heap.size w w' := by
  have HR := Lib.hid hr
  have HC := Lib.hid hc
  have hn := hr.len
  have hn' := hc.len
  clear hr hc
  by_cases hbad : 40 < n ∨ 5 < n' ∨ M.clock < 0 ∨ 1099511627376 < M.clock
  · have HE : Hid (okCode (worldB M) = 6) := by show _ = _; rw [world_head_bad (by rw [hn, hn']; exact hbad)]; rfl
    have hx : 40 < n ∨ (n ≤ 40 ∧ 5 < n') ∨ (n ≤ 40 ∧ n' ≤ 5 ∧ M.clock < 0) ∨ (n ≤ 40 ∧ n' ≤ 5 ∧ 0 ≤ M.clock ∧ 1099511627376 < M.clock) := by omega
    clear hbad hn hn'
    rcases hx with h1 | ⟨h1, h2⟩ | ⟨h1, h2, h3⟩ | ⟨h1, h2, h3, h4⟩
    · have d1 : decide ((40 : Int) < (n : Int)) = true := decide_eq_true (by omega)
      go_enter Try.func25, Try.ntmps25
      go_wp2_with fail
      go_ret
      rw [HE.out]
      exact ⟨rfl, (Below.refl _ _).alloc (Nat.le_refl _) _⟩
    · have d1 : decide ((40 : Int) < (n : Int)) = false := decide_eq_false (by omega)
      have d2 : decide ((5 : Int) < (n' : Int)) = true := decide_eq_true (by omega)
      go_enter Try.func25, Try.ntmps25
      go_wp2_with fail
      go_ret
      rw [HE.out]
      exact ⟨rfl, (Below.refl _ _).alloc (Nat.le_refl _) _⟩
    · have d1 : decide ((40 : Int) < (n : Int)) = false := decide_eq_false (by omega)
      have d2 : decide ((5 : Int) < (n' : Int)) = false := decide_eq_false (by omega)
      go_enter Try.func25, Try.ntmps25
      go_wp2_with fail
      go_ret
      rw [HE.out]
      exact ⟨rfl, (Below.refl _ _).alloc (Nat.le_refl _) _⟩
    · have d1 : decide ((40 : Int) < (n : Int)) = false := decide_eq_false (by omega)
      have d2 : decide ((5 : Int) < (n' : Int)) = false := decide_eq_false (by omega)
      go_enter Try.func25, Try.ntmps25
      go_wp2_with fail
      go_ret
      rw [HE.out]
      exact ⟨rfl, (Below.refl _ _).alloc (Nat.le_refl _) _⟩
  have d1 : decide ((40 : Int) < (n : Int)) = false := decide_eq_false (by omega)
  have d2 : decide ((5 : Int) < (n' : Int)) = false := decide_eq_false (by omega)
  have h3 : 0 ≤ M.clock := by omega
  have h4 : M.clock ≤ 1099511627376 := by omega
  have h1 : n ≤ 40 := by omega
  have h2 : n' ≤ 5 := by omega
  have HN := Lib.hid hn
  have HN' := Lib.hid hn'
  clear hbad hn hn'
  go_enter Try.func25, Try.ntmps25
  go_wp2_with fail
  go_loopw [32] (fun i wr => (∃ k : Nat, k ≤ n ∧ i = .int .i64 k ∧ RowsPre M.clock (M.rows.take k)) ∧ Below w.heap.size w wr ∧ wr.heap[w.heap.size]? = some (.cells #[.slice A n c, .int .i64 M.clock, .slice A' n' c'] 38 (0, 0))) (fun i _ => n - (intOf i).toNat)
  case atStart => exact ⟨⟨0, Nat.zero_le _, rfl, rows_pre_nil _⟩, (Below.refl _ _).alloc (Nat.le_refl _) _, blk_new _ _ _⟩
  case round =>
    obtain ⟨⟨k, hk, rfl, hpre⟩, hbel, hblk⟩ := hrel
    have HP := Lib.hid hpre
    have HL := Lib.hid hbel
    have HB := Lib.hid hblk
    clear hpre hbel hblk d1 d2
    obtain ⟨hc0, hf0⟩ := blk_read HB.out
    have hz := blk_lt HB.out
    by_cases hlt : k < n
    · obtain ⟨r, b, off, A1, n1, c1, hr, rfl, hbb, hok, g0, g1, g2, g3, g4⟩ := (HR.out.below HL.out (Nat.le_refl _)).row hlt
      have HRR := Lib.hid hr
      have HOK := Lib.hid (hok.more (Nat.le_of_lt hz))
      have hbz : b < wr.heap.size := by omega
      have hprev0 : (k = 0 ∨ ∃ (i : Nat) (z : MRow), k = i + 1 ∧ M.rows[i]? = some z ∧ wr.cell? ⟨b, off + i * 5, none⟩ = some (.string z.key)) := by
        rcases k with _ | i
        · exact .inl rfl
        · obtain ⟨z, b', off', _, _, _, hz', e, _, _, g0', _⟩ := (HR.out.below HL.out (Nat.le_refl _)).row (show i < n by omega)
          injection e with e
          injection e with e1 e2
          subst e1; subst e2
          exact .inr ⟨i, z, rfl, hz', g0'⟩
      clear hr hok
      go_upto_region 6 with (fail)
      obtain ⟨v, hv⟩ : ∃ v, v = wr.alloc (.cells #[.string r.key, .int .i64 r.ls, .string r.lp, .string r.value, .slice A1 n1 c1] 30) := ⟨_, rfl⟩
      rw [← hv]
      have hbv : Below wr.heap.size wr v := by rw [hv]; exact (Below.refl _ _).alloc (Nat.le_refl _) _
      have HLv := Lib.hid (HL.out.trans (hbv.mono HL.out.size))
      have HBv := Lib.hid (blk_keep hbv HB.out hz)
      have HYv : Hid (v.heap[wr.heap.size]? = some (.cells #[.string r.key, .int .i64 r.ls, .string r.lp, .string r.value, .slice A1 n1 c1] 30 (0, 0))) := by show _ = _; rw [hv]; exact blk_new _ _ _
      have HOKv := Lib.hid ((HOK.out.below hbv (Nat.le_refl _)).more hbv.size)
      have hprev : (k = 0 ∨ ∃ (i : Nat) (z : MRow), k = i + 1 ∧ M.rows[i]? = some z ∧ v.cell? ⟨b, off + i * 5, none⟩ = some (.string z.key)) := by
        rcases hprev0 with h | ⟨i, z, h1, h2, h3⟩
        · exact .inl h
        · exact .inr ⟨i, z, h1, h2, (hbv.cell (p := ⟨b, off + i * 5, none⟩) hbz).trans h3⟩
      clear hv hc0 hf0 g0 g1 g2 g3 g4 hprev0
      have hzx := blk_lt HBv.out
      have hzy := blk_lt HYv.out
      have hbz' : b < v.heap.size := by have := hbv.size; omega
      obtain ⟨hcx, hfx⟩ := blk_read HBv.out
      obtain ⟨hcy, hfy⟩ := blk_read HYv.out
      clear hbv
      go_cut [63] (fun t wx => ∃ T : Bool, t = .bool T ∧ RowTest M k r T ∧ Below v.heap.size v wx)
      case first =>
        have q0 : ∀ u : Grown v, u.w.cell? ⟨wr.heap.size, 0, none⟩ = some (.string r.key) := fun u => grown_cell u hzy (by simpa using hcy 0)
        have q1 : ∀ u : Grown v, u.w.cell? ⟨wr.heap.size, 1, none⟩ = some (.int .i64 r.ls) := fun u => grown_cell u hzy (by simpa using hcy 1)
        have q2 : ∀ u : Grown v, u.w.cell? ⟨wr.heap.size, 2, none⟩ = some (.string r.lp) := fun u => grown_cell u hzy (by simpa using hcy 2)
        have q3 : ∀ u : Grown v, u.w.cell? ⟨wr.heap.size, 3, none⟩ = some (.string r.value) := fun u => grown_cell u hzy (by simpa using hcy 3)
        have q4 : ∀ u : Grown v, u.w.cell? ⟨wr.heap.size, 4, none⟩ = some (.slice A1 n1 c1) := fun u => grown_cell u hzy (by simpa using hcy 4)
        have q5 : ∀ u : Grown v, u.w.cell? ⟨w.heap.size, 0, none⟩ = some (.slice (some ⟨b, off, none⟩) n c) := fun u => grown_cell u hzx (by simpa using hcx 0)
        have q6 : ∀ u : Grown v, u.w.cell? ⟨w.heap.size, 1, none⟩ = some (.int .i64 M.clock) := fun u => grown_cell u hzx (by simpa using hcx 1)
        cases hrb : rowB r
        · have HW := Lib.hid (world_row_bad HRR.out (.inl hrb))
          clear hprev
          refine wp_region_grown (by kernel_rfl) (by kernel_rfl) ?_
          repeat (go_big_quiet_step ((go_at_call 19; refine grown_call ((check_any r A1 n1 c1 _ (HOKv.out.grown _).recs.at_ (by have := HOKv.out.recs.small; unfold maxLen; omega)).mono (fun _ _ h => (by rw [hrb, okCode_false] at h; exact h))))))
          refine wpQuiet_nil ?_
          rintro _ ⟨⟨w2, hb'⟩, rfl⟩
          clear q0 q1 q2 q3 q4 q5 q6
          go_wp2_with fail
          go_meet
          exact ⟨true, rfl, ⟨fun _ => HW.out, fun h => by cases h⟩, hb'⟩
        have HRB := Lib.hid hrb
        clear hrb
        rcases hprev with rfl | ⟨i, z, rfl, hz', hcz⟩
        · by_cases hls : r.ls ≤ M.clock
          · have hd : decide (M.clock < r.ls) = false := decide_eq_false (by omega)
            have HLS := Lib.hid hls
            clear hls
            refine wp_region_grown (by kernel_rfl) (by kernel_rfl) ?_
            repeat (go_big_quiet_step ((go_at_call 19; refine grown_call ((check_any r A1 n1 c1 _ (HOKv.out.grown _).recs.at_ (by have := HOKv.out.recs.small; unfold maxLen; omega)).mono (fun _ _ h => (by rw [HRB.out, okCode_true] at h; exact h))))))
            refine wpQuiet_nil ?_
            rintro _ ⟨⟨w2, hb'⟩, rfl⟩
            clear q0 q1 q2 q3 q4 q5 q6
            go_wp2_with fail
            go_meet
            exact ⟨false, rfl, ⟨(fun h => by cases h), fun _ => ⟨HRB.out, HLS.out, .inl rfl⟩⟩, hb'⟩
          · have hd : decide (M.clock < r.ls) = true := decide_eq_true (by omega)
            have HW := Lib.hid (world_row_bad HRR.out (.inr (by omega)))
            clear hls
            refine wp_region_grown (by kernel_rfl) (by kernel_rfl) ?_
            repeat (go_big_quiet_step ((go_at_call 19; refine grown_call ((check_any r A1 n1 c1 _ (HOKv.out.grown _).recs.at_ (by have := HOKv.out.recs.small; unfold maxLen; omega)).mono (fun _ _ h => (by rw [HRB.out, okCode_true] at h; exact h))))))
            refine wpQuiet_nil ?_
            rintro _ ⟨⟨w2, hb'⟩, rfl⟩
            clear q0 q1 q2 q3 q4 q5 q6
            go_wp2_with fail
            go_meet
            exact ⟨true, rfl, ⟨fun _ => HW.out, fun h => by cases h⟩, hb'⟩
        · have q7 : ∀ u : Grown v, u.w.cell? ⟨b, off + i * 5, none⟩ = some (.string z.key) := fun u => grown_cell u hbz' hcz
          have hgd : decide ((0 : Int) < (i : Int) + 1) = true := decide_eq_true (by omega)
          have hwr : IntKind.i64.wrap (i : Int) = i := IntWalk.i64_in _ (by omega)
          have hjn : (i : Int) < n := by omega
          have hj0 : (0 : Int) ≤ (i : Int) := by omega
          have HZ := Lib.hid hz'
          clear hz'
          cases hcmp : Op.bytesLess z.key.toList r.key.toList
          · have HW := Lib.hid (world_order HZ.out HRR.out hcmp)
            refine wp_region_grown (by kernel_rfl) (by kernel_rfl) ?_
            repeat (go_big_quiet_step ((go_at_call 19; refine grown_call ((check_any r A1 n1 c1 _ (HOKv.out.grown _).recs.at_ (by have := HOKv.out.recs.small; unfold maxLen; omega)).mono (fun _ _ h => (by rw [HRB.out, okCode_true] at h; exact h))))))
            refine wpQuiet_nil ?_
            rintro _ ⟨⟨w2, hb'⟩, rfl⟩
            clear q0 q1 q2 q3 q4 q5 q6
            go_wp2_with fail
            go_meet
            exact ⟨true, rfl, ⟨fun _ => HW.out, fun h => by cases h⟩, hb'⟩
          by_cases hls : r.ls ≤ M.clock
          · have hd : decide (M.clock < r.ls) = false := decide_eq_false (by omega)
            have HLS := Lib.hid hls
            clear hls
            refine wp_region_grown (by kernel_rfl) (by kernel_rfl) ?_
            repeat (go_big_quiet_step ((go_at_call 19; refine grown_call ((check_any r A1 n1 c1 _ (HOKv.out.grown _).recs.at_ (by have := HOKv.out.recs.small; unfold maxLen; omega)).mono (fun _ _ h => (by rw [HRB.out, okCode_true] at h; exact h))))))
            refine wpQuiet_nil ?_
            rintro _ ⟨⟨w2, hb'⟩, rfl⟩
            clear q0 q1 q2 q3 q4 q5 q6
            go_wp2_with fail
            go_meet
            exact ⟨false, rfl, ⟨(fun h => by cases h), fun _ => ⟨HRB.out, HLS.out, .inr ⟨i, z, rfl, HZ.out, hcmp⟩⟩⟩, hb'⟩
          · have hd : decide (M.clock < r.ls) = true := decide_eq_true (by omega)
            have HW := Lib.hid (world_row_bad HRR.out (.inr (by omega)))
            clear hls
            refine wp_region_grown (by kernel_rfl) (by kernel_rfl) ?_
            repeat (go_big_quiet_step ((go_at_call 19; refine grown_call ((check_any r A1 n1 c1 _ (HOKv.out.grown _).recs.at_ (by have := HOKv.out.recs.small; unfold maxLen; omega)).mono (fun _ _ h => (by rw [HRB.out, okCode_true] at h; exact h))))))
            refine wpQuiet_nil ?_
            rintro _ ⟨⟨w2, hb'⟩, rfl⟩
            clear q0 q1 q2 q3 q4 q5 q6
            go_wp2_with fail
            go_meet
            exact ⟨true, rfl, ⟨fun _ => HW.out, fun h => by cases h⟩, hb'⟩
      case rest =>
        obtain ⟨T, rfl, hT, hb'⟩ := hcut
        have HT := Lib.hid hT
        have HLc := Lib.hid (HLv.out.trans (hb'.mono HLv.out.size))
        have HBc := Lib.hid (blk_keep hb' HBv.out hzx)
        have HYc := Lib.hid (blk_keep hb' HYv.out hzy)
        have HOKc := Lib.hid ((HOKv.out.below hb' (Nat.le_refl _)).more hb'.size)
        clear hT hb' hcx hfx hcy hfy hprev
        cases T
        rotate_left
        · have HE : Hid (okCode (worldB M) = 6) := by show _ = _; rw [HT.out.1 rfl]; rfl
          go_wp2_with fail
          go_ret
          rw [HE.out]
          exact ⟨rfl, HLc.out⟩
        obtain ⟨hcy, hfy⟩ := blk_read HYc.out
        have hsm := HOKc.out.recs.small
        have hn1 := HOKc.out.recs.at_.1
        have HN1 := Lib.hid hn1
        have hkk : k < M.rows.length := by rw [HN.out]; exact hlt
        clear hn1
        go_wp2_with fail
        obtain ⟨wo, ho⟩ : ∃ wo : World, wo = wr := ⟨_, rfl⟩
        subst ho
        clear hcy hfy
        go_loopw [67] (fun i ws => (∃ m : Nat, m ≤ n1 ∧ i = .int .i64 m ∧ ∀ y ∈ r.recs.take m, y.start ≤ M.clock ∧ y.commit ≤ M.clock) ∧ Below w.heap.size w ws ∧ Below wc.heap.size wc ws) (fun i _ => n1 - (intOf i).toNat)
        case atStart => exact ⟨⟨0, Nat.zero_le _, rfl, fun y hy => (List.not_mem_nil hy).elim⟩, HLc.out, Below.refl _ _⟩
        case round =>
          obtain ⟨⟨m, hm, rfl, hall⟩, hbel, hbel2⟩ := hrel
          have HA := Lib.hid hall
          have HL2 := Lib.hid hbel
          have HL3 := Lib.hid hbel2
          have HB2 := Lib.hid (blk_keep hbel2 HBc.out (blk_lt HBc.out))
          clear hall hbel hbel2
          obtain ⟨hc0, hf0⟩ := blk_read HB2.out
          have hz2 := blk_lt HB2.out
          by_cases hlt2 : m < n1
          · obtain ⟨x, b2, off2, hx, rfl, hb2, e0, e1, e2⟩ := (HOKc.out.recs.at_.below HL3.out (Nat.le_refl _)).at_ hlt2
            have HX := Lib.hid hx
            clear hx
            by_cases h5 : x.start ≤ M.clock
            · have d5 : decide (M.clock < x.start) = false := decide_eq_false (by omega)
              by_cases h6 : x.commit ≤ M.clock
              · have d6 : decide (M.clock < x.commit) = false := decide_eq_false (by omega)
                have HNX := Lib.hid (recs_more HA.out HX.out h5 h6)
                clear h5 h6
                go_wp2_with fail
                go_roundw
                case rel => exact ⟨⟨m + 1, by omega, by go_num, HNX.out⟩, HL2.out.alloc HL2.out.size _, HL3.out.alloc HL3.out.size _⟩
                case measure => simp [intOf]; omega
              · have d6 : decide (M.clock < x.commit) = true := decide_eq_true (by omega)
                have HE : Hid (okCode (worldB M) = 6) := by show _ = _; rw [world_rec_bad HRR.out HX.out (.inr (by omega))]; rfl
                clear h5 h6
                go_wp2_with fail
                go_ret
                rw [HE.out]
                exact ⟨rfl, HL2.out.alloc HL2.out.size _⟩
            · have d5 : decide (M.clock < x.start) = true := decide_eq_true (by omega)
              have HE : Hid (okCode (worldB M) = 6) := by show _ = _; rw [world_rec_bad HRR.out HX.out (.inl (by omega))]; rfl
              clear h5
              go_wp2_with fail
              go_ret
              rw [HE.out]
              exact ⟨rfl, HL2.out.alloc HL2.out.size _⟩
          · obtain rfl : m = n1 := by omega
            have HNX : Hid (RowsPre M.clock (M.rows.take (k + 1))) := by
              obtain ⟨t1, t2, t3⟩ := HT.out.2 rfl
              refine rows_more HP.out HRR.out t1 ⟨t2, ?_⟩ t3
              have := HA.out
              rwa [List.take_of_length_le (by rw [HN1.out]; exact Nat.le_refl _)] at this
            go_wp2_with fail
            go_roundw
            case rel => exact ⟨⟨k + 1, by omega, by go_num, HNX.out⟩, HL2.out, HB2.out⟩
            case measure => simp [intOf]; omega
    · obtain rfl : k = n := by omega
      have HPR : Hid (RowsPre M.clock M.rows) := by
        have := HP.out
        rwa [List.take_of_length_le (by rw [HN.out]; exact Nat.le_refl _)] at this
      clear hlt hk
      go_wp2_with fail
      obtain ⟨wo, ho⟩ : ∃ wo : World, wo = wr := ⟨_, rfl⟩
      subst ho
      have HLo := Lib.hid HL.out
      have HBo := Lib.hid HB.out
      clear HL HB hc0 hf0 hz
      go_loopw [88] (fun i ws => (∃ m : Nat, m ≤ n' ∧ i = .int .i64 m ∧ ∀ y ∈ M.clients.take m, clientB y M.clock = true) ∧ Below w.heap.size w ws ∧ ws.heap[w.heap.size]? = some (.cells #[.slice A k c, .int .i64 M.clock, .slice A' n' c'] 38 (0, 0))) (fun i _ => n' - (intOf i).toNat)
      case atStart => exact ⟨⟨0, Nat.zero_le _, rfl, fun y hy => (List.not_mem_nil hy).elim⟩, HLo.out, HBo.out⟩
      case round =>
        obtain ⟨⟨m, hm, rfl, hall⟩, hbel, hblk⟩ := hrel
        have HA := Lib.hid hall
        have HL := Lib.hid hbel
        have HB := Lib.hid hblk
        clear hall hbel hblk
        obtain ⟨hc0, hf0⟩ := blk_read HB.out
        have hz := blk_lt HB.out
        by_cases hlt : m < n'
        · obtain ⟨x, b, off, A1, n1, c1, hx, rfl, hbb, hok, g0, g1, g2, g3, g4⟩ := (HC.out.below HL.out (Nat.le_refl _)).client hlt
          have HX := Lib.hid hx
          have HOK := Lib.hid hok.writes
          clear hx hok
          go_wp2_with fail
          have hbv := (Below.refl wo.heap.size wo)
          refine (client_any x M.clock A1 n1 c1 _ ((HOK.out.below ((Below.refl _ _).alloc (Nat.le_refl _) _) (Nat.le_of_lt hz)).more (by simp; omega))).mono ?_
          rintro e w2 ⟨rfl, hb⟩
          have hb1 := ((Below.refl wr.heap.size wr).alloc (Nat.le_refl _) (.cells #[.int .i64 x.phase, .int .i64 x.start, .int .i64 x.commit, .slice A1 n1 c1, .int .i64 x.at_] 63)).trans (hb.mono (by simp))
          have HL2 := Lib.hid (HL.out.trans (hb1.mono HL.out.size))
          have HB2 := Lib.hid (blk_keep hb1 HB.out hz)
          clear hb hb1 hc0 hf0 g0 g1 g2 g3 g4 hbv
          cases hcb : clientB x M.clock
          · have HE : Hid (okCode (worldB M) = 6) := by show _ = _; rw [world_client_bad HX.out hcb]; rfl
            go_wp2_with fail
            go_ret
            rw [HE.out]
            exact ⟨rfl, HL2.out⟩
          · have HNX := Lib.hid (clients_more HA.out HX.out hcb)
            go_wp2_with fail
            go_roundw
            case rel => exact ⟨⟨m + 1, by omega, by go_num, HNX.out⟩, HL2.out, HB2.out⟩
            case measure => simp [intOf]; omega
        · obtain rfl : m = n' := by omega
          have HE : Hid (okCode (worldB M) = 0) := by
            show _ = _
            have hcl := HA.out
            rw [List.take_of_length_le (by rw [HN'.out]; exact Nat.le_refl _)] at hcl
            rw [world_all (by rw [HN.out]; exact h1) (by rw [HN'.out]; exact h2) ⟨h3, h4⟩ HPR.out hcl]; rfl
          go_wp2_with fail
          go_ret
          rw [HE.out]
          exact ⟨rfl, HL.out⟩
end Go.Proofs.Ytniomgngiiiklaa
