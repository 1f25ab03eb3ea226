/- The walk of the reference's failed: a client's transaction ends, its locks are gone. -/
import Derived.Test.YtniomgngiiiklabRows3M
import Derived.Deep.RegionHeld3
namespace Go.Proofs.Ytniomgngiiiklab
open Go.RowKit

/-- What the reference leaves: a world in memory of its own; of what was there only clients are turned. -/
def RefRes (w : World) (base gc m c' : Nat) (M : MWorld) (A3 : Option Addr) (n3 c3 : Nat) (w' : World) : Prop :=
  ∃ H3 H3', RefAt w' base gc M A3 n3 c3 m c' H3 H3' ∧ Keeps [58] base w w'

theorem wayA {W w2 : World} (hb : Below W.drew.heap.size W.drew w2) (o : Obj) : Below W.heap.size W (w2.alloc o) ∧ W.heap.size ≤ w2.heap.size :=
  ⟨(((Below.refl W.heap.size W).drew).trans hb).alloc hb.size o, hb.size⟩
theorem wayB {W w2 : World} {o : Obj} (hb : Below (W.alloc o).drew.heap.size (W.alloc o).drew w2) (a b c d e : Value) :
    Below W.heap.size W (((((w2.setCell ⟨W.heap.size, 0, none⟩ a).setCell ⟨W.heap.size, 1, none⟩ b).setCell ⟨W.heap.size, 2, none⟩ c).setCell ⟨W.heap.size, 3, none⟩ d).setCell ⟨W.heap.size, 4, none⟩ e) :=
  below_row5 ((((Below.refl W.heap.size W).alloc (Nat.le_refl _) o).drew).trans (hb.mono (by simp))) (Nat.le_refl _) a b c d e

set_option maxRecDepth 100000 in
set_option maxHeartbeats 4000000 in
theorem refFailed_any (C base gc n c m c' : Nat) (M : MWorld) (x : MClient) (A : Option Addr) (H H' : Heads) (w : World) (hS : RefAt w base gc M A n c m c' H H') (hv : RowsVal M.clock M.rows) (hck : 0 ≤ M.clock) (hx : M.clients[C]? = some x) (hst : x.start ≤ M.clock) (htm : timeB x.start = true) (hwk : ∀ y ∈ x.writes, y.key.size ≤ maxLen) (hwl : x.writes.length ≤ 6) :
    Calls Try.prog 68 #[.agg #[.slice A n c, .int .i64 M.clock, .slice (some ⟨gc, 0, none⟩) m c'], .int .i64 (C : Int)] w fun e w' => ∃ A3 n3 c3, e = .returned (.agg #[.slice A3 n3 c3, .int .i64 M.clock, .slice (some ⟨gc, 0, none⟩) m c']) ∧ RefRes w base gc m c' (failM M C x) A3 n3 c3 w' := by
  obtain ⟨hCm, hd, hhd⟩ := hS.head hx
  have hm5 := hS.clients.1
  have HS := Lib.hid hS
  have HV := Lib.hid hv
  have HCK := Lib.hid hck
  have HX := Lib.hid hx
  have HST := Lib.hid hst
  have HTM := Lib.hid htm
  have HWK := Lib.hid hwk
  have HWO : Hid (WritesOk w w.heap.size hd.1 x.writes.length hd.2 x.writes) := WritesOk.own (hS.writes hx hhd) (by omega) hwk
  obtain ⟨nw, hnw⟩ : ∃ nw, nw = x.writes.length := ⟨_, rfl⟩
  obtain ⟨c0, c1, c2, c3, c4⟩ := hS.cells hx hhd
  obtain ⟨hA, hcap⟩ := hd
  have HHD := Lib.hid hhd
  dsimp only at c3 HWO
  rw [← hnw] at HWO c3 hwl
  have HNW := Lib.hid hnw
  have hCi : (C : Int) < (m : Int) := by omega
  have hC0 : (0 : Int) ≤ (C : Int) := by omega
  have hzc := hS.lt.2
  clear hS hv hx hhd hst htm hwk hck hnw hm5
  go_enter Try.func68, Try.ntmps68
  go_upto_region 2 with (fail)
  obtain ⟨v, hv⟩ : ∃ v, v = ((w.alloc (.cells #[.slice A n c, .int .i64 M.clock, .slice (some ⟨gc, 0, none⟩) m c'] 36)).alloc (.cells #[.slice none 0 0, .int .i64 0, .slice none 0 0] 36)).alloc (.cells #[.int .i64 x.phase, .int .i64 x.start, .int .i64 x.commit, .slice hA nw hcap, .int .i64 x.at_] 58) := ⟨_, rfl⟩
  rw [← hv]
  obtain ⟨hb0, hB2, hB4, hB5⟩ : Below w.heap.size w v ∧ v.heap[w.heap.size]? = some (.cells #[.slice A n c, .int .i64 M.clock, .slice (some ⟨gc, 0, none⟩) m c'] 36 (0, 0)) ∧ v.heap[w.heap.size + 1]? = some (.cells #[.slice none 0 0, .int .i64 0, .slice none 0 0] 36 (0, 0)) ∧
      v.heap[w.heap.size + 1 + 1]? = some (.cells #[.int .i64 x.phase, .int .i64 x.start, .int .i64 x.commit, .slice hA nw hcap, .int .i64 x.at_] 58 (0, 0)) := by rw [hv]; exact blk_new3 w
  obtain ⟨g2, hg2⟩ : ∃ g2, g2 = w.heap.size := ⟨_, rfl⟩
  obtain ⟨g4, hg4⟩ : ∃ g4, g4 = g2 + 1 := ⟨_, rfl⟩
  obtain ⟨g5, hg5⟩ : ∃ g5, g5 = g2 + 1 + 1 := ⟨_, rfl⟩
  rw [← hg2] at hB2
  rw [← hg2, ← hg4] at hB4
  rw [← hg2, ← hg5] at hB5
  rw [← hg2, ← hg5, ← hg4]
  have HG : Hid (g2 = w.heap.size ∧ g4 = g2 + 1 ∧ g5 = g2 + 1 + 1) := ⟨hg2, hg4, hg5⟩
  have HLv := Lib.hid hb0
  have HB2v := Lib.hid hB2
  have HB4v := Lib.hid hB4
  have HB5v := Lib.hid hB5
  clear hv hg2 hg4 hg5 hb0 hB2 hB4 hB5 c0 c1 c2 c3 c4
  go_wp2_with fail
  go_loopw [6] (fun i wr => (∃ j : Nat, j ≤ nw ∧ i = .int .i64 j ∧ ∃ A1 n1 d1 H1, OwnRows wr base A1 n1 d1 (failRows M.rows (x.writes.take j) x.start) H1 ∧ wr.heap[g2]? = some (.cells #[.slice A1 n1 d1, .int .i64 M.clock, .slice (some ⟨gc, 0, none⟩) m c'] 36 (0, 0))) ∧ Below w.heap.size w wr ∧ wr.heap[g4]? = some (.cells #[.slice none 0 0, .int .i64 0, .slice none 0 0] 36 (0, 0)) ∧ wr.heap[g5]? = some (.cells #[.int .i64 x.phase, .int .i64 x.start, .int .i64 x.commit, .slice hA nw hcap, .int .i64 x.at_] 58 (0, 0))) (fun i _ => nw - (intOf i).toNat)
  case atStart => exact ⟨⟨0, Nat.zero_le _, rfl, A, n, c, H, HS.out.rows.below HLv.out (Nat.le_refl _), HB2v.out⟩, HLv.out, HB4v.out, HB5v.out⟩
  case round =>
    clear HB2v HB4v HB5v HLv
    obtain ⟨⟨j, hj, rfl, A1, n1, d1, H1, ho, hb2⟩, hbel, hb4, hb5⟩ := hrel
    have hV1 : RowsVal M.clock (failRows M.rows (x.writes.take j) x.start) := failRows_good HCK.out HST.out HV.out
    obtain ⟨L, hL⟩ : ∃ L, L = failRows M.rows (x.writes.take j) x.start := ⟨_, rfl⟩
    rw [← hL] at ho hV1
    have HLL := Lib.hid hL
    have HO := Lib.hid ho
    have HV1 := Lib.hid hV1
    have HB2 := Lib.hid hb2
    have HB4 := Lib.hid hb4
    have HB5 := Lib.hid hb5
    have HLr := Lib.hid hbel
    clear hL ho hV1 hb2 hb4 hb5 hbel
    obtain ⟨hc2, hf2⟩ := blk_read HB2.out
    obtain ⟨hc5, hf5⟩ := blk_read HB5.out
    by_cases hlt : j < nw
    · obtain ⟨y, b, off, hy, rfl, hbb, g0, g1⟩ := (HWO.out.at_.below HLr.out (Nat.le_refl _)).at_ hlt
      have HY := Lib.hid hy
      have HKY : Hid (y.key.size ≤ maxLen) := HWK.out y (List.mem_of_getElem? hy)
      have hzr := HLr.out.size
      have hz2 := blk_lt HB2.out
      have hz5 := blk_lt HB5.out
      have hbw : b < wr.heap.size := Nat.lt_of_lt_of_le hbb hzr
      have g0a := fun (o : Obj) => (World.cell?_alloc_past (w := wr) o b (off + j * 2) hbw).trans g0
      clear hy
      have HCA : Hid (Calls Try.prog 32 #[.agg #[.slice A1 n1 d1, .int .i64 M.clock, .slice (some ⟨gc, 0, none⟩) m c'], .string y.key] wr.drew (RowOfRet wr.drew L y.key)) :=
        rowOf_any L M.clock y.key A1 (some ⟨gc, 0, none⟩) n1 d1 m c' wr.drew ((HO.out.typed (w' := wr.drew) fun _ _ _ _ _ _ => rfl).ok HV1.out.sized) HKY.out
      have HCB : Hid (Calls Try.prog 32 #[.agg #[.slice A1 n1 d1, .int .i64 M.clock, .slice (some ⟨gc, 0, none⟩) m c'], .string y.key] (wr.alloc (.cells #[.string ⟨#[]⟩, .int .i64 0, .string ⟨#[]⟩, .string ⟨#[]⟩, .slice none 0 0] 26)).drew (RowOfRet (wr.alloc (.cells #[.string ⟨#[]⟩, .int .i64 0, .string ⟨#[]⟩, .string ⟨#[]⟩, .slice none 0 0] 26)).drew L y.key)) :=
        rowOf_any L M.clock y.key A1 (some ⟨gc, 0, none⟩) n1 d1 m c' (wr.alloc (.cells #[.string ⟨#[]⟩, .int .i64 0, .string ⟨#[]⟩, .string ⟨#[]⟩, .slice none 0 0] 26)).drew ((HO.out.typed (w' := (wr.alloc (.cells #[.string ⟨#[]⟩, .int .i64 0, .string ⟨#[]⟩, .string ⟨#[]⟩, .slice none 0 0] 26)).drew) fun g _ _ _ hg _ => Below.heap_alloc _ _ g (blk_lt hg)).ok HV1.out.sized) HKY.out
      have HNB : Hid ((wr.alloc (.cells #[.string ⟨#[]⟩, .int .i64 0, .string ⟨#[]⟩, .string ⟨#[]⟩, .slice none 0 0] 26)).heap[wr.heap.size]? = some (.cells #[.string ⟨#[]⟩, .int .i64 0, .string ⟨#[]⟩, .string ⟨#[]⟩, .slice none 0 0] 26 (0, 0))) := blk_new wr _ _
      go_upto_region 5 with (fail)
      go_cut [7] (fun p wx => ∃ g7 A2 n2 c2, p = .pointer (some ⟨g7, 0, none⟩) ∧ wx.heap[g7]? = some (.cells #[.string (rv L y.key).key, .int .i64 (rv L y.key).ls, .string (rv L y.key).lp, .string (rv L y.key).value, .slice A2 n2 c2] 26 (0, 0)) ∧ Below wr.heap.size wr wx ∧ wr.heap.size ≤ g7)
      case first =>
        go_region_law
          (first
            | (go_simp; go_at_call 32; refine HCA.out.mono ?_; rintro e w2 ⟨A2, n2, c2, rfl, hok, hbA⟩)
            | (go_simp; go_at_call 32; refine HCB.out.mono ?_; rintro e w2 ⟨A2, n2, c2, rfl, hok, hbB⟩; have HB7 := Lib.hid (blk_keep (g := wr.heap.size) hbB HNB.out (blk_lt HNB.out)); obtain ⟨hc7, hf7⟩ := blk_read HB7.out))
        all_goals
          go_wp2_with fail
          go_meet
          first
            | (have hA' := hbA; exact ⟨w2.heap.size, A2, n2, c2, rfl, blk_new w2 _ _, (wayA hbA _).1, (wayA hbA (.cells #[] 0)).2⟩)
            | exact ⟨wr.heap.size, A2, n2, c2, rfl, blk_row5 HB7.out _ _ _ _ _, wayB hbB _ _ _ _ _, Nat.le_refl _⟩
      case rest =>
        obtain ⟨g7, A2, n2, c2, rfl, hb7, hbx, hg7⟩ := hcut
        clear hc2 hf2 hc5 hf5 g0 g1 g0a
        have HB7 := Lib.hid hb7
        have HG7 := Lib.hid hg7
        have HOx : Hid (OwnRows wc base A1 n1 d1 L H1) := HO.out.below hbx (Nat.le_refl _)
        have HB2x := Lib.hid (blk_keep hbx HB2.out (blk_lt HB2.out))
        have HB4x := Lib.hid (blk_keep hbx HB4.out (blk_lt HB4.out))
        have HB5x := Lib.hid (blk_keep hbx HB5.out (blk_lt HB5.out))
        have HLx := Lib.hid (HLr.out.trans (hbx.mono hzr))
        clear hb7 hbx hg7
        obtain ⟨hc7, hf7⟩ := blk_read HB7.out
        obtain ⟨hc5, hf5⟩ := blk_read HB5x.out
        have HFS : Hid (failRows M.rows (x.writes.take (j + 1)) x.start = if (rv L y.key).ls = x.start then (undoAt L y.key x.start).1 else L) := by
          show _ = _
          rw [failRows_more HY.out, ← HLL.out, failStep_ref HV1.out HTM.out]
        by_cases hls : (rv L y.key).ls = x.start
        · have hd : ((rv L y.key).ls == x.start) = true := by simpa using hls
          have HFS2 : Hid (failRows M.rows (x.writes.take (j + 1)) x.start = (undoAt L y.key x.start).1) := by show _ = _; rw [HFS.out, if_pos hls]
          clear hls
          have HU : Hid (Calls Try.prog 70 #[.agg #[.slice A1 n1 d1, .int .i64 M.clock, .slice (some ⟨gc, 0, none⟩) m c'], .string y.key, .int .i64 x.start] wc.drew (RowsRes wc.drew base M.clock (some ⟨gc, 0, none⟩) m c' (undoAt L y.key x.start))) :=
            refUndo_any L H1 M.clock M.clock y.key x.start A1 (some ⟨gc, 0, none⟩) n1 d1 m c' base wc.drew (HOx.out.typed (w' := wc.drew) fun _ _ _ _ _ _ => rfl) HV1.out HKY.out (Nat.le_trans HS.out.size HLx.out.size)
          obtain ⟨p, hp⟩ : ∃ p, p = undoAt L y.key x.start := ⟨_, rfl⟩
          rw [← hp] at HU HFS2
          clear hp
          obtain ⟨hc2, hf2⟩ := blk_read HB2x.out
          obtain ⟨g0, g1⟩ : wc.cell? ⟨b, off + j * 2, none⟩ = some (.string y.key) ∧ True := ⟨by
            obtain ⟨y', b', off', hy', hA', _, g0', _⟩ := (HWO.out.at_.below HLx.out (Nat.le_refl _)).at_ hlt
            have e := Option.some.inj (hy'.symm.trans HY.out)
            have e2 := Option.some.inj hA'
            injection e2 with e3 e4
            rw [e3, e4, ← e]; exact g0', trivial⟩
          clear g1
          obtain ⟨wq, hwq⟩ : ∃ wq : World, wq = wc := ⟨_, rfl⟩
          subst hwq
          go_upto_region 7 with (fail)
          go_region_law
            ((go_simp; go_at_call 70; refine HU.out.mono ?_; rintro e w3 ⟨A3, n3, d3, H3, rfl, ho3, hb3⟩; have HB23 := Lib.hid (blk_keep (W := wq.drew) hb3 HB2x.out (blk_lt HB2x.out)); have HO3 := Lib.hid ho3; have HB3 := Lib.hid hb3; obtain ⟨hc23, hf23⟩ := blk_read HB23.out))
          all_goals
            clear hc7 hf7 hc5 hf5 hc2 hf2 g0
            have HL3 : Hid (Below w.heap.size w w3) := (HLx.out.drew).trans (HB3.out.mono (by exact HLx.out.size))
            have HB43 := Lib.hid (blk_keep (W := wq.drew) HB3.out HB4x.out (blk_lt HB4x.out))
            have HB53 := Lib.hid (blk_keep (W := wq.drew) HB3.out HB5x.out (blk_lt HB5x.out))
            go_wp2_with fail
            go_roundw
            case rel =>
              have hG := HG.out
              have k3 : Keeps [36] w.heap.size w3 _ := Keeps.set3r (ts := [36]) HB23.out (by simp) (by omega) 0 1 2 (.slice A3 n3 d3) (.int .i64 M.clock) (.slice (some ⟨gc, 0, none⟩) m c')
              exact ⟨⟨j + 1, by omega, by go_num, A3, n3, d3, H3, by rw [HFS2.out]; exact HO3.out.typed fun g cs t _ hg ht => k3.block g cs t hg (by rcases ht with rfl | rfl <;> decide), blk_row3r HB23.out _ _ _⟩, HL3.out.trans k3.below,
                blk_far (blk_far (blk_far HB43.out (by show ¬ g4 = g2; omega) _) (by show ¬ g4 = g2; omega) _) (by show ¬ g4 = g2; omega) _, k3.blk HB53.out (by decide)⟩
            case measure => simp [intOf]; omega
        · have hd : ((rv L y.key).ls == x.start) = false := by simpa using hls
          have HFS2 : Hid (failRows M.rows (x.writes.take (j + 1)) x.start = L) := by show _ = _; rw [HFS.out, if_neg hls]
          clear hls
          go_wp2_with fail
          go_roundw
          case rel => exact ⟨⟨j + 1, by omega, by go_num, A1, n1, d1, H1, by rw [HFS2.out]; exact HOx.out, HB2x.out⟩, HLx.out, HB4x.out, HB5x.out⟩
          case measure => simp [intOf]; omega
    · obtain rfl : j = nw := by omega
      have hall : x.writes.take j = x.writes := List.take_of_length_le (by rw [HNW.out]; exact Nat.le_refl _)
      have HFL : Hid (failM M C x = setC { M with rows := L } C zeroClient) := by show _ = _; unfold failM setC; rw [HLL.out, hall]
      have HR1 : Hid (RefAt wr base gc { M with rows := L } A1 n1 d1 m c' H1 H') := ⟨HO.out, (HS.out.below HLr.out (Nat.le_refl _)).clients⟩
      obtain ⟨c0, c1, c2, c3, c4⟩ := HR1.out.cells (M := { M with rows := L }) HX.out HHD.out
      have hfc := HR1.out.frozen
      have HG2 : Hid (g2 ≠ gc ∧ g4 ≠ gc ∧ base ≤ g2 ∧ base ≤ g4 ∧ g4 ≠ g2) := by
        show _ ∧ _
        have h1 := HG.out
        have h2 := HS.out.size
        omega
      clear hall
      go_upto_region 8 with (fail)
      go_cut [] (fun wx => RefAt wx base gc (setC { M with rows := L } C zeroClient) A1 n1 d1 m c' H1 (H'.set C (none, 0)) ∧ Keeps [58] base wr wx ∧ wx.heap[g2]? = some (.cells #[.slice A1 n1 d1, .int .i64 M.clock, .slice (some ⟨gc, 0, none⟩) m c'] 36 (0, 0)) ∧ wx.heap[g4]? = some (.cells #[.slice none 0 0, .int .i64 0, .slice none 0 0] 36 (0, 0)))
      case first =>
        go_wp2_with fail
        go_meet
        obtain ⟨hz, hk⟩ := HR1.out.putZero hCm
        exact ⟨hz, hk, hk.blk HB2.out (by decide), hk.blk HB4.out (by decide)⟩
      case rest =>
        obtain ⟨hr, hk, hb2, hb4⟩ := hcut
        have HR2 := Lib.hid hr
        have HK2 : Hid (Keeps [58] base w wc) := (Keeps.of_below HLr.out (Nat.le_refl _) HS.out.size).trans hk
        have HB22 := Lib.hid hb2
        have HB42 := Lib.hid hb4
        clear hr hk hb2 hb4 c0 c1 c2 c3 c4 hfc hc2 hf2 hc5 hf5
        obtain ⟨hc2, hf2⟩ := blk_read HB22.out
        obtain ⟨hc4, hf4⟩ := blk_read HB42.out
        go_wp2_with fail
        refine bodyPost_ret (v := .agg #[.slice A1 n1 d1, .int .i64 M.clock, .slice (some ⟨gc, 0, none⟩) m c']) (by simp [results, Try.results68, go_sem, hc4]) rfl ?_
        have k2 : Keeps [36] base wc _ := Keeps.set3r (ts := [36]) HB42.out (by simp) HG2.out.2.2.2.1 0 1 2 (.slice A1 n1 d1) (.int .i64 M.clock) (.slice (some ⟨gc, 0, none⟩) m c')
        rw [HFL.out]
        refine ⟨A1, n1, d1, rfl, H1, H'.set C (none, 0), HR2.out.keep k2 ⟨by decide, by decide, by decide, by decide⟩, ?_⟩
        have hg4 : w.heap.size ≤ g4 := by have := HG.out; omega
        exact HK2.out.past ((((Below.refl w.heap.size wc).setCell (p := ⟨g4, 0, none⟩) hg4 _).setCell (p := ⟨g4, 1, none⟩) hg4 _).setCell (p := ⟨g4, 2, none⟩) hg4 _) HS.out.size
end Go.Proofs.Ytniomgngiiiklab
