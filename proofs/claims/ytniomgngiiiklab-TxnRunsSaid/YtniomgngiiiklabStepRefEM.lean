/- The walk of the reference's stepped: a row was closed before. -/
import Derived.Test.YtniomgngiiiklabFactsM
namespace Go.Proofs.Ytniomgngiiiklab
open Go.RowKit

set_option maxRecDepth 100000 in
set_option maxHeartbeats 8000000 in
theorem stepped_late (C base gc n c m c' : Nat) (M : MWorld) (x : MClient) (A : Option Addr) (H H' : Heads) (w : World) (hS : RefAt w base gc M A n c m c' H H') (hg : WorldGood M) (hlt : M.clock ≠ 1099511627376) (hx : M.clients[C]? = some x) (hp0 : x.phase ≠ 0) (hw0 : x.writes.length ≠ 0) (hway : ¬ (x.phase ≤ 2 ∧ x.at_ = x.writes.length)) (hp2 : ¬ x.phase ≤ 2) (hgn : commitCode (rv M.rows (writeNo x x.at_).key) x.start x.commit ≠ 0 ∧ x.at_ ≠ 0) :
    Calls Try.prog 35 #[.agg #[.slice A n c, .int .i64 M.clock, .slice (some ⟨gc, 0, none⟩) m c'], .int .i64 (C : Int)] w (StepRet w base gc m c' (stepM M C x)) := by
  have HGN := Lib.hid hgn
  clear hgn
  obtain ⟨hCm, hd, hhd⟩ := hS.head hx
  have hm5 := hS.clients.1
  have hcl := hg.clients x (List.mem_of_getElem? hx)
  have hgw := writes_good hcl
  have hwk : ∀ y ∈ x.writes, y.key.size ≤ maxLen := fun y hy => by have := key_size (hgw.2.1 y hy).1; unfold maxLen; omega
  have hck0 : 0 ≤ M.clock := hg.clock.1
  have hck1 : M.clock < 1099511627376 := by have := hg.clock.2; omega
  have HG := Lib.hid hg
  have HS := Lib.hid hS
  have HX := Lib.hid hx
  have HCL := Lib.hid hcl
  have HGW := Lib.hid hgw
  have HWK := Lib.hid hwk
  have HWO : Hid (WritesOk w w.heap.size hd.1 x.writes.length hd.2 x.writes) := WritesOk.own (hS.writes hx hhd) (by have := hgw.1; omega) hwk
  obtain ⟨nw, hnw⟩ : ∃ nw, nw = x.writes.length := ⟨_, rfl⟩
  obtain ⟨c0, c1, c2, c3, c4⟩ := hS.cells hx hhd
  have HHD := Lib.hid hhd
  obtain ⟨hA, hcap⟩ := hd
  dsimp only at c3 HWO
  rw [← hnw] at HWO c3
  have hwl : nw ≤ 6 := by rw [hnw]; exact hgw.1
  have HNW := Lib.hid hnw
  have hCi : (C : Int) < (m : Int) := by omega
  have hC0 : (0 : Int) ≤ (C : Int) := by omega
  have hzc := hS.lt.2
  clear hS hg hx hhd hcl hgw hwk hlt hnw hm5
  go_enter Try.func35, Try.ntmps35
  go_upto_region 2 with (fail)
  obtain ⟨hb0, k2, k4, k5, k6⟩ := blk_new4 w (a := #[.slice A n c, .int .i64 M.clock, .slice (some ⟨gc, 0, none⟩) m c']) (b := #[.slice none 0 0, .int .i64 0, .slice none 0 0]) (c := #[.int .i64 0, .bool false, .string ⟨#[]⟩, .int .i64 0, .int .i64 0]) (d := #[.int .i64 0, .bool false, .string ⟨#[]⟩, .int .i64 0, .int .i64 0]) (ta := 36) (tb := 36) (tc := 41) (td := 41)
  obtain ⟨wp, hwp⟩ : ∃ wp, wp = (((w.alloc (.cells #[.slice A n c, .int .i64 M.clock, .slice (some ⟨gc, 0, none⟩) m c'] 36)).alloc (.cells #[.slice none 0 0, .int .i64 0, .slice none 0 0] 36)).alloc (.cells #[.int .i64 0, .bool false, .string ⟨#[]⟩, .int .i64 0, .int .i64 0] 41)).alloc (.cells #[.int .i64 0, .bool false, .string ⟨#[]⟩, .int .i64 0, .int .i64 0] 41) := ⟨_, rfl⟩
  rw [← hwp] at hb0 k2 k4 k5 k6 ⊢
  have hsz : wp.heap.size = w.heap.size + 1 + 1 + 1 + 1 := by rw [hwp]; simp
  have HSZ := Lib.hid hsz
  obtain ⟨hc2, hf2⟩ := blk_read k2
  have HK2 := Lib.hid k2
  have HK4 := Lib.hid k4
  have HK5 := Lib.hid k5
  have HK6 := Lib.hid k6
  have HB0 := Lib.hid hb0
  clear hwp hsz c0 c1 c2 c3 c4 k2 k4 k5 k6 hb0
  obtain ⟨c0, c1, c2, c3, c4⟩ := (HS.out.below HB0.out (Nat.le_refl _)).cells HX.out HHD.out
  dsimp only at c3
  rw [← HNW.out] at c3
  go_upto_region 3 with (fail)
  obtain ⟨wq, hwq⟩ : ∃ wq, wq = wp.alloc (.cells #[.int .i64 x.phase, .int .i64 x.start, .int .i64 x.commit, .slice hA nw hcap, .int .i64 x.at_] 58) := ⟨_, rfl⟩
  rw [← hwq, HSZ.out]
  have hsz := HSZ.out
  have k2 := HK2.out
  have k4 := HK4.out
  have k5 := HK5.out
  have k6 := HK6.out
  have hb0 := HB0.out
  have k7 : wq.heap[w.heap.size + 1 + 1 + 1 + 1]? = some (.cells #[.int .i64 x.phase, .int .i64 x.start, .int .i64 x.commit, .slice hA nw hcap, .int .i64 x.at_] 58 (0, 0)) := by rw [hwq]; exact blk_new_at _ _ _ hsz.symm
  have hbq : Below wp.heap.size wp wq := by rw [hwq]; exact (Below.refl _ _).alloc (Nat.le_refl _) _
  obtain ⟨g2, e2⟩ : ∃ g2, g2 = w.heap.size := ⟨_, rfl⟩
  obtain ⟨g4, e4⟩ : ∃ g4, g4 = g2 + 1 := ⟨_, rfl⟩
  obtain ⟨g5, e5⟩ : ∃ g5, g5 = g2 + 1 + 1 := ⟨_, rfl⟩
  obtain ⟨g6, e6⟩ : ∃ g6, g6 = g2 + 1 + 1 + 1 := ⟨_, rfl⟩
  obtain ⟨g7, e7⟩ : ∃ g7, g7 = g2 + 1 + 1 + 1 + 1 := ⟨_, rfl⟩
  rw [← e2] at k2
  rw [← e2, ← e4] at k4
  rw [← e2, ← e5] at k5
  rw [← e2, ← e6] at k6
  rw [← e2, ← e7] at k7
  rw [← e2, ← e7, ← e6, ← e5, ← e4]
  have HP : Hid (StPos w base gc g2 g4 g5 g6 g7) := ⟨e2, by omega, by omega, by omega, by omega, HS.out.size, hzc⟩
  have HNE : Hid (¬ (g2 = g4) ∧ ¬ (g4 = g2) ∧ ¬ (g2 = g5) ∧ ¬ (g5 = g2) ∧ ¬ (g6 = g4) ∧ ¬ (g4 = g6) ∧ ¬ (g6 = g5) ∧ ¬ (g5 = g6) ∧ ¬ (g4 = g5) ∧ ¬ (g5 = g4)) := by show _ ∧ _; omega
  have HLE : Hid (w.heap.size ≤ g4 ∧ w.heap.size ≤ g5 ∧ g4 ≠ g5) := by show _ ∧ _; omega
  have hba := hb0.trans (hbq.mono hb0.size)
  have HST : Hid (StAt w wq base gc m c' g2 g4 g5 g6 M A n c H H' 0 0) :=
    ⟨HS.out.below hba (Nat.le_refl _), Keeps.of_below hba (Nat.le_refl _) HS.out.size, blk_keep hbq k2 (blk_lt k2), blk_keep hbq k4 (blk_lt k4), blk_keep hbq k5 (blk_lt k5), blk_keep hbq k6 (blk_lt k6)⟩
  have HB7 := Lib.hid k7
  have HBA := Lib.hid hba
  clear HK2 HK4 HK5 HK6 HB0 HSZ hc2 hf2 hwq hb0 k2 k4 k5 k6 k7 hsz hbq e2 e4 e5 e6 e7 hba c0 c1 c2 c3 c4 hzc
  obtain ⟨hc7, hf7⟩ := blk_read HB7.out
  have p0' : (x.phase == 0) = false := by simpa using hp0
  have HWK' : Hid (Works x) := works_of HCL.out hp0
  have HBZ := Lib.hid (busy_of HCL.out hp0)
  have h0' : ((nw : Int) == 0) = false := by have := HNW.out; simp; omega
  have HN0 : Hid (x.writes.length ≠ 0) := hw0
  have hps : ¬ (x.phase ≤ 2 ∧ x.at_ = (nw : Int)) := fun h => hway ⟨h.1, by rw [← HNW.out]; exact h.2⟩
  have hnz : ¬ nw = 0 := by have := HNW.out; omega
  have HPX := Lib.hid hp2
  clear hp0 hw0 hway hp2
  have hwk := HWK'.out
  have hjn0 : x.at_ < x.writes.length := by
    have h1 := hwk.at1
    have h2 := hwk.late
    have h3 := HNW.out
    by_cases h : x.phase ≤ 2
    · have : x.at_ ≠ (nw : Int) := fun e => hps ⟨h, e⟩
      omega
    · exact h2 (by omega)
  obtain ⟨j, hj⟩ : ∃ j : Nat, x.at_ = j := ⟨x.at_.toNat, by have := hwk.at0; omega⟩
  have hjn : j < nw := by have := HNW.out; omega
  have HJ := Lib.hid hj
  have hx : (decide (x.phase ≤ 2) = true ∧ ((j : Int) == (nw : Int)) = false) ∨ decide (x.phase ≤ 2) = false := by
    by_cases h : x.phase ≤ 2
    · exact .inl ⟨decide_eq_true h, by simp; omega⟩
    · exact .inr (decide_eq_false h)
  obtain ⟨y, b, off, hy, rfl, hbb, g0, g1⟩ := (HWO.out.at_.below HBA.out (Nat.le_refl _)).at_ hjn
  obtain ⟨y0, b', off', hy0, e', _, g00, _⟩ := (HWO.out.at_.below HBA.out (Nat.le_refl _)).at_ (show 0 < nw by omega)
  obtain ⟨rfl, rfl⟩ : b = b' ∧ off = off' := by have e := Option.some.inj e'; injection e with e1 e2; exact ⟨e1, e2⟩
  have g00' : wq.cell? ⟨b, off, none⟩ = some (.string y0.key) := by simpa using g00
  clear hnz
  have HY := Lib.hid hy
  have HY0 := Lib.hid hy0
  have HKY : Hid (y.key.size ≤ maxLen) := HWK.out y (List.mem_of_getElem? hy)
  have HKY0 : Hid (y0.key.size ≤ maxLen) := HWK.out y0 (List.mem_of_getElem? hy0)
  have EY : Hid (writeNo x x.at_ = y) := by show _ = _; unfold writeNo; rw [HJ.out, Int.toNat_natCast, HY.out]; rfl
  have EY0 : Hid (writeNo x 0 = y0) := by show _ = _; unfold writeNo; rw [Int.toNat_zero, HY0.out]; rfl
  have hbw : b < wq.heap.size := Nat.lt_of_lt_of_le hbb HBA.out.size
  have HGA : Hid (∀ W : World, Below wq.heap.size wq W → W.cell? ⟨b, off + j * 2, none⟩ = some (.string y.key) ∧ W.cell? ⟨b, off + j * 2 + 1, none⟩ = some (.string y.value) ∧ W.cell? ⟨b, off, none⟩ = some (.string y0.key)) := fun W hW =>
    ⟨(hW.cell (p := ⟨b, off + j * 2, none⟩) hbw).trans g0, (hW.cell (p := ⟨b, off + j * 2 + 1, none⟩) hbw).trans g1, (hW.cell (p := ⟨b, off, none⟩) hbw).trans g00'⟩
  have HBW := Lib.hid hbw
  have hb7 : wq.heap[g7]? = some (.cells #[.int .i64 x.phase, .int .i64 x.start, .int .i64 x.commit, .slice (some ⟨b, off, none⟩) nw hcap, .int .i64 (j : Int)] 58 (0, 0)) := by rw [← HJ.out]; exact HB7.out
  have HB7j := Lib.hid hb7
  have HPS := Lib.hid hps
  have hj0 : (0 : Int) ≤ (j : Int) := by omega
  have hji : (j : Int) < (nw : Int) := by omega
  have hn0 : (0 : Int) < (nw : Int) := by omega
  have hn0' : 0 < nw := by omega
  have HBG : Hid (¬ b = g7) := by show ¬ _; have := HP.out.e7; omega
  clear HB7 hc7 hf7 hps hwk hjn0 hj g0 g1 g00 g00' e' hy hy0 hb7 hbb
  obtain ⟨hc7, hf7⟩ := blk_read HB7j.out
  go_upto_region 10 with (fail)
  go_cut [47] (fun t wx => t = .bool false ∧ wq = wx)
  case first =>
    rcases hx with ⟨d1, d2⟩ | d1
    all_goals
      go_wp2_with fail
      go_meet
      exact ⟨rfl, rfl⟩
  case rest =>
    obtain ⟨rfl, rfl⟩ := hcut
    clear hx
    obtain ⟨hc2, hf2⟩ := blk_read HST.out.b2
    obtain ⟨g0, _, _⟩ := HGA.out wq (Below.refl _ _)
    have hz2 := blk_lt HST.out.b2
    have hz7 := blk_lt HB7j.out
    have hbw := HBW.out
    have g0a := fun (o : Obj) => (World.cell?_alloc_past (w := wq) o b (off + j * 2) hbw).trans g0
    have HCA : Hid (Calls Try.prog 32 #[.agg #[.slice A n c, .int .i64 M.clock, .slice (some ⟨gc, 0, none⟩) m c'], .string y.key] wq.drew (RowOfTied wq.drew A M.rows y.key)) :=
      rowOf_tied M.rows M.clock y.key A (some ⟨gc, 0, none⟩) n c m c' wq.drew ((HST.out.at_.rows.typed (w' := wq.drew) fun _ _ _ _ _ _ => rfl).ok HG.out.rows.sized) HKY.out
    have HCB : Hid (Calls Try.prog 32 #[.agg #[.slice A n c, .int .i64 M.clock, .slice (some ⟨gc, 0, none⟩) m c'], .string y.key] (wq.alloc (.cells #[.string ⟨#[]⟩, .int .i64 0, .string ⟨#[]⟩, .string ⟨#[]⟩, .slice none 0 0] 26)).drew (RowOfTied (wq.alloc (.cells #[.string ⟨#[]⟩, .int .i64 0, .string ⟨#[]⟩, .string ⟨#[]⟩, .slice none 0 0] 26)).drew A M.rows y.key)) :=
      rowOf_tied M.rows M.clock y.key A (some ⟨gc, 0, none⟩) n c m c' (wq.alloc (.cells #[.string ⟨#[]⟩, .int .i64 0, .string ⟨#[]⟩, .string ⟨#[]⟩, .slice none 0 0] 26)).drew ((HST.out.at_.rows.typed (w' := (wq.alloc (.cells #[.string ⟨#[]⟩, .int .i64 0, .string ⟨#[]⟩, .string ⟨#[]⟩, .slice none 0 0] 26)).drew) fun g _ _ _ hg _ => Below.heap_alloc _ _ g (blk_lt hg)).ok HG.out.rows.sized) HKY.out
    have HOA : Hid (OwnRows wq.drew base A n c M.rows H) := HST.out.at_.rows.typed fun _ _ _ _ _ _ => rfl
    have HOB : Hid (OwnRows (wq.alloc (.cells #[.string ⟨#[]⟩, .int .i64 0, .string ⟨#[]⟩, .string ⟨#[]⟩, .slice none 0 0] 26)).drew base A n c M.rows H) := HST.out.at_.rows.typed fun g _ _ _ hg _ => Below.heap_alloc _ _ g (blk_lt hg)
    have HNB : Hid ((wq.alloc (.cells #[.string ⟨#[]⟩, .int .i64 0, .string ⟨#[]⟩, .string ⟨#[]⟩, .slice none 0 0] 26)).heap[wq.heap.size]? = some (.cells #[.string ⟨#[]⟩, .int .i64 0, .string ⟨#[]⟩, .string ⟨#[]⟩, .slice none 0 0] 26 (0, 0))) := blk_new wq _ _
    go_upto_region 18 with (fail)
    go_cut [9, 10] (fun p s wx => ∃ g9 A2 n2 c2, p = .pointer (some ⟨g9, 0, none⟩) ∧ s = .bool (rowAt M.rows y.key).isSome ∧ wx.heap[g9]? = some (.cells #[.string (rv M.rows y.key).key, .int .i64 (rv M.rows y.key).ls, .string (rv M.rows y.key).lp, .string (rv M.rows y.key).value, .slice A2 n2 c2] 26 (0, 0)) ∧ wx.ownsRow base 55 3 (.slice A2 n2 c2) n2 (recCells (rv M.rows y.key).recs) ∧ n2 = (rv M.rows y.key).recs.length ∧ Below wq.heap.size wq wx ∧ wq.heap.size ≤ g9)
    case first =>
      as_aux_lemma =>
        have HS0 : Hid (∀ W : World, Below wq.heap.size wq W → W.cell? ⟨g2, 0, none⟩ = some (.slice A n c) ∧ W.cell? ⟨g2, 1, none⟩ = some (.int .i64 M.clock) ∧ W.cell? ⟨g2, 2, none⟩ = some (.slice (some ⟨gc, 0, none⟩) m c') ∧ W.cell? ⟨g7, 3, none⟩ = some (.slice (some ⟨b, off, none⟩) nw hcap) ∧ W.cell? ⟨g7, 4, none⟩ = some (.int .i64 (j : Int)) ∧ W.cell? ⟨b, off + j * 2, none⟩ = some (.string y.key)) := fun W hW =>
          ⟨(hW.cell (p := ⟨g2, 0, none⟩) hz2).trans (by simpa using hc2 0), (hW.cell (p := ⟨g2, 1, none⟩) hz2).trans (by simpa using hc2 1), (hW.cell (p := ⟨g2, 2, none⟩) hz2).trans (by simpa using hc2 2), (hW.cell (p := ⟨g7, 3, none⟩) hz7).trans (by simpa using hc7 3), (hW.cell (p := ⟨g7, 4, none⟩) hz7).trans (by simpa using hc7 4), (hW.cell (p := ⟨b, off + j * 2, none⟩) hbw).trans g0⟩
        go_region_held3 (fun w' => w'.cell? ⟨g2, 0, none⟩ = some (.slice A n c) ∧ w'.cell? ⟨g2, 1, none⟩ = some (.int .i64 M.clock) ∧ w'.cell? ⟨g2, 2, none⟩ = some (.slice (some ⟨gc, 0, none⟩) m c') ∧ w'.cell? ⟨g7, 3, none⟩ = some (.slice (some ⟨b, off, none⟩) nw hcap) ∧ w'.cell? ⟨g7, 4, none⟩ = some (.int .i64 (j : Int)) ∧ w'.cell? ⟨b, off + j * 2, none⟩ = some (.string y.key))
          (first | go_keep | exact HS0.out _ hW | exact HS0.out _ (hW.alloc hW.size _) | exact HS0.out _ (below_row5 hW (Nat.le_refl _) _ _ _ _ _))
          ((first
            | (go_simp; go_at_call 32; refine HCA.out.mono ?_; rintro e w2 ⟨A2, n2, c2, rfl, hok, hbA, htd⟩; have HTA := Lib.hid (htd.own HOA.out); clear htd; have hW : Below wq.heap.size wq w2 := ((Below.refl wq.heap.size wq).drew).trans hbA)
            | (go_simp; go_at_call 32; refine HCB.out.mono ?_; rintro e w2 ⟨A2, n2, c2, rfl, hok, hbB, htd⟩; have HTB := Lib.hid (htd.own HOB.out); clear htd; have HB9 := Lib.hid (blk_keep (g := wq.heap.size) hbB HNB.out (blk_lt HNB.out)); obtain ⟨hc9, hf9⟩ := blk_read HB9.out; have hW : Below wq.heap.size wq w2 := (((Below.refl wq.heap.size wq).alloc (Nat.le_refl _) _).drew).trans (hbB.mono (by simp)))))
        all_goals
          go_wp2_with fail
          go_meet
          first
            | (have hA' := hbA; exact ⟨w2.heap.size, A2, n2, c2, rfl, rfl, blk_new w2 _ _, (own_at HTA.out.2 hbA.block).alloc _, HTA.out.1, (wayA hbA _).1, (wayA hbA (.cells #[] 0)).2⟩)
            | exact ⟨wq.heap.size, A2, n2, c2, rfl, rfl, blk_row5 HB9.out _ _ _ _ _, own_row5_far (own_at HTB.out.2 hbB.block) (own_ne (own_at HTB.out.2 hbB.block) HB9.out (by decide)) _ _ _ _ _, HTB.out.1, wayB hbB _ _ _ _ _, Nat.le_refl _⟩
    case rest =>
      clear HCA HCB HOA HOB HNB g0a g0 hc2 hf2 hc7 hf7 hz2 hz7 hbw
      obtain ⟨g9, A2, n2, c2, rfl, rfl, hb9, hrec, hn2, hbx, hg9⟩ := hcut
      have HROK := Lib.hid (rv_ok HG.out.rows HKY.out hrec hn2)
      have HANS : Hid (lockAns M.rows x y0 y = if (rowAt M.rows y.key).isSome = false ∧ 40 ≤ M.rows.length then 1 else lockCode (rv M.rows y.key) x.start y0.key y.value) := rfl
      have HTM : Hid (timeB x.start = true) := timeB_of HBZ.out.start.1 (by have := HBZ.out.start.2; omega)
      obtain ⟨bt, hbt⟩ : ∃ bt, bt = (rowAt M.rows y.key).isSome := ⟨_, rfl⟩
      rw [← hbt] at HANS ⊢
      have HSX := Lib.hid (HST.out.below hbx)
      have HB7x := Lib.hid (blk_keep hbx HB7j.out (blk_lt HB7j.out))
      have HB9 := Lib.hid hb9
      have HREC := Lib.hid hrec
      have HBX := Lib.hid hbx
      have HG9 : Hid (¬ (g9 = g7) ∧ ¬ (g7 = g9)) := by show _ ∧ _; have := blk_lt HB7j.out; omega
      have HNR : Hid (M.rows.length = n) := HST.out.at_.rows.1
      have hn40 : n ≤ 40 := by rw [← HNR.out]; exact HG.out.rows.len
      clear hbt hb9 hrec hn2 hbx hg9
      have HWALL : Hid (∀ W : World, Below wc.heap.size wc W → W.cell? ⟨b, off + j * 2 + 1, none⟩ = some (.string y.value) ∧ W.cell? ⟨b, off, none⟩ = some (.string y0.key)) := fun W hW => (HGA.out W (HBX.out.trans (hW.mono HBX.out.size))).2
      have HBWx : Hid (b < wc.heap.size) := Nat.lt_of_lt_of_le HBW.out HBX.out.size
      clear HGA HBW HBX HB7j
      obtain ⟨hc7, hf7⟩ := blk_read HB7x.out
      have d1 : decide (x.phase ≤ 2) = false := decide_eq_false HPX.out
      have HP3 : Hid (3 ≤ x.phase) := by show _ ≤ _; have := HPX.out; omega
      clear HWALL HBWx HANS
      obtain ⟨r, hr⟩ : ∃ r, r = rv M.rows y.key := ⟨_, rfl⟩
      obtain ⟨q, hq⟩ : ∃ q, q = commitRow r x.start x.commit := ⟨_, rfl⟩
      obtain ⟨cd, hcd⟩ : ∃ cd, cd = commitCode r x.start x.commit := ⟨_, rfl⟩
      rw [← hr] at HB9 HROK
      have HQ : Hid (commitRow (rv M.rows y.key) x.start x.commit = q) := by show _ = _; rw [hq, hr]
      have HCD : Hid (commitCode (rv M.rows y.key) x.start x.commit = cd) := by show _ = _; rw [hcd, hr]
      obtain ⟨wz, hwz⟩ : ∃ wz : World, wz = wc := ⟨_, rfl⟩
      subst hwz
      have HCA : Hid (Calls Try.prog 69 #[.agg #[.string r.key, .int .i64 r.ls, .string r.lp, .string r.value, .slice A2 n2 c2], .int .i64 x.start, .int .i64 x.commit] wz (RowRet wz q cd)) := by
        show Calls _ _ _ _ _
        rw [hq, hcd]
        exact committedOf_any r x.start x.commit A2 n2 c2 wz HROK.out
      clear hr hq hcd
      obtain ⟨hc9, hf9⟩ := blk_read HB9.out
      go_wp2_with fail
      refine HCA.out.mono ?_
      rintro e w2 ⟨A4, c4, rfl, hown, hb⟩
      have HOWN := Lib.hid (own_more (base' := base) hown HSX.out.at_.size)
      have HS2 := Lib.hid (HSX.out.below hb)
      have HB72 := Lib.hid (blk_keep hb HB7x.out (blk_lt HB7x.out))
      clear hown hb hc9 hf9 hc7 hf7 HCA HSX HB7x HB9 HREC HROK HST HWO
      go_upto_region 33 with (fail)
      obtain ⟨w3, hw3⟩ : ∃ w3, w3 = w2.alloc (.cells #[.string q.key, .int .i64 q.ls, .string q.lp, .string q.value, .slice A4 q.recs.length c4] 26) := ⟨_, rfl⟩
      rw [← hw3]
      have hb3 : Below w2.heap.size w2 w3 := by rw [hw3]; exact (Below.refl _ _).alloc (Nat.le_refl _) _
      have HB13 : Hid (w3.heap[w2.heap.size]? = some (.cells #[.string q.key, .int .i64 q.ls, .string q.lp, .string q.value, .slice A4 q.recs.length c4] 26 (0, 0))) := by show _ = _; rw [hw3]; exact blk_new _ _ _
      obtain ⟨g13, hg13⟩ : ∃ g13, g13 = w2.heap.size := ⟨_, rfl⟩
      rw [← hg13] at HB13 ⊢
      have HS3 := Lib.hid (HS2.out.below hb3)
      have HB73 := Lib.hid (blk_keep hb3 HB72.out (blk_lt HB72.out))
      have HOWN3 := Lib.hid (own_at HOWN.out hb3.block)
      clear hw3 hb3 hg13 HS2 HB72 HOWN
      have h0 : cd ≠ 0 := by rw [← HCD.out, ← EY.out]; exact HGN.out.1
      have hj0' : j ≠ 0 := by have h1 := HJ.out; have h2 := HGN.out.2; omega
      have hgone : ¬ (cd ≠ 0 ∧ j = 0) := fun h => hj0' h.2
      have e0 : (cd == 0) = false := by simpa using h0
      have e1 : ((j : Int) == 0) = false := by simp; omega
      obtain ⟨R1, hR1⟩ : ∃ R1, R1 = if cd = 0 then putRow M.rows q else M.rows := ⟨_, rfl⟩
      have hE : stepM M C x = (setC { M with rows := R1 } C (closedC x), 0, 0) := by
        by_cases h0 : cd = 0
        · have e := step_close_ok (w := M) (c := C) HP3.out HG.out.rows.len EY.out (by rw [HCD.out]; exact h0)
          rw [HQ.out] at e
          rw [hR1, if_pos h0, e]
          rfl
        · have e := step_close_late (w := M) (c := C) HP3.out HG.out.rows.len EY.out (by rw [HCD.out]; exact h0) (by rw [HJ.out]; intro h; exact hgone ⟨h0, by omega⟩)
          rw [hR1, if_neg h0, e]
      have HE := Lib.hid hE
      have HRR1 := Lib.hid hR1
      clear hE hR1 hgone hj0'
      obtain ⟨hc2, hf2⟩ := blk_read HS3.out.b2
      obtain ⟨hc7, hf7⟩ := blk_read HB73.out
      obtain ⟨hc13, hf13⟩ := blk_read HB13.out
      have HPUT : Hid (refPutRow M.rows q = putRow M.rows q) := refPutRow_eq HG.out.rows.sorted
      have HR0 : Hid (R1 = M.rows) := by show _ = _; rw [HRR1.out, if_neg h0]
      clear h0
      go_upto_region 38 with (fail)
      clear hc2 hf2 hc7 hf7 hc13 hf13 e0 e1
      have HS6 : Hid (StAt w w3 base gc m c' g2 g4 g5 g6 { M with rows := R1 } A n c H H' 0 0) := by
        show StAt _ _ _ _ _ _ _ _ _ _ _ _ _ _ _ _ _ _
        rw [HR0.out]; exact HS3.out
      obtain ⟨hc7, hf7⟩ := blk_read HB73.out
      have hwj : IntKind.i64.wrap ((j : Int) + 1) = (j : Int) + 1 := IntWalk.i64_in _ (by omega)
      go_upto_region 40 with (fail)
      obtain ⟨w7, hw7⟩ : ∃ w7, w7 = (w3.setCell ⟨g7, 0, none⟩ (.int .i64 4)).setCell ⟨g7, 4, none⟩ (.int .i64 ((j : Int) + 1)) := ⟨_, rfl⟩
      rw [← hw7]
      have HS7 : Hid (StAt w w7 base gc m c' g2 g4 g5 g6 { M with rows := R1 } A n c H H' 0 0) := by show StAt _ _ _ _ _ _ _ _ _ _ _ _ _ _ _ _ _ _; rw [hw7]; exact (HS6.out.setX HP.out HB73.out).setX HP.out (blk_set HB73.out 0 _)
      have HB77 : Hid (w7.heap[g7]? = some (.cells #[.int .i64 4, .int .i64 x.start, .int .i64 x.commit, .slice (some ⟨b, off, none⟩) nw hcap, .int .i64 ((j : Int) + 1)] 58 (0, 0))) := by show _ = _; rw [hw7]; exact blk_set (blk_set HB73.out 0 _) 4 _
      clear hw7 hc7 hf7 hwj
      obtain ⟨hc7, hf7⟩ := blk_read HB77.out
      by_cases hl : j + 1 = nw
      · have hd1 : ((j : Int) + 1 == (nw : Int)) = true := by simp; omega
        have HCLO : Hid (closedC x = zeroClient) := by show _ = _; unfold closedC; exact if_pos (by rw [HJ.out, ← HNW.out]; omega)
        clear hl
        rw [HCLO.out] at HE
        go_upto_region 42 with (fail)
        obtain ⟨w8, hw8⟩ : ∃ w8, w8 = ((((w7.setCell ⟨g7, 0, none⟩ (.int .i64 0)).setCell ⟨g7, 1, none⟩ (.int .i64 0)).setCell ⟨g7, 2, none⟩ (.int .i64 0)).setCell ⟨g7, 3, none⟩ (.slice none 0 0)).setCell ⟨g7, 4, none⟩ (.int .i64 0) := ⟨_, rfl⟩
        rw [← hw8]
        have HB78 : Hid (w8.heap[g7]? = some (.cells #[.int .i64 0, .int .i64 0, .int .i64 0, .slice none 0 0, .int .i64 0] 58 (0, 0))) := by show _ = _; rw [hw8]; exact blk_row5 HB77.out _ _ _ _ _
        have HS8 : Hid (StAt w w8 base gc m c' g2 g4 g5 g6 { M with rows := R1 } A n c H H' 0 0) := by
          show StAt _ _ _ _ _ _ _ _ _ _ _ _ _ _ _ _ _ _
          rw [hw8]
          exact ((((HS7.out.setX HP.out HB77.out).setX HP.out (blk_set HB77.out 0 _)).setX HP.out (blk_set (blk_set HB77.out 0 _) 1 _)).setX HP.out (blk_set (blk_set (blk_set HB77.out 0 _) 1 _) 2 _)).setX HP.out (blk_set (blk_set (blk_set (blk_set HB77.out 0 _) 1 _) 2 _) 3 _)
        clear hw8 hc7 hf7
        obtain ⟨hc2, hf2⟩ := blk_read (show w8.heap[g2]? = some (.cells #[.slice A n c, .int .i64 M.clock, .slice (some ⟨gc, 0, none⟩) m c'] 36 (0, 0)) from HS8.out.b2)
        obtain ⟨hc7, hf7⟩ := blk_read HB78.out
        obtain ⟨c0, c1, c2', c3, c4'⟩ := HS8.out.at_.cells HX.out HHD.out
        have hfc := HS8.out.at_.frozen
        go_cut [] (fun wx => StAt w wx base gc m c' g2 g4 g5 g6 (setC { M with rows := R1 } C zeroClient) A n c H (H'.set C (none, 0)) 0 0)
        case first =>
          go_wp2_with fail
          go_meet
          exact HS8.out.turn (HS8.out.at_.putZero hCm) rfl
        case rest =>
          have HS9 := Lib.hid hcut
          clear hcut hc2 hf2 hc7 hf7 c0 c1 c2' c3 c4' hfc
          go_upto_region 43 with (fail)
          obtain ⟨hc2, hf2⟩ := blk_read (show wc.heap[g2]? = some (.cells #[.slice A n c, .int .i64 M.clock, .slice (some ⟨gc, 0, none⟩) m c'] 36 (0, 0)) from HS9.out.b2)
          obtain ⟨hc4, hf4⟩ := blk_read HS9.out.b4
          obtain ⟨hc5, hf5⟩ := blk_read HS9.out.b5
          obtain ⟨hc6, hf6⟩ := blk_read HS9.out.b6
          obtain ⟨k1, k2, k3, k4, k5, k6, k7, k8, k9, k10⟩ := HNE.out
          go_cut [] (fun wx => wx.heap[g4]? = some (.cells #[.slice A n c, .int .i64 M.clock, .slice (some ⟨gc, 0, none⟩) m c'] 36 (0, 0)) ∧ wx.heap[g5]? = some (.cells #[.int .i64 (0), .bool false, .string ⟨#[]⟩, .int .i64 0, .int .i64 0] 41 (0, 0)) ∧ Below w.heap.size wc wx ∧ Keeps [36, 41] w.heap.size wc wx)
          case first =>
            go_region
            all_goals
              go_wp2_with fail
              go_meet
              exact ref_end HS9.out.b4 HS9.out.b5 HLE.out.1 HLE.out.2.1 HLE.out.2.2 _ _ _ _ _ _ _ _
          case rest =>
            obtain ⟨h4, h5, hb, hk⟩ := hcut
            have HRES := Lib.hid (HS9.out.ended HP.out hb hk)
            clear hb hk hc2 hf2 hc4 hf4 hc5 hf5 hc6 hf6 k1 k2 k3 k4 k5 k6 k7 k8 k9 k10
            obtain ⟨hc4, hf4⟩ := blk_read h4
            obtain ⟨hc5, hf5⟩ := blk_read h5
            clear h4 h5
            go_wp2_with fail
            refine bodyPost_ret (v := .tuple #[.agg #[.slice A n c, .int .i64 M.clock, .slice (some ⟨gc, 0, none⟩) m c'], .agg #[.int .i64 (0), .bool false, .string ⟨#[]⟩, .int .i64 0, .int .i64 0]]) (by simp [results, Try.results35, go_sem, hc4, hc5]) rfl ?_
            rw [HE.out]
            exact ⟨A, n, c, rfl, HRES.out⟩
      · have hd1 : ((j : Int) + 1 == (nw : Int)) = false := by simp; omega
        have HCLO : Hid (closedC x = { x with phase := 4, at_ := x.at_ + 1 }) := by show _ = _; unfold closedC; exact if_neg (by rw [HJ.out, ← HNW.out]; omega)
        clear hl
        rw [HCLO.out] at HE
        clear hc7 hf7
        obtain ⟨hc2, hf2⟩ := blk_read (show w7.heap[g2]? = some (.cells #[.slice A n c, .int .i64 M.clock, .slice (some ⟨gc, 0, none⟩) m c'] 36 (0, 0)) from HS7.out.b2)
        obtain ⟨hc7, hf7⟩ := blk_read HB77.out
        obtain ⟨c0, c1, c2', c3, c4'⟩ := HS7.out.at_.cells HX.out HHD.out
        have hfc := HS7.out.at_.frozen
        have HPT := Lib.hid (HS7.out.at_.putSame (C := C) (x := { x with phase := 4, at_ := x.at_ + 1 }) HX.out HHD.out rfl)
        go_upto_region 42 with (fail)
        go_cut [] (fun wx => StAt w wx base gc m c' g2 g4 g5 g6 (setC { M with rows := R1 } C { x with phase := 4, at_ := x.at_ + 1 }) A n c H H' 0 0)
        case first =>
          go_wp2_with fail
          go_meet
          refine HS7.out.turn ?_ rfl
          have hp := HPT.out
          rw [← HNW.out] at hp
          simpa [HJ.out] using hp
        case rest =>
          have HS9 := Lib.hid hcut
          clear hcut hc2 hf2 hc7 hf7 c0 c1 c2' c3 c4' hfc HPT
          go_upto_region 43 with (fail)
          obtain ⟨hc2, hf2⟩ := blk_read (show wc.heap[g2]? = some (.cells #[.slice A n c, .int .i64 M.clock, .slice (some ⟨gc, 0, none⟩) m c'] 36 (0, 0)) from HS9.out.b2)
          obtain ⟨hc4, hf4⟩ := blk_read HS9.out.b4
          obtain ⟨hc5, hf5⟩ := blk_read HS9.out.b5
          obtain ⟨hc6, hf6⟩ := blk_read HS9.out.b6
          obtain ⟨k1, k2, k3, k4, k5, k6, k7, k8, k9, k10⟩ := HNE.out
          go_cut [] (fun wx => wx.heap[g4]? = some (.cells #[.slice A n c, .int .i64 M.clock, .slice (some ⟨gc, 0, none⟩) m c'] 36 (0, 0)) ∧ wx.heap[g5]? = some (.cells #[.int .i64 (0), .bool false, .string ⟨#[]⟩, .int .i64 0, .int .i64 0] 41 (0, 0)) ∧ Below w.heap.size wc wx ∧ Keeps [36, 41] w.heap.size wc wx)
          case first =>
            go_region
            all_goals
              go_wp2_with fail
              go_meet
              exact ref_end HS9.out.b4 HS9.out.b5 HLE.out.1 HLE.out.2.1 HLE.out.2.2 _ _ _ _ _ _ _ _
          case rest =>
            obtain ⟨h4, h5, hb, hk⟩ := hcut
            have HRES := Lib.hid (HS9.out.ended HP.out hb hk)
            clear hb hk hc2 hf2 hc4 hf4 hc5 hf5 hc6 hf6 k1 k2 k3 k4 k5 k6 k7 k8 k9 k10
            obtain ⟨hc4, hf4⟩ := blk_read h4
            obtain ⟨hc5, hf5⟩ := blk_read h5
            clear h4 h5
            go_wp2_with fail
            refine bodyPost_ret (v := .tuple #[.agg #[.slice A n c, .int .i64 M.clock, .slice (some ⟨gc, 0, none⟩) m c'], .agg #[.int .i64 (0), .bool false, .string ⟨#[]⟩, .int .i64 0, .int .i64 0]]) (by simp [results, Try.results35, go_sem, hc4, hc5]) rfl ?_
            rw [HE.out]
            exact ⟨A, n, c, rfl, HRES.out⟩
end Go.Proofs.Ytniomgngiiiklab
