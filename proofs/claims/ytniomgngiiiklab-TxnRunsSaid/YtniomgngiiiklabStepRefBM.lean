/- The walk of the reference's stepped: a lock. -/
import Derived.Test.YtniomgngiiiklabFactsM
namespace Go.Proofs.Ytniomgngiiiklab
open Go.RowKit

set_option maxRecDepth 100000 in
set_option maxHeartbeats 8000000 in
theorem stepped_lock (C base gc n c m c' : Nat) (M : MWorld) (x : MClient) (A : Option Addr) (H H' : Heads) (w : World) (hS : RefAt w base gc M A n c m c' H H') (hg : WorldGood M) (hlt : M.clock ≠ 1099511627376) (hx : M.clients[C]? = some x) (hp0 : x.phase ≠ 0) (hw0 : x.writes.length ≠ 0) (hway : ¬ (x.phase ≤ 2 ∧ x.at_ = x.writes.length)) (hp2 : x.phase ≤ 2) (hgn : lockAns M.rows x (writeNo x 0) (writeNo x x.at_) = 0) :
    Calls Try.prog 35 #[.agg #[.slice A n c, .int .i64 M.clock, .slice (some ⟨gc, 0, none⟩) m c'], .int .i64 (C : Int)] w (StepRet w base gc m c' (stepM M C x)) := by
  have HGN := Lib.hid hgn
  clear hgn
  obtain ⟨hCm, hd, hhd⟩ := hS.head hx
  have hm5 := hS.clients.1
  have hcl := hg.clients x (List.mem_of_getElem? hx)
  have hgw := writes_good hcl
  have hwk : ∀ y ∈ x.writes, y.key.size ≤ maxLen := fun y hy => by have := key_size (hgw.2.1 y hy).1; unfold maxLen; omega
  have hck0 : 0 ≤ M.clock := hg.clock.1
  have hck1 : M.clock < 1099511627376 := by have := hg.clock.2; omega
  have HG := Lib.hid hg
  have HS := Lib.hid hS
  have HX := Lib.hid hx
  have HCL := Lib.hid hcl
  have HGW := Lib.hid hgw
  have HWK := Lib.hid hwk
  have HWO : Hid (WritesOk w w.heap.size hd.1 x.writes.length hd.2 x.writes) := WritesOk.own (hS.writes hx hhd) (by have := hgw.1; omega) hwk
  obtain ⟨nw, hnw⟩ : ∃ nw, nw = x.writes.length := ⟨_, rfl⟩
  obtain ⟨c0, c1, c2, c3, c4⟩ := hS.cells hx hhd
  have HHD := Lib.hid hhd
  obtain ⟨hA, hcap⟩ := hd
  dsimp only at c3 HWO
  rw [← hnw] at HWO c3
  have hwl : nw ≤ 6 := by rw [hnw]; exact hgw.1
  have HNW := Lib.hid hnw
  have hCi : (C : Int) < (m : Int) := by omega
  have hC0 : (0 : Int) ≤ (C : Int) := by omega
  have hzc := hS.lt.2
  clear hS hg hx hhd hcl hgw hwk hlt hnw hm5
  go_enter Try.func35, Try.ntmps35
  go_upto_region 2 with (fail)
  obtain ⟨hb0, k2, k4, k5, k6⟩ := blk_new4 w (a := #[.slice A n c, .int .i64 M.clock, .slice (some ⟨gc, 0, none⟩) m c']) (b := #[.slice none 0 0, .int .i64 0, .slice none 0 0]) (c := #[.int .i64 0, .bool false, .string ⟨#[]⟩, .int .i64 0, .int .i64 0]) (d := #[.int .i64 0, .bool false, .string ⟨#[]⟩, .int .i64 0, .int .i64 0]) (ta := 36) (tb := 36) (tc := 41) (td := 41)
  obtain ⟨wp, hwp⟩ : ∃ wp, wp = (((w.alloc (.cells #[.slice A n c, .int .i64 M.clock, .slice (some ⟨gc, 0, none⟩) m c'] 36)).alloc (.cells #[.slice none 0 0, .int .i64 0, .slice none 0 0] 36)).alloc (.cells #[.int .i64 0, .bool false, .string ⟨#[]⟩, .int .i64 0, .int .i64 0] 41)).alloc (.cells #[.int .i64 0, .bool false, .string ⟨#[]⟩, .int .i64 0, .int .i64 0] 41) := ⟨_, rfl⟩
  rw [← hwp] at hb0 k2 k4 k5 k6 ⊢
  have hsz : wp.heap.size = w.heap.size + 1 + 1 + 1 + 1 := by rw [hwp]; simp
  have HSZ := Lib.hid hsz
  obtain ⟨hc2, hf2⟩ := blk_read k2
  have HK2 := Lib.hid k2
  have HK4 := Lib.hid k4
  have HK5 := Lib.hid k5
  have HK6 := Lib.hid k6
  have HB0 := Lib.hid hb0
  clear hwp hsz c0 c1 c2 c3 c4 k2 k4 k5 k6 hb0
  obtain ⟨c0, c1, c2, c3, c4⟩ := (HS.out.below HB0.out (Nat.le_refl _)).cells HX.out HHD.out
  dsimp only at c3
  rw [← HNW.out] at c3
  go_upto_region 3 with (fail)
  obtain ⟨wq, hwq⟩ : ∃ wq, wq = wp.alloc (.cells #[.int .i64 x.phase, .int .i64 x.start, .int .i64 x.commit, .slice hA nw hcap, .int .i64 x.at_] 58) := ⟨_, rfl⟩
  rw [← hwq, HSZ.out]
  have hsz := HSZ.out
  have k2 := HK2.out
  have k4 := HK4.out
  have k5 := HK5.out
  have k6 := HK6.out
  have hb0 := HB0.out
  have k7 : wq.heap[w.heap.size + 1 + 1 + 1 + 1]? = some (.cells #[.int .i64 x.phase, .int .i64 x.start, .int .i64 x.commit, .slice hA nw hcap, .int .i64 x.at_] 58 (0, 0)) := by rw [hwq]; exact blk_new_at _ _ _ hsz.symm
  have hbq : Below wp.heap.size wp wq := by rw [hwq]; exact (Below.refl _ _).alloc (Nat.le_refl _) _
  obtain ⟨g2, e2⟩ : ∃ g2, g2 = w.heap.size := ⟨_, rfl⟩
  obtain ⟨g4, e4⟩ : ∃ g4, g4 = g2 + 1 := ⟨_, rfl⟩
  obtain ⟨g5, e5⟩ : ∃ g5, g5 = g2 + 1 + 1 := ⟨_, rfl⟩
  obtain ⟨g6, e6⟩ : ∃ g6, g6 = g2 + 1 + 1 + 1 := ⟨_, rfl⟩
  obtain ⟨g7, e7⟩ : ∃ g7, g7 = g2 + 1 + 1 + 1 + 1 := ⟨_, rfl⟩
  rw [← e2] at k2
  rw [← e2, ← e4] at k4
  rw [← e2, ← e5] at k5
  rw [← e2, ← e6] at k6
  rw [← e2, ← e7] at k7
  rw [← e2, ← e7, ← e6, ← e5, ← e4]
  have HP : Hid (StPos w base gc g2 g4 g5 g6 g7) := ⟨e2, by omega, by omega, by omega, by omega, HS.out.size, hzc⟩
  have HNE : Hid (¬ (g2 = g4) ∧ ¬ (g4 = g2) ∧ ¬ (g2 = g5) ∧ ¬ (g5 = g2) ∧ ¬ (g6 = g4) ∧ ¬ (g4 = g6) ∧ ¬ (g6 = g5) ∧ ¬ (g5 = g6) ∧ ¬ (g4 = g5) ∧ ¬ (g5 = g4)) := by show _ ∧ _; omega
  have HLE : Hid (w.heap.size ≤ g4 ∧ w.heap.size ≤ g5 ∧ g4 ≠ g5) := by show _ ∧ _; omega
  have hba := hb0.trans (hbq.mono hb0.size)
  have HST : Hid (StAt w wq base gc m c' g2 g4 g5 g6 M A n c H H' 0 0) :=
    ⟨HS.out.below hba (Nat.le_refl _), Keeps.of_below hba (Nat.le_refl _) HS.out.size, blk_keep hbq k2 (blk_lt k2), blk_keep hbq k4 (blk_lt k4), blk_keep hbq k5 (blk_lt k5), blk_keep hbq k6 (blk_lt k6)⟩
  have HB7 := Lib.hid k7
  have HBA := Lib.hid hba
  clear HK2 HK4 HK5 HK6 HB0 HSZ hc2 hf2 hwq hb0 k2 k4 k5 k6 k7 hsz hbq e2 e4 e5 e6 e7 hba c0 c1 c2 c3 c4 hzc
  obtain ⟨hc7, hf7⟩ := blk_read HB7.out
  have p0' : (x.phase == 0) = false := by simpa using hp0
  have HWK' : Hid (Works x) := works_of HCL.out hp0
  have HBZ := Lib.hid (busy_of HCL.out hp0)
  have h0' : ((nw : Int) == 0) = false := by have := HNW.out; simp; omega
  have HN0 : Hid (x.writes.length ≠ 0) := hw0
  have hps : ¬ (x.phase ≤ 2 ∧ x.at_ = (nw : Int)) := fun h => hway ⟨h.1, by rw [← HNW.out]; exact h.2⟩
  have hnz : ¬ nw = 0 := by have := HNW.out; omega
  have HPX := Lib.hid hp2
  clear hp0 hw0 hway hp2
  have hwk := HWK'.out
  have hjn0 : x.at_ < x.writes.length := by
    have h1 := hwk.at1
    have h2 := hwk.late
    have h3 := HNW.out
    by_cases h : x.phase ≤ 2
    · have : x.at_ ≠ (nw : Int) := fun e => hps ⟨h, e⟩
      omega
    · exact h2 (by omega)
  obtain ⟨j, hj⟩ : ∃ j : Nat, x.at_ = j := ⟨x.at_.toNat, by have := hwk.at0; omega⟩
  have hjn : j < nw := by have := HNW.out; omega
  have HJ := Lib.hid hj
  have hx : (decide (x.phase ≤ 2) = true ∧ ((j : Int) == (nw : Int)) = false) ∨ decide (x.phase ≤ 2) = false := by
    by_cases h : x.phase ≤ 2
    · exact .inl ⟨decide_eq_true h, by simp; omega⟩
    · exact .inr (decide_eq_false h)
  obtain ⟨y, b, off, hy, rfl, hbb, g0, g1⟩ := (HWO.out.at_.below HBA.out (Nat.le_refl _)).at_ hjn
  obtain ⟨y0, b', off', hy0, e', _, g00, _⟩ := (HWO.out.at_.below HBA.out (Nat.le_refl _)).at_ (show 0 < nw by omega)
  obtain ⟨rfl, rfl⟩ : b = b' ∧ off = off' := by have e := Option.some.inj e'; injection e with e1 e2; exact ⟨e1, e2⟩
  have g00' : wq.cell? ⟨b, off, none⟩ = some (.string y0.key) := by simpa using g00
  clear hnz
  have HY := Lib.hid hy
  have HY0 := Lib.hid hy0
  have HKY : Hid (y.key.size ≤ maxLen) := HWK.out y (List.mem_of_getElem? hy)
  have HKY0 : Hid (y0.key.size ≤ maxLen) := HWK.out y0 (List.mem_of_getElem? hy0)
  have EY : Hid (writeNo x x.at_ = y) := by show _ = _; unfold writeNo; rw [HJ.out, Int.toNat_natCast, HY.out]; rfl
  have EY0 : Hid (writeNo x 0 = y0) := by show _ = _; unfold writeNo; rw [Int.toNat_zero, HY0.out]; rfl
  have hbw : b < wq.heap.size := Nat.lt_of_lt_of_le hbb HBA.out.size
  have HGA : Hid (∀ W : World, Below wq.heap.size wq W → W.cell? ⟨b, off + j * 2, none⟩ = some (.string y.key) ∧ W.cell? ⟨b, off + j * 2 + 1, none⟩ = some (.string y.value) ∧ W.cell? ⟨b, off, none⟩ = some (.string y0.key)) := fun W hW =>
    ⟨(hW.cell (p := ⟨b, off + j * 2, none⟩) hbw).trans g0, (hW.cell (p := ⟨b, off + j * 2 + 1, none⟩) hbw).trans g1, (hW.cell (p := ⟨b, off, none⟩) hbw).trans g00'⟩
  have HBW := Lib.hid hbw
  have hb7 : wq.heap[g7]? = some (.cells #[.int .i64 x.phase, .int .i64 x.start, .int .i64 x.commit, .slice (some ⟨b, off, none⟩) nw hcap, .int .i64 (j : Int)] 58 (0, 0)) := by rw [← HJ.out]; exact HB7.out
  have HB7j := Lib.hid hb7
  have HPS := Lib.hid hps
  have hj0 : (0 : Int) ≤ (j : Int) := by omega
  have hji : (j : Int) < (nw : Int) := by omega
  have hn0 : (0 : Int) < (nw : Int) := by omega
  have hn0' : 0 < nw := by omega
  have HBG : Hid (¬ b = g7) := by show ¬ _; have := HP.out.e7; omega
  clear HB7 hc7 hf7 hps hwk hjn0 hj g0 g1 g00 g00' e' hy hy0 hb7 hbb
  obtain ⟨hc7, hf7⟩ := blk_read HB7j.out
  go_upto_region 10 with (fail)
  go_cut [47] (fun t wx => t = .bool false ∧ wq = wx)
  case first =>
    rcases hx with ⟨d1, d2⟩ | d1
    all_goals
      go_wp2_with fail
      go_meet
      exact ⟨rfl, rfl⟩
  case rest =>
    obtain ⟨rfl, rfl⟩ := hcut
    clear hx
    obtain ⟨hc2, hf2⟩ := blk_read HST.out.b2
    obtain ⟨g0, _, _⟩ := HGA.out wq (Below.refl _ _)
    have hz2 := blk_lt HST.out.b2
    have hz7 := blk_lt HB7j.out
    have hbw := HBW.out
    have g0a := fun (o : Obj) => (World.cell?_alloc_past (w := wq) o b (off + j * 2) hbw).trans g0
    have HCA : Hid (Calls Try.prog 32 #[.agg #[.slice A n c, .int .i64 M.clock, .slice (some ⟨gc, 0, none⟩) m c'], .string y.key] wq.drew (RowOfTied wq.drew A M.rows y.key)) :=
      rowOf_tied M.rows M.clock y.key A (some ⟨gc, 0, none⟩) n c m c' wq.drew ((HST.out.at_.rows.typed (w' := wq.drew) fun _ _ _ _ _ _ => rfl).ok HG.out.rows.sized) HKY.out
    have HCB : Hid (Calls Try.prog 32 #[.agg #[.slice A n c, .int .i64 M.clock, .slice (some ⟨gc, 0, none⟩) m c'], .string y.key] (wq.alloc (.cells #[.string ⟨#[]⟩, .int .i64 0, .string ⟨#[]⟩, .string ⟨#[]⟩, .slice none 0 0] 26)).drew (RowOfTied (wq.alloc (.cells #[.string ⟨#[]⟩, .int .i64 0, .string ⟨#[]⟩, .string ⟨#[]⟩, .slice none 0 0] 26)).drew A M.rows y.key)) :=
      rowOf_tied M.rows M.clock y.key A (some ⟨gc, 0, none⟩) n c m c' (wq.alloc (.cells #[.string ⟨#[]⟩, .int .i64 0, .string ⟨#[]⟩, .string ⟨#[]⟩, .slice none 0 0] 26)).drew ((HST.out.at_.rows.typed (w' := (wq.alloc (.cells #[.string ⟨#[]⟩, .int .i64 0, .string ⟨#[]⟩, .string ⟨#[]⟩, .slice none 0 0] 26)).drew) fun g _ _ _ hg _ => Below.heap_alloc _ _ g (blk_lt hg)).ok HG.out.rows.sized) HKY.out
    have HOA : Hid (OwnRows wq.drew base A n c M.rows H) := HST.out.at_.rows.typed fun _ _ _ _ _ _ => rfl
    have HOB : Hid (OwnRows (wq.alloc (.cells #[.string ⟨#[]⟩, .int .i64 0, .string ⟨#[]⟩, .string ⟨#[]⟩, .slice none 0 0] 26)).drew base A n c M.rows H) := HST.out.at_.rows.typed fun g _ _ _ hg _ => Below.heap_alloc _ _ g (blk_lt hg)
    have HNB : Hid ((wq.alloc (.cells #[.string ⟨#[]⟩, .int .i64 0, .string ⟨#[]⟩, .string ⟨#[]⟩, .slice none 0 0] 26)).heap[wq.heap.size]? = some (.cells #[.string ⟨#[]⟩, .int .i64 0, .string ⟨#[]⟩, .string ⟨#[]⟩, .slice none 0 0] 26 (0, 0))) := blk_new wq _ _
    go_upto_region 18 with (fail)
    go_cut [9, 10] (fun p s wx => ∃ g9 A2 n2 c2, p = .pointer (some ⟨g9, 0, none⟩) ∧ s = .bool (rowAt M.rows y.key).isSome ∧ wx.heap[g9]? = some (.cells #[.string (rv M.rows y.key).key, .int .i64 (rv M.rows y.key).ls, .string (rv M.rows y.key).lp, .string (rv M.rows y.key).value, .slice A2 n2 c2] 26 (0, 0)) ∧ wx.ownsRow base 55 3 (.slice A2 n2 c2) n2 (recCells (rv M.rows y.key).recs) ∧ n2 = (rv M.rows y.key).recs.length ∧ Below wq.heap.size wq wx ∧ wq.heap.size ≤ g9)
    case first =>
      as_aux_lemma =>
        have HS0 : Hid (∀ W : World, Below wq.heap.size wq W → W.cell? ⟨g2, 0, none⟩ = some (.slice A n c) ∧ W.cell? ⟨g2, 1, none⟩ = some (.int .i64 M.clock) ∧ W.cell? ⟨g2, 2, none⟩ = some (.slice (some ⟨gc, 0, none⟩) m c') ∧ W.cell? ⟨g7, 3, none⟩ = some (.slice (some ⟨b, off, none⟩) nw hcap) ∧ W.cell? ⟨g7, 4, none⟩ = some (.int .i64 (j : Int)) ∧ W.cell? ⟨b, off + j * 2, none⟩ = some (.string y.key)) := fun W hW =>
          ⟨(hW.cell (p := ⟨g2, 0, none⟩) hz2).trans (by simpa using hc2 0), (hW.cell (p := ⟨g2, 1, none⟩) hz2).trans (by simpa using hc2 1), (hW.cell (p := ⟨g2, 2, none⟩) hz2).trans (by simpa using hc2 2), (hW.cell (p := ⟨g7, 3, none⟩) hz7).trans (by simpa using hc7 3), (hW.cell (p := ⟨g7, 4, none⟩) hz7).trans (by simpa using hc7 4), (hW.cell (p := ⟨b, off + j * 2, none⟩) hbw).trans g0⟩
        go_region_held3 (fun w' => w'.cell? ⟨g2, 0, none⟩ = some (.slice A n c) ∧ w'.cell? ⟨g2, 1, none⟩ = some (.int .i64 M.clock) ∧ w'.cell? ⟨g2, 2, none⟩ = some (.slice (some ⟨gc, 0, none⟩) m c') ∧ w'.cell? ⟨g7, 3, none⟩ = some (.slice (some ⟨b, off, none⟩) nw hcap) ∧ w'.cell? ⟨g7, 4, none⟩ = some (.int .i64 (j : Int)) ∧ w'.cell? ⟨b, off + j * 2, none⟩ = some (.string y.key))
          (first | go_keep | exact HS0.out _ hW | exact HS0.out _ (hW.alloc hW.size _) | exact HS0.out _ (below_row5 hW (Nat.le_refl _) _ _ _ _ _))
          ((first
            | (go_simp; go_at_call 32; refine HCA.out.mono ?_; rintro e w2 ⟨A2, n2, c2, rfl, hok, hbA, htd⟩; have HTA := Lib.hid (htd.own HOA.out); clear htd; have hW : Below wq.heap.size wq w2 := ((Below.refl wq.heap.size wq).drew).trans hbA)
            | (go_simp; go_at_call 32; refine HCB.out.mono ?_; rintro e w2 ⟨A2, n2, c2, rfl, hok, hbB, htd⟩; have HTB := Lib.hid (htd.own HOB.out); clear htd; have HB9 := Lib.hid (blk_keep (g := wq.heap.size) hbB HNB.out (blk_lt HNB.out)); obtain ⟨hc9, hf9⟩ := blk_read HB9.out; have hW : Below wq.heap.size wq w2 := (((Below.refl wq.heap.size wq).alloc (Nat.le_refl _) _).drew).trans (hbB.mono (by simp)))))
        all_goals
          go_wp2_with fail
          go_meet
          first
            | (have hA' := hbA; exact ⟨w2.heap.size, A2, n2, c2, rfl, rfl, blk_new w2 _ _, (own_at HTA.out.2 hbA.block).alloc _, HTA.out.1, (wayA hbA _).1, (wayA hbA (.cells #[] 0)).2⟩)
            | exact ⟨wq.heap.size, A2, n2, c2, rfl, rfl, blk_row5 HB9.out _ _ _ _ _, own_row5_far (own_at HTB.out.2 hbB.block) (own_ne (own_at HTB.out.2 hbB.block) HB9.out (by decide)) _ _ _ _ _, HTB.out.1, wayB hbB _ _ _ _ _, Nat.le_refl _⟩
    case rest =>
      clear HCA HCB HOA HOB HNB g0a g0 hc2 hf2 hc7 hf7 hz2 hz7 hbw
      obtain ⟨g9, A2, n2, c2, rfl, rfl, hb9, hrec, hn2, hbx, hg9⟩ := hcut
      have HROK := Lib.hid (rv_ok HG.out.rows HKY.out hrec hn2)
      have HANS : Hid (lockAns M.rows x y0 y = if (rowAt M.rows y.key).isSome = false ∧ 40 ≤ M.rows.length then 1 else lockCode (rv M.rows y.key) x.start y0.key y.value) := rfl
      have HTM : Hid (timeB x.start = true) := timeB_of HBZ.out.start.1 (by have := HBZ.out.start.2; omega)
      obtain ⟨bt, hbt⟩ : ∃ bt, bt = (rowAt M.rows y.key).isSome := ⟨_, rfl⟩
      rw [← hbt] at HANS ⊢
      have HSX := Lib.hid (HST.out.below hbx)
      have HB7x := Lib.hid (blk_keep hbx HB7j.out (blk_lt HB7j.out))
      have HB9 := Lib.hid hb9
      have HREC := Lib.hid hrec
      have HBX := Lib.hid hbx
      have HG9 : Hid (¬ (g9 = g7) ∧ ¬ (g7 = g9)) := by show _ ∧ _; have := blk_lt HB7j.out; omega
      have HNR : Hid (M.rows.length = n) := HST.out.at_.rows.1
      have hn40 : n ≤ 40 := by rw [← HNR.out]; exact HG.out.rows.len
      clear hbt hb9 hrec hn2 hbx hg9
      have HWALL : Hid (∀ W : World, Below wc.heap.size wc W → W.cell? ⟨b, off + j * 2 + 1, none⟩ = some (.string y.value) ∧ W.cell? ⟨b, off, none⟩ = some (.string y0.key)) := fun W hW => (HGA.out W (HBX.out.trans (hW.mono HBX.out.size))).2
      have HBWx : Hid (b < wc.heap.size) := Nat.lt_of_lt_of_le HBW.out HBX.out.size
      clear HGA HBW HBX HB7j
      obtain ⟨hc7, hf7⟩ := blk_read HB7x.out
      have hp2 := HPX.out
      have d1 : decide (x.phase ≤ 2) = true := decide_eq_true hp2
      have HAT : Hid (x.at_ ≠ x.writes.length) := by
        show _ ≠ _
        have h1 := HPS.out
        have h2 := HNW.out
        intro e
        exact h1 ⟨hp2, by omega⟩
      have HP2 := Lib.hid hp2
      clear hp2
      go_upto_region 21 with (fail)
      obtain ⟨wk, hwk⟩ : ∃ wk, wk = wc.setCell ⟨g7, 0, none⟩ (.int .i64 2) := ⟨_, rfl⟩
      rw [← hwk]
      have HSK : Hid (StAt w wk base gc m c' g2 g4 g5 g6 M A n c H H' 0 0) := by show StAt _ _ _ _ _ _ _ _ _ _ _ _ _ _ _ _ _ _; rw [hwk]; exact HSX.out.setX HP.out HB7x.out
      have HB7k : Hid (wk.heap[g7]? = some (.cells #[.int .i64 2, .int .i64 x.start, .int .i64 x.commit, .slice (some ⟨b, off, none⟩) nw hcap, .int .i64 (j : Int)] 58 (0, 0))) := by show _ = _; rw [hwk]; exact blk_set HB7x.out 0 _
      have HB9k : Hid (wk.heap[g9]? = some (.cells #[.string (rv M.rows y.key).key, .int .i64 (rv M.rows y.key).ls, .string (rv M.rows y.key).lp, .string (rv M.rows y.key).value, .slice A2 n2 c2] 26 (0, 0))) := by show _ = _; rw [hwk]; exact blk_far HB9.out (p := ⟨g7, 0, none⟩) HG9.out.1 _
      have HRECk : Hid (wk.ownsRow base 55 3 (.slice A2 n2 c2) n2 (recCells (rv M.rows y.key).recs)) := by show World.ownsRow _ _ _ _ _ _ _; rw [hwk]; exact own_far HREC.out (own_ne HREC.out HB7x.out (by decide)) _
      have hszk : wk.heap.size = wc.heap.size := by rw [hwk]; simp
      have HWK2 : Hid (∀ W : World, Below wk.heap.size wk W → W.cell? ⟨b, off + j * 2 + 1, none⟩ = some (.string y.value) ∧ W.cell? ⟨b, off, none⟩ = some (.string y0.key)) := fun W hW => by
        have hbk : b < wk.heap.size := by rw [hszk]; exact HBWx.out
        have hbg : ¬ b = g7 := fun e => HBG.out e
        have h := HWALL.out wc (Below.refl _ _)
        have hk : ∀ i, W.cell? ⟨b, i, none⟩ = wc.cell? ⟨b, i, none⟩ := fun i => (hW.cell (p := ⟨b, i, none⟩) hbk).trans (World.cell?_of_block (a := ⟨b, i, none⟩) (by rw [hwk]; exact Below.heap_setCell _ _ _ b hbg))
        exact ⟨(hk _).trans h.1, (hk _).trans h.2⟩
      have hROKk : RowOk wk wk.heap.size (rv M.rows y.key) A2 n2 c2 := rv_ok HG.out.rows HKY.out HRECk.out HROK.out.recs.at_.1.symm
      have HROKk := Lib.hid hROKk
      clear hwk hszk hROKk hc7 hf7 HWALL HBWx HREC HB9 HB7x HSX HROK
      obtain ⟨r, hr⟩ : ∃ r, r = rv M.rows y.key := ⟨_, rfl⟩
      obtain ⟨q, hq⟩ : ∃ q, q = lockRow r x.start y0.key y.value := ⟨_, rfl⟩
      obtain ⟨cd, hcd⟩ : ∃ cd, cd = lockCode r x.start y0.key y.value := ⟨_, rfl⟩
      rw [← hr] at HB9k HROKk HANS
      rw [← hcd] at HANS
      have HQ : Hid (lockRow (rv M.rows y.key) x.start y0.key y.value = q) := by show _ = _; rw [hq, hr]
      have HCA : Hid (Calls Try.prog 66 #[.agg #[.string r.key, .int .i64 r.ls, .string r.lp, .string r.value, .slice A2 n2 c2], .int .i64 x.start, .string y0.key, .string y.value] wk.drew (RowRet wk.drew q cd)) := by
        show Calls _ _ _ _ _
        rw [hq, hcd]
        exact lockedOf_any r x.start y0.key y.value A2 n2 c2 wk.drew (HROKk.out.keepAt (fun _ _ => rfl) (Nat.le_refl _)) HKY0.out
      have HCB : Hid (Calls Try.prog 66 #[.agg #[.string r.key, .int .i64 r.ls, .string r.lp, .string r.value, .slice A2 n2 c2], .int .i64 x.start, .string y0.key, .string y.value] (wk.alloc (.cells #[.string ⟨#[]⟩, .int .i64 0, .string ⟨#[]⟩, .string ⟨#[]⟩, .slice none 0 0] 26)).drew (RowRet (wk.alloc (.cells #[.string ⟨#[]⟩, .int .i64 0, .string ⟨#[]⟩, .string ⟨#[]⟩, .slice none 0 0] 26)).drew q cd)) := by
        show Calls _ _ _ _ _
        rw [hq, hcd]
        exact lockedOf_any r x.start y0.key y.value A2 n2 c2 (wk.alloc (.cells #[.string ⟨#[]⟩, .int .i64 0, .string ⟨#[]⟩, .string ⟨#[]⟩, .slice none 0 0] 26)).drew ((HROKk.out.keepAt (w' := (wk.alloc (.cells #[.string ⟨#[]⟩, .int .i64 0, .string ⟨#[]⟩, .string ⟨#[]⟩, .slice none 0 0] 26)).drew) (fun g hg => Below.heap_alloc _ _ g hg) (Nat.le_refl _)).more (by simp)) HKY0.out
      have HNB : Hid ((wk.alloc (.cells #[.string ⟨#[]⟩, .int .i64 0, .string ⟨#[]⟩, .string ⟨#[]⟩, .slice none 0 0] 26)).heap[wk.heap.size]? = some (.cells #[.string ⟨#[]⟩, .int .i64 0, .string ⟨#[]⟩, .string ⟨#[]⟩, .slice none 0 0] 26 (0, 0))) := blk_new wk _ _
      have HBSK : Hid (base ≤ wk.heap.size) := HSK.out.at_.size
      clear hr hq hcd
      have hz7 := blk_lt HB7k.out
      have hz9 := blk_lt HB9k.out
      obtain ⟨hc7, hf7⟩ := blk_read HB7k.out
      obtain ⟨hc9, hf9⟩ := blk_read HB9k.out
      have HS1 : Hid (∀ W : World, Below wk.heap.size wk W → W.cell? ⟨g9, 0, none⟩ = some (.string r.key) ∧ W.cell? ⟨g9, 1, none⟩ = some (.int .i64 r.ls) ∧ W.cell? ⟨g9, 2, none⟩ = some (.string r.lp) ∧ W.cell? ⟨g9, 3, none⟩ = some (.string r.value) ∧ W.cell? ⟨g9, 4, none⟩ = some (.slice A2 n2 c2) ∧
          W.cell? ⟨g7, 1, none⟩ = some (.int .i64 x.start) ∧ W.cell? ⟨g7, 3, none⟩ = some (.slice (some ⟨b, off, none⟩) nw hcap) ∧ W.cell? ⟨g7, 4, none⟩ = some (.int .i64 (j : Int)) ∧ W.cell? ⟨b, off + j * 2 + 1, none⟩ = some (.string y.value) ∧ W.cell? ⟨b, off, none⟩ = some (.string y0.key)) := fun W hW =>
        ⟨(hW.cell (p := ⟨g9, 0, none⟩) hz9).trans (by simpa using hc9 0), (hW.cell (p := ⟨g9, 1, none⟩) hz9).trans (by simpa using hc9 1), (hW.cell (p := ⟨g9, 2, none⟩) hz9).trans (by simpa using hc9 2), (hW.cell (p := ⟨g9, 3, none⟩) hz9).trans (by simpa using hc9 3), (hW.cell (p := ⟨g9, 4, none⟩) hz9).trans (by simpa using hc9 4),
          (hW.cell (p := ⟨g7, 1, none⟩) hz7).trans (by simpa using hc7 1), (hW.cell (p := ⟨g7, 3, none⟩) hz7).trans (by simpa using hc7 3), (hW.cell (p := ⟨g7, 4, none⟩) hz7).trans (by simpa using hc7 4), (HWK2.out W hW).1, (HWK2.out W hW).2⟩
      obtain ⟨g0v, g00⟩ := HWK2.out wk (Below.refl _ _)
      go_cut [11, 12] (fun p s wx => ∃ g11 A4 c4, p = .pointer (some ⟨g11, 0, none⟩) ∧ s = .int .i64 cd ∧ wx.heap[g11]? = some (.cells #[.string q.key, .int .i64 q.ls, .string q.lp, .string q.value, .slice A4 q.recs.length c4] 26 (0, 0)) ∧ wx.ownsRow base 55 3 (.slice A4 q.recs.length c4) q.recs.length (recCells q.recs) ∧ Below wk.heap.size wk wx)
      case first =>
        as_aux_lemma =>
          go_region_held3 (fun w' => w'.cell? ⟨g9, 0, none⟩ = some (.string r.key) ∧ w'.cell? ⟨g9, 1, none⟩ = some (.int .i64 r.ls) ∧ w'.cell? ⟨g9, 2, none⟩ = some (.string r.lp) ∧ w'.cell? ⟨g9, 3, none⟩ = some (.string r.value) ∧ w'.cell? ⟨g9, 4, none⟩ = some (.slice A2 n2 c2) ∧
              w'.cell? ⟨g7, 1, none⟩ = some (.int .i64 x.start) ∧ w'.cell? ⟨g7, 3, none⟩ = some (.slice (some ⟨b, off, none⟩) nw hcap) ∧ w'.cell? ⟨g7, 4, none⟩ = some (.int .i64 (j : Int)) ∧ w'.cell? ⟨b, off + j * 2 + 1, none⟩ = some (.string y.value) ∧ w'.cell? ⟨b, off, none⟩ = some (.string y0.key))
            (first | go_keep | exact HS1.out _ hW | exact HS1.out _ (hW.alloc hW.size _) | exact HS1.out _ (below_row5 hW (Nat.le_refl _) _ _ _ _ _))
            ((first
              | (go_simp; go_at_call 66; refine HCA.out.mono ?_; rintro e w2 ⟨A4, c4, rfl, hown, hbA⟩; have HOWN := Lib.hid (own_more (base' := base) hown HBSK.out); clear hown; have hW : Below wk.heap.size wk w2 := ((Below.refl wk.heap.size wk).drew).trans hbA)
              | (go_simp; go_at_call 66; refine HCB.out.mono ?_; rintro e w2 ⟨A4, c4, rfl, hown, hbB⟩; have HOWN := Lib.hid (own_more (base' := base) hown (Nat.le_trans HBSK.out (by simp))); clear hown; have HB11 := Lib.hid (blk_keep (g := wk.heap.size) hbB HNB.out (blk_lt HNB.out)); obtain ⟨hc11, hf11⟩ := blk_read HB11.out; have hW : Below wk.heap.size wk w2 := (((Below.refl wk.heap.size wk).alloc (Nat.le_refl _) _).drew).trans (hbB.mono (by simp)))))
          all_goals
            go_wp2_with fail
            go_meet
            first
              | (have hA' := hbA; exact ⟨w2.heap.size, A4, c4, rfl, rfl, blk_new w2 _ _, HOWN.out.alloc _, (wayA hbA _).1⟩)
              | exact ⟨wk.heap.size, A4, c4, rfl, rfl, blk_row5 HB11.out _ _ _ _ _, own_row5_far HOWN.out (own_ne HOWN.out HB11.out (by decide)) _ _ _ _ _, wayB hbB _ _ _ _ _⟩
      case rest =>
        obtain ⟨g11, A4, c4, rfl, rfl, hb11, hown, hbx⟩ := hcut
        have HS2 := Lib.hid (HSK.out.below hbx)
        have HB72 := Lib.hid (blk_keep hbx HB7k.out (blk_lt HB7k.out))
        have HB11 := Lib.hid hb11
        have HOWN := Lib.hid hown
        clear hb11 hown hbx HCA HCB HNB HS1 hz7 hz9 hc7 hf7 hc9 hf9 g0v g00 HSK HB7k HB9k HRECk HROKk HWK2 HBSK HST HWO
        obtain ⟨ans, hans⟩ : ∃ ans, ans = lockAns M.rows x y0 y := ⟨_, rfl⟩
        have HAN := Lib.hid hans
        obtain ⟨fl, hfl⟩ : ∃ fl : Bool, fl = (!bt && decide (40 ≤ n)) := ⟨_, rfl⟩
        have HFLG := Lib.hid hfl
        have hansv : ans = if fl = true then 1 else cd := by
          rw [hans, HANS.out, HNR.out, hfl]
          cases bt <;> simp
        clear hans HANS hfl
        obtain ⟨wz, hwz⟩ : ∃ wz : World, wz = wc := ⟨_, rfl⟩
        subst hwz
        obtain ⟨hc2, hf2⟩ := blk_read HS2.out.b2
        have HV := Lib.hid hansv
        clear hansv
        go_upto_region 22 with (fail)
        go_cut [109] (fun t wx => t = .bool fl ∧ wz = wx)
        case first =>
          cases bt
          · by_cases h40 : 40 ≤ n
            · have d2 : decide ((40 : Int) ≤ (n : Int)) = true := decide_eq_true (by omega)
              have HEE : Hid (fl = true) := by show _ = _; rw [HFLG.out, decide_eq_true h40]; rfl
              clear h40
              go_wp2_with fail
              go_meet
              exact ⟨by rw [HEE.out], rfl⟩
            · have d2 : decide ((40 : Int) ≤ (n : Int)) = false := decide_eq_false (by omega)
              have HEE : Hid (fl = false) := by show _ = _; rw [HFLG.out, decide_eq_false h40]; rfl
              clear h40
              go_wp2_with fail
              go_meet
              exact ⟨by rw [HEE.out], rfl⟩
          · have HEE : Hid (fl = false) := HFLG.out
            go_wp2_with fail
            go_meet
            exact ⟨by rw [HEE.out], rfl⟩
        case rest =>
          obtain ⟨rfl, rfl⟩ := hcut
          go_upto_if 109 with (fail)
          go_cut [12] (fun s wx => s = .int .i64 ans ∧ wz = wx)
          case first =>
            cases fl
            · have HEE : Hid (ans = cd) := HV.out
              go_wp2_with fail
              go_meet
              exact ⟨by rw [HEE.out], rfl⟩
            · have HEE : Hid (ans = 1) := HV.out
              go_wp2_with fail
              go_meet
              exact ⟨by rw [HEE.out], rfl⟩
          case rest =>
            obtain ⟨rfl, rfl⟩ := hcut
            clear hc2 hf2
            obtain ⟨hc6, hf6⟩ := blk_read HS2.out.b6
            go_upto_region 25 with (fail)
            obtain ⟨w3, hw3⟩ : ∃ w3, w3 = wz.setCell ⟨g6, 0, none⟩ (.int .i64 ans) := ⟨_, rfl⟩
            rw [← hw3]
            have HS3 : Hid (StAt w w3 base gc m c' g2 g4 g5 g6 M A n c H H' ans 0) := by show StAt _ _ _ _ _ _ _ _ _ _ _ _ _ _ _ _ _ _; rw [hw3]; exact HS2.out.setCode HP.out ans
            have HB73 : Hid (w3.heap[g7]? = some (.cells #[.int .i64 2, .int .i64 x.start, .int .i64 x.commit, .slice (some ⟨b, off, none⟩) nw hcap, .int .i64 (j : Int)] 58 (0, 0))) := by show _ = _; rw [hw3]; exact blk_far HB72.out (p := ⟨g6, 0, none⟩) (blk_ne HB72.out HS2.out.b6 (by decide)) _
            have HB113 : Hid (w3.heap[g11]? = some (.cells #[.string q.key, .int .i64 q.ls, .string q.lp, .string q.value, .slice A4 q.recs.length c4] 26 (0, 0))) := by show _ = _; rw [hw3]; exact blk_far HB11.out (p := ⟨g6, 0, none⟩) (blk_ne HB11.out HS2.out.b6 (by decide)) _
            have HOWN3 : Hid (w3.ownsRow base 55 3 (.slice A4 q.recs.length c4) q.recs.length (recCells q.recs)) := by show World.ownsRow _ _ _ _ _ _ _; rw [hw3]; exact own_far HOWN.out (own_ne HOWN.out HS2.out.b6 (by decide)) _
            clear hw3 hc6 hf6 HS2 HB72 HB11 HOWN
            have ha0 : ans = 0 := by rw [HAN.out, ← EY0.out, ← EY.out]; exact HGN.out
            subst ha0
            have HE0 := step_lock_ok (w := M) (c := C) HWK'.out HG.out.rows.len HN0.out HP2.out HAT.out EY0.out EY.out HAN.out.symm
            rw [HQ.out] at HE0
            have HE := Lib.hid HE0
            clear HE0
            obtain ⟨hc2, hf2⟩ := blk_read HS3.out.b2
            obtain ⟨hc11, hf11⟩ := blk_read HB113.out
            have HPUT : Hid (refPutRow M.rows q = putRow M.rows q) := refPutRow_eq HG.out.rows.sorted
            go_wp2_with fail
            refine (withRow_any M.rows H q M.clock A A4 (some ⟨gc, 0, none⟩) n c c4 m c' base w3 HS3.out.at_.rows HOWN3.out (by omega) HS3.out.at_.size).mono ?_
            rw [HPUT.out]
            rintro e w5 ⟨A5, c5, H5, rfl, ho, hb⟩
            obtain ⟨R, hR⟩ : ∃ R, R = putRow M.rows q := ⟨_, rfl⟩
            rw [← hR] at ho HE ⊢
            have HO5 := Lib.hid ho
            have HBL5 := Lib.hid hb
            have HB75 := Lib.hid (blk_keep hb HB73.out (blk_lt HB73.out))
            have HB25 := Lib.hid (blk_keep hb HS3.out.b2 (blk_lt HS3.out.b2))
            clear ho hb hR hc2 hf2 hc11 hf11
            obtain ⟨hc2, hf2⟩ := blk_read HB25.out
            go_upto_region 27 with (fail)
            obtain ⟨w6, hw6⟩ : ∃ w6, w6 = ((w5.setCell ⟨g2, 0, none⟩ (.slice A5 R.length c5)).setCell ⟨g2, 1, none⟩ (.int .i64 M.clock)).setCell ⟨g2, 2, none⟩ (.slice (some ⟨gc, 0, none⟩) m c') := ⟨_, rfl⟩
            rw [← hw6]
            have HS6 : Hid (StAt w w6 base gc m c' g2 g4 g5 g6 { M with rows := R } A5 R.length c5 H5 H' 0 0) := by
              show StAt _ _ _ _ _ _ _ _ _ _ _ _ _ _ _ _ _ _
              rw [hw6]
              exact HS3.out.setWorld HP.out (HS3.out.at_.rowsTo HBL5.out (Nat.le_refl _) HO5.out) (Keeps.of_below HBL5.out (Nat.le_refl _) HS3.out.at_.size)
            have HB76 : Hid (w6.heap[g7]? = some (.cells #[.int .i64 2, .int .i64 x.start, .int .i64 x.commit, .slice (some ⟨b, off, none⟩) nw hcap, .int .i64 (j : Int)] 58 (0, 0))) := by
              show _ = _
              have hne : ¬ g7 = g2 := blk_ne HB75.out HB25.out (by decide)
              rw [hw6]; exact blk_far (blk_far (blk_far HB75.out (p := ⟨g2, 0, none⟩) hne _) (p := ⟨g2, 1, none⟩) hne _) (p := ⟨g2, 2, none⟩) hne _
            clear hw6 hc2 hf2 HB25 HB75
            obtain ⟨hc7, hf7⟩ := blk_read HB76.out
            have hwj : IntKind.i64.wrap ((j : Int) + 1) = (j : Int) + 1 := IntWalk.i64_in _ (by omega)
            go_upto_region 28 with (fail)
            obtain ⟨w7, hw7⟩ : ∃ w7, w7 = w6.setCell ⟨g7, 4, none⟩ (.int .i64 ((j : Int) + 1)) := ⟨_, rfl⟩
            rw [← hw7]
            have HS7 : Hid (StAt w w7 base gc m c' g2 g4 g5 g6 { M with rows := R } A5 R.length c5 H5 H' 0 0) := by show StAt _ _ _ _ _ _ _ _ _ _ _ _ _ _ _ _ _ _; rw [hw7]; exact HS6.out.setX HP.out HB76.out
            have HB77 : Hid (w7.heap[g7]? = some (.cells #[.int .i64 2, .int .i64 x.start, .int .i64 x.commit, .slice (some ⟨b, off, none⟩) nw hcap, .int .i64 ((j : Int) + 1)] 58 (0, 0))) := by show _ = _; rw [hw7]; exact blk_set HB76.out 4 _
            clear hw7 hc7 hf7 hwj
            obtain ⟨hc2, hf2⟩ := blk_read (show w7.heap[g2]? = some (.cells #[.slice A5 R.length c5, .int .i64 M.clock, .slice (some ⟨gc, 0, none⟩) m c'] 36 (0, 0)) from HS7.out.b2)
            obtain ⟨hc7, hf7⟩ := blk_read HB77.out
            obtain ⟨c0, c1, c2', c3, c4'⟩ := HS7.out.at_.cells HX.out HHD.out
            have hfc := HS7.out.at_.frozen
            have HPT := Lib.hid (HS7.out.at_.putSame (C := C) (x := { x with phase := 2, at_ := x.at_ + 1 }) HX.out HHD.out rfl)
            go_upto_region 28 with (fail)
            go_cut [] (fun wx => StAt w wx base gc m c' g2 g4 g5 g6 (setC { M with rows := R } C { x with phase := 2, at_ := x.at_ + 1 }) A5 R.length c5 H5 H' 0 0)
            case first =>
              go_wp2_with fail
              go_meet
              refine HS7.out.turn ?_ rfl
              have hp := HPT.out
              rw [← HNW.out] at hp
              simpa [HJ.out] using hp
            case rest =>
              have HS8 := Lib.hid hcut
              clear hcut hc2 hf2 hc7 hf7 c0 c1 c2' c3 c4' hfc HPT
              go_upto_region 31 with (fail)
              obtain ⟨hc2, hf2⟩ := blk_read (show wc.heap[g2]? = some (.cells #[.slice A5 R.length c5, .int .i64 M.clock, .slice (some ⟨gc, 0, none⟩) m c'] 36 (0, 0)) from HS8.out.b2)
              obtain ⟨hc4, hf4⟩ := blk_read HS8.out.b4
              obtain ⟨hc5, hf5⟩ := blk_read HS8.out.b5
              obtain ⟨hc6, hf6⟩ := blk_read HS8.out.b6
              obtain ⟨k1, k2, k3, k4, k5, k6, k7, k8, k9, k10⟩ := HNE.out
              go_cut [] (fun wx => wx.heap[g4]? = some (.cells #[.slice A5 R.length c5, .int .i64 M.clock, .slice (some ⟨gc, 0, none⟩) m c'] 36 (0, 0)) ∧ wx.heap[g5]? = some (.cells #[.int .i64 (0), .bool false, .string ⟨#[]⟩, .int .i64 0, .int .i64 0] 41 (0, 0)) ∧ Below w.heap.size wc wx ∧ Keeps [36, 41] w.heap.size wc wx)
              case first =>
                go_region
                all_goals
                  go_wp2_with fail
                  go_meet
                  exact ref_end HS8.out.b4 HS8.out.b5 HLE.out.1 HLE.out.2.1 HLE.out.2.2 _ _ _ _ _ _ _ _
              case rest =>
                obtain ⟨h4, h5, hb, hk⟩ := hcut
                have HRES := Lib.hid (HS8.out.ended HP.out hb hk)
                clear hb hk hc2 hf2 hc4 hf4 hc5 hf5 hc6 hf6 k1 k2 k3 k4 k5 k6 k7 k8 k9 k10
                obtain ⟨hc4, hf4⟩ := blk_read h4
                obtain ⟨hc5, hf5⟩ := blk_read h5
                clear h4 h5
                go_wp2_with fail
                refine bodyPost_ret (v := .tuple #[.agg #[.slice A5 R.length c5, .int .i64 M.clock, .slice (some ⟨gc, 0, none⟩) m c'], .agg #[.int .i64 (0), .bool false, .string ⟨#[]⟩, .int .i64 0, .int .i64 0]]) (by simp [results, Try.results35, go_sem, hc4, hc5]) rfl ?_
                rw [HE.out]
                exact ⟨A5, R.length, c5, rfl, HRES.out⟩
end Go.Proofs.Ytniomgngiiiklab
