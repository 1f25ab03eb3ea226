/- The walk of the reference's withRow: a row in its place among others. -/
import Derived.Test.YtniomgngiiiklabLookM
import Derived.Test.YtniomgngiiiklabCopiesM
import Derived.Test.YtniomgngiiiklabRows2M
import Derived.Test.YtniomgngiiiklabCommittedOfM
import Derived.Test.YtniomgngiiiklabMayWM
namespace Go.Proofs.Ytniomgngiiiklab
open Go.RowKit

theorem OwnRows.cellsAt {w : World} {base n c : Nat} {A : Option Addr} {l : List MRow} {hs : Heads} (h : OwnRows w base A n c l hs) {k : Nat} {r : MRow} {hd : Option Addr × Nat} (hr : l[k]? = some r) (hh : hs[k]? = some hd) :
    ∃ g, A = some ⟨g, 0, none⟩ ∧ g < w.heap.size ∧ w.cell? ⟨g, k * 5, none⟩ = some (.string r.key) ∧ w.cell? ⟨g, k * 5 + 1, none⟩ = some (.int .i64 r.ls) ∧ w.cell? ⟨g, k * 5 + 2, none⟩ = some (.string r.lp) ∧ w.cell? ⟨g, k * 5 + 3, none⟩ = some (.string r.value) ∧ w.cell? ⟨g, k * 5 + 4, none⟩ = some (.slice hd.1 r.recs.length hd.2) := by
  obtain ⟨g, hA, hg, _⟩ := own_cell h.2.2.1 (rowsCells_at hr hh (i := 0) rfl)
  have hc : ∀ i u, (rowCells r hd.1 r.recs.length hd.2)[i]? = some u → w.cell? ⟨g, k * 5 + i, none⟩ = some u := fun i u hu => by
    obtain ⟨g', hA', _, hc⟩ := own_cell h.2.2.1 (rowsCells_at hr hh hu)
    rw [hA] at hA'; injection hA' with hA'; injection hA' with hA'
    rw [hA']; exact hc
  exact ⟨g, hA, hg, hc 0 _ rfl, hc 1 _ rfl, hc 2 _ rfl, hc 3 _ rfl, hc 4 _ rfl⟩
/-- Rows in memory of which the array is newer than base. -/
structure NewRows (w : World) (base top : Nat) (A : Option Addr) (n c : Nat) (l : List MRow) (hs : Heads) : Prop where
  own : OwnRows w base A n c l hs
  arr : w.ownsRow top 26 5 (.slice A n c) n (rowsCells l hs)
theorem NewRows.at_ {w w' : World} {base top n c : Nat} {A : Option Addr} {l : List MRow} {hs : Heads} (h : NewRows w base top A n c l hs) (hk : ∀ g, g < w.heap.size → w'.heap[g]? = w.heap[g]?) : NewRows w' base top A n c l hs :=
  ⟨h.own.typed fun g _ _ _ hg _ => hk g (blk_lt hg), own_at h.arr hk⟩
/-- THE STEP: append of a row that lies in a block of its own. -/
theorem wpList_append_row (w : World) {ops : Array Oper} {rest : List Oper} {o : Oper} {a : Act} {Q : Exit → Act → World → Prop} (hgd : o.guard = none) (s x : Operand)
    (ho : o.op = .call { callee := .builtin .append, args := #[s, x], argTypes := #[33, 33] }) (base top : Nat) (A : Option Addr) (c n : Nat) (l : List MRow) (hs : Heads) (hs' : a.eval s = .slice A n c)
    (hown : NewRows w base top A n c l hs) (g : Nat) (hx : a.eval x = .slice (some ⟨g, 0, none⟩) 1 1) (r : MRow) (A2 : Option Addr) (c2 : Nat) (hg : w.heap[g]? = some (.cells #[.string r.key, .int .i64 r.ls, .string r.lp, .string r.value, .slice A2 r.recs.length c2] 26 (0, 0)))
    (hrec : w.ownsRow base 55 3 (.slice A2 r.recs.length c2) r.recs.length (recCells r.recs))
    (hn : n ≤ 60) (hbase : base ≤ top) (htop : top ≤ w.heap.size)
    (hK : ∀ (A' : Option Addr) (c' : Nat) (w' : World), NewRows w' base top A' (n + 1) c' (l ++ [r]) (hs ++ [(A2, c2)]) → w.grownBy w' (Value.slice A n c).ownBlock → wpList Try.prog ops Q rest (a.put o.dst (.slice A' (n + 1) c')) w') :
    wpList Try.prog ops Q (o :: rest) a w := by
  obtain ⟨i0, hi0, hz0, hz1, hz2⟩ := info_parts info_row
  refine wpList_append_own w hgd s x 33 ho top 26 i0 _ 5 80 Try.underlying33 hi0 hz0 hz1 hz2 rfl (by decide) (.slice A n c) n (rowsCells l hs) hs' hown.arr ⟨g, 0, none⟩ 1 1 (rowCells r A2 r.recs.length c2) hx rfl (news5 hg) rowCells_one (by unfold maxLen; omega) (by omega) htop ?_
  intro v' w' hown' hgr _
  obtain ⟨A', c', hv⟩ := own_slice hown'
  subst hv
  refine hK A' c' w' ⟨hown.own.add hrec hgr (own_more hown' hbase), ?_⟩ hgr
  rw [rowsCells_snoc r (A2, c2) (by have := hown.own.1; have := hown.own.2.1; omega)]
  exact hown'

set_option maxRecDepth 100000 in
set_option maxHeartbeats 4000000 in
theorem withRow_any (l : List MRow) (hs : Heads) (r : MRow) (clock : Int) (A A2 A' : Option Addr) (n c c2 n' c' base : Nat) (w : World) (h : OwnRows w base A n c l hs) (hrec : w.ownsRow base 55 3 (.slice A2 r.recs.length c2) r.recs.length (recCells r.recs)) (hn : n ≤ 50) (hb : base ≤ w.heap.size) :
    Calls Try.prog 67 #[.agg #[.slice A n c, .int .i64 clock, .slice A' n' c'], .agg #[.string r.key, .int .i64 r.ls, .string r.lp, .string r.value, .slice A2 r.recs.length c2]] w
      fun e w' => ∃ A3 c3 hs3, e = .returned (.agg #[.slice A3 (refPutRow l r).length c3, .int .i64 clock, .slice A' n' c']) ∧ OwnRows w' base A3 (refPutRow l r).length c3 (refPutRow l r) hs3 ∧ Below w.heap.size w w' := by
  have H := Lib.hid h
  have HREC := Lib.hid hrec
  have Hn := Lib.hid h.1
  have Hh := Lib.hid h.2.1
  have HBS := Lib.hid hb
  clear h hrec hb
  obtain ⟨R, hR⟩ : ∃ R, R = refPutRow l r := ⟨_, rfl⟩
  rw [← hR]
  have HR := Lib.hid hR
  clear hR
  go_enter Try.func67, Try.ntmps67
  go_upto_region 1 with (fail)
  obtain ⟨v, hv⟩ : ∃ v, v = ((w.alloc (.cells #[.slice A n c, .int .i64 clock, .slice A' n' c'] 36)).alloc (.cells #[.string r.key, .int .i64 r.ls, .string r.lp, .string r.value, .slice A2 r.recs.length c2] 26)).alloc (.cells #[.slice none 0 0, .int .i64 0, .slice none 0 0] 36) := ⟨_, rfl⟩
  rw [← hv]
  obtain ⟨hb0, hB2, hB3, hB4⟩ : Below w.heap.size w v ∧ v.heap[w.heap.size]? = some (.cells #[.slice A n c, .int .i64 clock, .slice A' n' c'] 36 (0, 0)) ∧ v.heap[w.heap.size + 1]? = some (.cells #[.string r.key, .int .i64 r.ls, .string r.lp, .string r.value, .slice A2 r.recs.length c2] 26 (0, 0)) ∧
      v.heap[w.heap.size + 1 + 1]? = some (.cells #[.slice none 0 0, .int .i64 0, .slice none 0 0] 36 (0, 0)) := by rw [hv]; exact blk_new3 w
  obtain ⟨g2, hg2⟩ : ∃ g2, g2 = w.heap.size := ⟨_, rfl⟩
  obtain ⟨g3, hg3⟩ : ∃ g3, g3 = g2 + 1 := ⟨_, rfl⟩
  obtain ⟨g4, hg4⟩ : ∃ g4, g4 = g2 + 1 + 1 := ⟨_, rfl⟩
  rw [← hg2] at hB2
  rw [← hg2, ← hg3] at hB3
  rw [← hg2, ← hg4] at hB4
  rw [← hg2, ← hg4, ← hg3]
  have HG : Hid (g2 = w.heap.size ∧ g4 = g2 + 1 + 1) := ⟨hg2, hg4⟩
  have HLv := Lib.hid hb0
  have HB2 := Lib.hid hB2
  have HB3 := Lib.hid hB3
  have HB4 := Lib.hid hB4
  have HRR : Hid (∀ W : World, Below v.heap.size v W → W.ownsRow base 55 3 (.slice A2 r.recs.length c2) r.recs.length (recCells r.recs)) := fun W hW =>
    own_at HREC.out (fun g hg => (hW.block g (Nat.lt_of_lt_of_le hg HLv.out.size)).trans (HLv.out.block g hg))
  have HBV : Hid (base ≤ v.heap.size) := Nat.le_trans HBS.out HLv.out.size
  clear hv hg2 hg3 hg4 hb0 hB2 hB3 hB4
  obtain ⟨hc2, hf2⟩ := blk_read HB2.out
  go_wp2_with fail
  clear hc2 hf2
  go_loopw [5, 6, 7] (fun s d i wr => (∃ j : Nat, j ≤ n ∧ i = .int .i64 j ∧ ∃ (A1 : Option Addr) (c1 m : Nat) (lst : List MRow) (hs1 : Heads) (dn : Bool), s = .slice A1 m c1 ∧ d = .bool dn ∧ m ≤ j + 1 ∧ (dn = false → m ≤ j) ∧ (l.take j).foldl (rowStep r) ([], false) = (lst, dn) ∧
      NewRows wr base v.heap.size A1 m c1 lst hs1) ∧ Below v.heap.size v wr) (fun _ _ i _ => n - (intOf i).toNat)
  case atStart => exact ⟨⟨0, Nat.zero_le _, rfl, none, 0, 0, [], [], false, rfl, rfl, by omega, fun _ => Nat.le_refl _, rfl, OwnRows.nil _ _, World.ownsRow_nil _ _ _ _⟩, Below.refl _ _⟩
  case round =>
    obtain ⟨⟨j, hj, rfl, A1, c1, m, lst, hs1, dn, rfl, rfl, hmj, hmd, hfold, ho⟩, hbel⟩ := hrel
    have HF := Lib.hid hfold
    have HO := Lib.hid ho
    have HL := Lib.hid hbel
    have HMJ : Hid (m ≤ j + 1 ∧ (dn = false → m ≤ j)) := ⟨hmj, hmd⟩
    clear hfold ho hbel hmj hmd
    have hzw := HL.out.size
    have HB2r := Lib.hid ((HL.out.block _ (blk_lt HB2.out)).trans HB2.out)
    have HB3r := Lib.hid ((HL.out.block _ (blk_lt HB3.out)).trans HB3.out)
    obtain ⟨hc2, hf2⟩ := blk_read HB2r.out
    obtain ⟨hc3, hf3⟩ := blk_read HB3r.out
    by_cases hlt : j < n
    · obtain ⟨y, hy⟩ : ∃ y, l[j]? = some y := ⟨l[j]'(by rw [Hn.out]; exact hlt), List.getElem?_eq_getElem _⟩
      obtain ⟨hd, hhd⟩ : ∃ hd, hs[j]? = some hd := ⟨hs[j]'(by rw [Hh.out]; exact hlt), List.getElem?_eq_getElem _⟩
      obtain ⟨g, rfl, hg, q0, q1, q2, q3, q4⟩ := H.out.cellsAt hy hhd
      have hgv : g < v.heap.size := Nat.lt_of_lt_of_le hg HLv.out.size
      have HGC : Hid (∀ W : World, Below v.heap.size v W → W.cell? ⟨g, j * 5, none⟩ = some (.string y.key) ∧ W.cell? ⟨g, j * 5 + 1, none⟩ = some (.int .i64 y.ls) ∧ W.cell? ⟨g, j * 5 + 2, none⟩ = some (.string y.lp) ∧ W.cell? ⟨g, j * 5 + 3, none⟩ = some (.string y.value) ∧ W.cell? ⟨g, j * 5 + 4, none⟩ = some (.slice hd.1 y.recs.length hd.2)) := fun W hW => by
        have hk : ∀ i, W.cell? ⟨g, i, none⟩ = w.cell? ⟨g, i, none⟩ := fun i => (hW.cell (p := ⟨g, i, none⟩) hgv).trans (HLv.out.cell (p := ⟨g, i, none⟩) hg)
        exact ⟨(hk _).trans q0, (hk _).trans q1, (hk _).trans q2, (hk _).trans q3, (hk _).trans q4⟩
      have HRY : Hid (∀ W : World, Below v.heap.size v W → W.ownsRow base 55 3 (.slice hd.1 y.recs.length hd.2) y.recs.length (recCells y.recs)) := fun W hW =>
        own_at (H.out.2.2.2 j y hd hy hhd) (fun g hg => (hW.block g (Nat.lt_of_lt_of_le hg HLv.out.size)).trans (HLv.out.block g hg))
      have HY := Lib.hid hy
      clear hy hhd q0 q1 q2 q3 q4 hg hgv
      obtain ⟨g0, g1, g2', g3', g4'⟩ := HGC.out wr HL.out
      go_upto_region 6 with (fail)
      go_cut [27] (fun t wx => t = .bool (!dn && !(ltK y.key r.key)) ∧ ∃ q, wx = wr.drewN q)
      case first =>
        cases dn
        · cases hcmp : ltK y.key r.key
          · have hc' := geq_lt hcmp
            have HCMP := Lib.hid hcmp
            clear hcmp
            go_quiet (fail)
            go_wp2_with fail
            go_meet
            exact ⟨by first | rfl | (rw [HCMP.out]; rfl), _, rfl⟩
          · have hc' := geq_lt hcmp
            have HCMP := Lib.hid hcmp
            clear hcmp
            go_quiet (fail)
            go_wp2_with fail
            go_meet
            exact ⟨by first | rfl | (rw [HCMP.out]; rfl), _, rfl⟩
        · go_quiet (fail)
          go_wp2_with fail
          go_meet
          exact ⟨by first | rfl | (rw [HCMP.out]; rfl), _, rfl⟩
      case rest =>
        obtain ⟨rfl, q, hwq⟩ := hcut
        have HOq : Hid (NewRows wc base v.heap.size A1 m c1 lst hs1) := by show NewRows _ _ _ _ _ _ _ _; rw [hwq]; exact HO.out.at_ (fun _ _ => rfl)
        have HLq : Hid (Below v.heap.size v wc) := by show Below _ _ _; rw [hwq]; exact below_drewN HL.out q
        have HB3q : Hid (wc.heap[g3]? = some (.cells #[.string r.key, .int .i64 r.ls, .string r.lp, .string r.value, .slice A2 r.recs.length c2] 26 (0, 0))) := by show _ = _; rw [hwq]; exact HB3r.out
        clear hwq hc2 hf2 hc3 hf3 g0 g1 g2' g3' g4' HO HL HB3r HB2r hzw
        have hzq := HLq.out.size
        obtain ⟨hc3, hf3⟩ := blk_read HB3q.out
        go_upto_if 27 with (fail)
        go_cut [5, 6] (fun s d wx => ∃ (A2 : Option Addr) (c2 m2 : Nat) (l2 : List MRow) (hs2 : Heads) (d2 : Bool), s = .slice A2 m2 c2 ∧ d = .bool d2 ∧ (if !dn && !ltK y.key r.key then (lst ++ [r], true) else (lst, dn)) = (l2, d2) ∧ m2 ≤ j + 1 ∧ (d2 = false → m2 ≤ j) ∧
          NewRows wx base v.heap.size A2 m2 c2 l2 hs2 ∧ Below v.heap.size v wx)
        case first =>
          cases hg : (!dn && !ltK y.key r.key)
          · have HGG := Lib.hid hg
            clear hg
            go_wp2_with fail
            go_meet
            exact ⟨A1, c1, m, lst, hs1, dn, rfl, rfl, by rw [HGG.out]; rfl, HMJ.out.1, HMJ.out.2, HOq.out, HLq.out⟩
          · have hdf : dn = false := by cases dn; (· rfl); (· cases hg)
            have hmj := HMJ.out.2 hdf
            have HGG := Lib.hid hg
            clear hg
            go_wp2_with (at_builtin; refine wpList_append_row _ rfl _ _ rfl base v.heap.size A1 c1 m lst hs1 rfl (HOq.out.at_ (fun g hg => Below.heap_alloc _ _ g hg)) wc.heap.size rfl r A2 c2 (by exact blk_new wc _ _) (by exact HRR.out _ (HLq.out.alloc hzq _)) (by omega) HBV.out (by simp; omega) ?_)
            intro A3 c3 w2 hown2 hgr2
            have HO2 := Lib.hid hown2
            have HL2 := Lib.hid ((HLq.out.alloc hzq (.cells #[.string r.key, .int .i64 r.ls, .string r.lp, .string r.value, .slice A2 r.recs.length c2] 26)).grown hgr2 (by simp; omega) (fun k hk => own_base HOq.out.arr k hk))
            clear hown2 hgr2 hc3 hf3
            go_wp2_with fail
            go_meet
            exact ⟨A3, c3, m + 1, lst ++ [r], _, true, rfl, rfl, by rw [HGG.out]; rfl, by omega, (fun h => by cases h), HO2.out, HL2.out⟩
        case rest =>
          obtain ⟨A3, c3, m2, l2, hs2, d2, rfl, rfl, hst, hb2, hd2, ho2, hbl2⟩ := hcut
          have HST := Lib.hid hst
          have HD2 := Lib.hid hd2
          have HO2 := Lib.hid ho2
          have HL2 := Lib.hid hbl2
          clear hst hd2 ho2 hbl2 hc3 hf3 hzq
          have HB3x := Lib.hid ((HL2.out.block _ (blk_lt HB3.out)).trans HB3.out)
          have HB2x := Lib.hid ((HL2.out.block _ (blk_lt HB2.out)).trans HB2.out)
          obtain ⟨hc3, hf3⟩ := blk_read HB3x.out
          obtain ⟨hc2, hf2⟩ := blk_read HB2x.out
          have hz2 := HL2.out.size
          obtain ⟨g0, g1, g2', g3', g4'⟩ := HGC.out wc HL2.out
          have hks := key_dec (a := y.key) (b := r.key)
          cases hke : decide (y.key = r.key)
          · rw [hke] at hks
            have HK : Hid (rowStep r (lst, dn) y = (l2 ++ [y], d2)) := by
              show _ = _
              unfold rowStep
              dsimp only
              rw [HST.out, if_neg (of_decide_eq_false hke)]
            clear hke
            go_upto_region 9 with (fail)
            go_quiet (fail)
            go_wp2_with (at_builtin; refine wpList_append_row _ rfl _ _ rfl base v.heap.size A3 c3 m2 l2 hs2 rfl (HO2.out.at_ (fun g hg => Below.heap_alloc _ _ g hg)) wc.heap.size rfl y hd.1 hd.2 (by exact blk_new _ _ _) (by exact HRY.out _ ((below_drewN HL2.out _).alloc hz2 _)) (by omega) HBV.out (by simp; omega) ?_)
            intro A4 c4 w3 hown3 hgr3
            have HL3 := Lib.hid (((below_drewN HL2.out nq).alloc hz2 (.cells #[.string y.key, .int .i64 y.ls, .string y.lp, .string y.value, .slice hd.1 y.recs.length hd.2] 26)).grown hgr3 (by simp; omega) (fun k hk => own_base HO2.out.arr k hk))
            have HF3 : Hid ((l.take (j + 1)).foldl (rowStep r) ([], false) = (l2 ++ [y], d2)) := by show _ = _; rw [fold_more _ HY.out, HF.out, HK.out]
            have HO3 := Lib.hid hown3
            have hb3 : d2 = false → m2 + 1 ≤ j + 1 := fun h => by have := HD2.out h; omega
            have HD3 := Lib.hid hb3
            clear hgr3 hown3 hc2 hf2 hc3 hf3 g0 g1 g2' g3' g4' hb3
            go_wp2_with fail
            go_roundw
            case rel => exact ⟨⟨j + 1, by omega, by go_num, A4, c4, m2 + 1, l2 ++ [y], _, d2, rfl, rfl, by omega, HD3.out, HF3.out, HO3.out⟩, HL3.out⟩
            case measure => simp [intOf]; omega
          · rw [hke] at hks
            have HK : Hid (rowStep r (lst, dn) y = (l2, d2)) := by
              show _ = _
              unfold rowStep
              dsimp only
              rw [HST.out, if_pos (of_decide_eq_true hke)]
            clear hke
            have HF3 : Hid ((l.take (j + 1)).foldl (rowStep r) ([], false) = (l2, d2)) := by show _ = _; rw [fold_more _ HY.out, HF.out, HK.out]
            have hb3 : d2 = false → m2 ≤ j + 1 := fun h => by have := HD2.out h; omega
            have HD3 := Lib.hid hb3
            clear hb3
            go_upto_region 9 with (fail)
            go_quiet (fail)
            clear hc2 hf2 hc3 hf3 g0 g1 g2' g3' g4'
            go_wp2_with fail
            go_roundw
            case rel => exact ⟨⟨j + 1, by omega, by go_num, A3, c3, m2, l2, hs2, d2, rfl, rfl, by omega, HD3.out, HF3.out, HO2.out.at_ (fun _ _ => rfl)⟩, below_drewN HL2.out _⟩
            case measure => simp [intOf]; omega
    · obtain rfl : j = n := by omega
      have hall : l.take j = l := List.take_of_length_le (by rw [Hn.out]; exact Nat.le_refl _)
      have HE : Hid (R = if dn then lst else lst ++ [r]) := by
        show _ = _
        rw [HR.out]
        unfold refPutRow
        rw [← hall, HF.out]
      have hmj := HMJ.out.1
      clear hall
      go_upto_if 50 with (fail)
      go_cut [5] (fun s wx => ∃ A3 c3 hs3, s = .slice A3 R.length c3 ∧ NewRows wx base v.heap.size A3 R.length c3 R hs3 ∧ Below v.heap.size v wx)
      case first =>
        cases dn
        · go_wp2_with (at_builtin; refine wpList_append_row _ rfl _ _ rfl base v.heap.size A1 c1 m lst hs1 rfl (HO.out.at_ (fun g hg => Below.heap_alloc _ _ g hg)) wr.heap.size rfl r A2 c2 (by exact blk_new _ _ _) (by exact HRR.out _ (HL.out.alloc hzw _)) (by omega) HBV.out (by simp; omega) ?_)
          intro A3 c3 w3 hown3 hgr3
          have HL3 := Lib.hid ((HL.out.alloc hzw (.cells #[.string r.key, .int .i64 r.ls, .string r.lp, .string r.value, .slice A2 r.recs.length c2] 26)).grown hgr3 (by simp; omega) (fun k hk => own_base HO.out.arr k hk))
          have HO3 := Lib.hid hown3
          have HE2 : Hid (R = lst ++ [r]) := HE.out
          have HLEN : Hid (m + 1 = R.length) := by show _ = _; rw [HE2.out]; exact hown3.own.1.symm
          clear hown3 hgr3 hc3 hf3 hc2 hf2
          go_wp2_with fail
          go_meet
          rw [← HLEN.out, HE2.out]
          exact ⟨A3, c3, _, rfl, HO3.out, HL3.out⟩
        · have HE2 : Hid (R = lst) := HE.out
          have HLEN : Hid (m = R.length) := by show _ = _; rw [HE2.out]; exact HO.out.own.1.symm
          go_wp2_with fail
          go_meet
          rw [← HLEN.out, HE2.out]
          exact ⟨A1, c1, _, rfl, HO.out, HL.out⟩
      case rest =>
        clear hc2 hf2 hc3 hf3
        obtain ⟨A3, c3, hs3, rfl, ho3, hl3⟩ := hcut
        have HO3 := Lib.hid ho3
        have HL3 := Lib.hid hl3
        have HB2x := Lib.hid ((hl3.block _ (blk_lt HB2.out)).trans HB2.out)
        have HB4x := Lib.hid ((hl3.block _ (blk_lt HB4.out)).trans HB4.out)
        clear ho3 hl3
        obtain ⟨hc2, hf2⟩ := blk_read HB2x.out
        obtain ⟨hc4, hf4⟩ := blk_read HB4x.out
        have hn42 : ¬ (g4 = g2) := by have := HG.out.2; omega
        go_wp2_with fail
        refine bodyPost_ret (v := .agg #[.slice A3 R.length c3, .int .i64 clock, .slice A' n' c']) (by simp [results, Try.results67, go_sem, hc4]) rfl ?_
        have hg2 := HG.out.1
        have hg4 := HG.out.2
        have k1 : Keeps [36] w.heap.size wc (wc.setCell ⟨g2, 0, none⟩ (.slice A3 R.length c3)) := (Keeps.refl _ _ wc).set HB2x.out (by simp) (by omega) _
        have k2 := k1.trans (Keeps.set3r (ts := [36]) (blk_far HB4x.out (p := ⟨g2, 0, none⟩) hn42 (.slice A3 R.length c3)) (by simp) (by omega) 0 1 2 (.slice A3 R.length c3) (.int .i64 clock) (.slice A' n' c'))
        exact ⟨A3, c3, hs3, rfl, HO3.out.own.typed fun g cs t _ hg ht => k2.block g cs t hg (by rcases ht with rfl | rfl <;> decide), (HLv.out.trans (HL3.out.mono HLv.out.size)).trans k2.below⟩
end Go.Proofs.Ytniomgngiiiklab

/- The walk of the reference's undo. -/
namespace Go.Proofs.Ytniomgngiiiklab
open Go.RowKit

/-- What the reference's ways at rows hand back: a world with other rows, an error number. -/
def RowsRes (w : World) (base : Nat) (clock : Int) (A' : Option Addr) (n' c' : Nat) (p : List MRow × Int) (e : Ending) (w' : World) : Prop :=
  ∃ A3 n3 c3 hs3, e = .returned (.tuple #[.agg #[.slice A3 n3 c3, .int .i64 clock, .slice A' n' c'], .int .i64 p.2]) ∧ OwnRows w' base A3 n3 c3 p.1 hs3 ∧ Below w.heap.size w w'
theorem rv_size {l : List MRow} {clock : Int} {k : ByteArray} (hv : RowsVal clock l) : (rv l k).recs.length ≤ 100 := by
  cases hr : rowAt l k with
  | none => rw [rv_none hr]; exact Nat.zero_le _
  | some r => rw [rv_some hr]; have := (hv.each r (rowAt_mem hr).1).1.len; omega

set_option maxRecDepth 100000 in
set_option maxHeartbeats 4000000 in
theorem refUndo_any (l : List MRow) (hs : Heads) (clock ck : Int) (k : ByteArray) (st : Int) (A A' : Option Addr) (n c n' c' base : Nat) (w : World) (h : OwnRows w base A n c l hs) (hv : RowsVal ck l) (hks : k.size ≤ maxLen) (hbs : base ≤ w.heap.size) :
    Calls Try.prog 70 #[.agg #[.slice A n c, .int .i64 clock, .slice A' n' c'], .string k, .int .i64 st] w (RowsRes w base clock A' n' c' (undoAt l k st)) := by
  have H := Lib.hid h
  have HV := Lib.hid hv
  have Hn := Lib.hid h.1
  have HKS := Lib.hid hks
  have HBS := Lib.hid hbs
  have hn40 := hv.len
  clear h hv hks hbs
  go_enter Try.func70, Try.ntmps70
  go_wp2_with fail
  obtain ⟨v, hv⟩ : ∃ v, v = (w.alloc (.cells #[.slice A n c, .int .i64 clock, .slice A' n' c'] 36)).alloc (.cells #[.slice none 0 0, .int .i64 0, .slice none 0 0] 36) := ⟨_, rfl⟩
  rw [← hv]
  obtain ⟨hb0, hB3, hB6⟩ : Below w.heap.size w v ∧ v.heap[w.heap.size]? = some (.cells #[.slice A n c, .int .i64 clock, .slice A' n' c'] 36 (0, 0)) ∧ v.heap[w.heap.size + 1]? = some (.cells #[.slice none 0 0, .int .i64 0, .slice none 0 0] 36 (0, 0)) := by rw [hv]; exact blk_new2 w
  obtain ⟨g3, hg3⟩ : ∃ g3, g3 = w.heap.size := ⟨_, rfl⟩
  obtain ⟨g6, hg6⟩ : ∃ g6, g6 = g3 + 1 := ⟨_, rfl⟩
  rw [← hg3] at hB3
  rw [← hg3, ← hg6] at hB6
  rw [← hg3, ← hg6]
  have HG : Hid (g3 = w.heap.size ∧ g6 = g3 + 1) := ⟨hg3, hg6⟩
  have HLv := Lib.hid hb0
  have HB3 := Lib.hid hB3
  have HB6 := Lib.hid hB6
  have HOv : Hid (OwnRows v base A n c l hs) := H.out.below hb0 (Nat.le_refl _)
  clear hv hg3 hg6 hb0 hB3 hB6
  refine (rowOf_any l clock k A A' n c n' c' v (HOv.out.ok HV.out.sized) HKS.out).mono ?_
  rintro e w1 ⟨A1, n1, c1, rfl, hok, hb⟩
  have HOK := Lib.hid hok
  have HL1 := Lib.hid (HLv.out.trans (hb.mono HLv.out.size))
  have HB31 := Lib.hid (blk_keep hb HB3.out (blk_lt HB3.out))
  have HB61 := Lib.hid (blk_keep hb HB6.out (blk_lt HB6.out))
  have HO1 : Hid (OwnRows w1 base A n c l hs) := HOv.out.below hb (Nat.le_refl _)
  have HE0 : Hid (undoAt l k st = if (rowAt l k).isNone = true ∧ 40 ≤ l.length then (l, 1) else if undoCode (rv l k) st = 0 then (putRow l (undoRow (rv l k) st), 0) else (l, undoCode (rv l k) st)) := atRow_ref hn40
  obtain ⟨bt, hbt⟩ : ∃ bt, bt = (rowAt l k).isSome := ⟨_, rfl⟩
  have HBT : Hid ((rowAt l k).isNone = !bt) := by show _ = _; rw [hbt]; cases rowAt l k <;> rfl
  rw [← hbt]
  obtain ⟨r, hr⟩ : ∃ r, r = rv l k := ⟨_, rfl⟩
  rw [← hr] at HOK HE0 ⊢
  have HR := Lib.hid hr
  clear hb hok hbt hr
  obtain ⟨hc3, hf3⟩ := blk_read HB31.out
  go_upto_region 2 with (fail)
  obtain ⟨v2, hv2⟩ : ∃ v2, v2 = w1.alloc (.cells #[.string r.key, .int .i64 r.ls, .string r.lp, .string r.value, .slice A1 n1 c1] 26) := ⟨_, rfl⟩
  rw [← hv2]
  have hbv : Below w1.heap.size w1 v2 := by rw [hv2]; exact (Below.refl _ _).alloc (Nat.le_refl _) _
  have HB8 : Hid (v2.heap[w1.heap.size]? = some (.cells #[.string r.key, .int .i64 r.ls, .string r.lp, .string r.value, .slice A1 n1 c1] 26 (0, 0))) := by show _ = _; rw [hv2]; exact blk_new _ _ _
  obtain ⟨g8, hg8⟩ : ∃ g8, g8 = w1.heap.size := ⟨_, rfl⟩
  rw [← hg8] at HB8 ⊢
  have HL2 := Lib.hid (HL1.out.trans (hbv.mono HL1.out.size))
  have HB32 := Lib.hid (blk_keep hbv HB31.out (blk_lt HB31.out))
  have HB62 := Lib.hid (blk_keep hbv HB61.out (blk_lt HB61.out))
  have HO2 : Hid (OwnRows v2 base A n c l hs) := HO1.out.below hbv (Nat.le_refl _)
  have HOK2 : Hid (RowOk v2 v2.heap.size r A1 n1 c1) := (HOK.out.below hbv (Nat.le_refl _)).more hbv.size
  clear hv2 hbv hg8 hc3 hf3
  obtain ⟨hc3, hf3⟩ := blk_read HB32.out
  obtain ⟨hc8, hf8⟩ := blk_read HB8.out
  obtain ⟨hc6, hf6⟩ := blk_read HB62.out
  have hn36 : ¬ (g3 = g6) := by have := HG.out.2; omega
  have hn63 : ¬ (g6 = g3) := by omega
  by_cases hfull : bt = false ∧ 40 ≤ n
  · obtain ⟨rfl, h40⟩ := hfull
    have hd : decide ((40 : Int) ≤ (n : Int)) = true := decide_eq_true (by omega)
    have HE : Hid (undoAt l k st = (l, 1)) := by show _ = _; rw [HE0.out, if_pos ⟨by rw [HBT.out]; rfl, by rw [Hn.out]; exact h40⟩]
    clear h40
    go_wp2_with fail
    refine bodyPost_ret (v := .tuple #[.agg #[.slice A n c, .int .i64 clock, .slice A' n' c'], .int .i64 1]) (by simp [results, Try.results70, go_sem, hc6]) rfl ?_
    have k2 : Keeps [36] w.heap.size v2 _ := Keeps.set3r (ts := [36]) HB62.out (by simp) (by have := HG.out.1; have := HG.out.2; omega) 0 1 2 (.slice A n c) (.int .i64 clock) (.slice A' n' c')
    rw [HE.out]
    exact ⟨A, n, c, hs, rfl, HO2.out.typed fun g cs t _ hg ht => k2.block g cs t hg (by rcases ht with rfl | rfl <;> decide), HL2.out.trans k2.below⟩
  have HE1 : Hid (undoAt l k st = if undoCode r st = 0 then (putRow l (undoRow r st), 0) else (l, undoCode r st)) := by
    show _ = _
    rw [HE0.out, if_neg (fun h => hfull ⟨by have := h.1; rw [HBT.out] at this; simpa using this, by rw [← Hn.out]; exact h.2⟩)]
  have hx : bt = true ∨ (bt = false ∧ decide ((40 : Int) ≤ (n : Int)) = false) := by
    cases bt
    · exact .inr ⟨rfl, decide_eq_false (fun h => hfull ⟨rfl, by omega⟩)⟩
    · exact .inl rfl
  go_cut [25] (fun t wx => t = .bool false ∧ v2 = wx)
  case first =>
    rcases hx with rfl | ⟨rfl, hd⟩
    all_goals
      go_wp2_with fail
      go_meet
      exact ⟨rfl, rfl⟩
  case rest =>
    obtain ⟨rfl, rfl⟩ := hcut
    clear hx hfull HE0
    go_wp2_with fail
    refine (undoneOf_any r st A1 n1 c1 v2 HOK2.out).mono ?_
    rintro e w3 ⟨A4, c4, rfl, hrec, hb⟩
    have HREC := Lib.hid (own_more (base' := base) hrec (Nat.le_trans HBS.out HL2.out.size))
    have HL3 := Lib.hid (HL2.out.trans (hb.mono HL2.out.size))
    have HB33 := Lib.hid (blk_keep hb HB32.out (blk_lt HB32.out))
    have HB63 := Lib.hid (blk_keep hb HB62.out (blk_lt HB62.out))
    have HO3 : Hid (OwnRows w3 base A n c l hs) := HO2.out.below hb (Nat.le_refl _)
    clear hb hrec hc3 hf3 hc8 hf8 hc6 hf6
    go_upto_region 5 with (fail)
    obtain ⟨v5, hv5⟩ : ∃ v5, v5 = w3.alloc (.cells #[.string (undoRow r st).key, .int .i64 (undoRow r st).ls, .string (undoRow r st).lp, .string (undoRow r st).value, .slice A4 (undoRow r st).recs.length c4] 26) := ⟨_, rfl⟩
    rw [← hv5]
    have hbv : Below w3.heap.size w3 v5 := by rw [hv5]; exact (Below.refl _ _).alloc (Nat.le_refl _) _
    have HB10 : Hid (v5.heap[w3.heap.size]? = some (.cells #[.string (undoRow r st).key, .int .i64 (undoRow r st).ls, .string (undoRow r st).lp, .string (undoRow r st).value, .slice A4 (undoRow r st).recs.length c4] 26 (0, 0))) := by show _ = _; rw [hv5]; exact blk_new _ _ _
    have HL5 := Lib.hid (HL3.out.trans (hbv.mono HL3.out.size))
    have HB35 := Lib.hid (blk_keep hbv HB33.out (blk_lt HB33.out))
    have HB65 := Lib.hid (blk_keep hbv HB63.out (blk_lt HB63.out))
    have HO5 : Hid (OwnRows v5 base A n c l hs) := HO3.out.below hbv (Nat.le_refl _)
    have HREC5 := Lib.hid (own_at HREC.out hbv.block)
    clear hv5 hbv
    obtain ⟨hc3, hf3⟩ := blk_read HB35.out
    obtain ⟨hc6, hf6⟩ := blk_read HB65.out
    by_cases h0 : undoCode r st = 0
    rotate_left
    · have h00 : (undoCode r st != 0) = true := by simpa using h0
      have HE : Hid (undoAt l k st = (l, undoCode r st)) := by show _ = _; rw [HE1.out, if_neg h0]
      clear h0
      go_wp2_with fail
      refine bodyPost_ret (v := .tuple #[.agg #[.slice A n c, .int .i64 clock, .slice A' n' c'], .int .i64 (undoCode r st)]) (by simp [results, Try.results70, go_sem, hc6]) rfl ?_
      have k2 : Keeps [36] w.heap.size v5 _ := Keeps.set3r (ts := [36]) HB65.out (by simp) (by have := HG.out.1; have := HG.out.2; omega) 0 1 2 (.slice A n c) (.int .i64 clock) (.slice A' n' c')
      rw [HE.out]
      exact ⟨A, n, c, hs, rfl, HO5.out.typed fun g cs t _ hg ht => k2.block g cs t hg (by rcases ht with rfl | rfl <;> decide), HL5.out.trans k2.below⟩
    · rw [h0]
      have HE : Hid (undoAt l k st = (putRow l (undoRow r st), 0)) := by show _ = _; rw [HE1.out, if_pos h0]
      clear h0
      have HPUT : Hid (refPutRow l (undoRow r st) = putRow l (undoRow r st)) := refPutRow_eq HV.out.sorted
      clear hc6 hf6
      obtain ⟨hc10, hf10⟩ := blk_read HB10.out
      go_wp2_with fail
      refine (withRow_any l hs (undoRow r st) clock A A4 A' n c c4 n' c' base v5 HO5.out HREC5.out (by have := Hn.out; omega) (Nat.le_trans HBS.out HL5.out.size)).mono ?_
      rw [HPUT.out]
      rintro e w6 ⟨A5, c5, hs5, rfl, ho, hb⟩
      have HO6 := Lib.hid ho
      have HL6 := Lib.hid (HL5.out.trans (hb.mono HL5.out.size))
      have HB66 := Lib.hid (blk_keep hb HB65.out (blk_lt HB65.out))
      clear ho hb hc3 hf3 hc10 hf10
      obtain ⟨hc6, hf6⟩ := blk_read HB66.out
      generalize putRow l (undoRow r st) = R at HE HO6 ⊢
      go_wp2_with fail
      refine bodyPost_ret (v := .tuple #[.agg #[.slice A5 R.length c5, .int .i64 clock, .slice A' n' c'], .int .i64 0]) (by simp [results, Try.results70, go_sem, hc6]) rfl ?_
      have k2 : Keeps [36] w.heap.size w6 _ := Keeps.set3r (ts := [36]) HB66.out (by simp) (by have := HG.out.1; have := HG.out.2; omega) 0 1 2 (.slice A5 R.length c5) (.int .i64 clock) (.slice A' n' c')
      rw [HE.out]
      exact ⟨A5, R.length, c5, hs5, rfl, HO6.out.typed fun g cs t _ hg ht => k2.block g cs t hg (by rcases ht with rfl | rfl <;> decide), HL6.out.trans k2.below⟩
end Go.Proofs.Ytniomgngiiiklab

/- The walk of the reference's resolved. -/
namespace Go.Proofs.Ytniomgngiiiklab
open Go.RowKit

set_option maxRecDepth 100000 in
set_option maxHeartbeats 8000000 in
theorem resolved_any (l : List MRow) (hs : Heads) (ck : Int) (k : ByteArray) (A A' : Option Addr) (n c n' c' base : Nat) (w : World) (h : OwnRows w base A n c l hs) (hv : RowsVal ck l) (hck : 0 ≤ ck) (hks : k.size ≤ maxLen) (hbs : base ≤ w.heap.size) :
    Calls Try.prog 36 #[.agg #[.slice A n c, .int .i64 ck, .slice A' n' c'], .string k] w (RowsRes w base ck A' n' c' (resolveR l k)) := by
  have H := Lib.hid h
  have HV := Lib.hid hv
  have HCK := Lib.hid hck
  have Hn := Lib.hid h.1
  have HKS := Lib.hid hks
  have HBS := Lib.hid hbs
  have HN40 := Lib.hid hv.len
  clear h hv hks hbs hck
  go_enter Try.func36, Try.ntmps36
  go_wp2_with fail
  obtain ⟨v, hv⟩ : ∃ v, v = (w.alloc (.cells #[.slice A n c, .int .i64 ck, .slice A' n' c'] 36)).alloc (.cells #[.slice none 0 0, .int .i64 0, .slice none 0 0] 36) := ⟨_, rfl⟩
  rw [← hv]
  obtain ⟨hb0, hB3, hB6⟩ : Below w.heap.size w v ∧ v.heap[w.heap.size]? = some (.cells #[.slice A n c, .int .i64 ck, .slice A' n' c'] 36 (0, 0)) ∧ v.heap[w.heap.size + 1]? = some (.cells #[.slice none 0 0, .int .i64 0, .slice none 0 0] 36 (0, 0)) := by rw [hv]; exact blk_new2 w
  obtain ⟨g3, hg3⟩ : ∃ g3, g3 = w.heap.size := ⟨_, rfl⟩
  obtain ⟨g6, hg6⟩ : ∃ g6, g6 = g3 + 1 := ⟨_, rfl⟩
  rw [← hg3] at hB3
  rw [← hg3, ← hg6] at hB6
  rw [← hg3, ← hg6]
  have HG : Hid (g3 = w.heap.size ∧ g6 = g3 + 1) := ⟨hg3, hg6⟩
  have hn36 : ¬ (g3 = g6) := by omega
  have hn63 : ¬ (g6 = g3) := by omega
  have HLv := Lib.hid hb0
  have HB3 := Lib.hid hB3
  have HB6 := Lib.hid hB6
  have HOv : Hid (OwnRows v base A n c l hs) := H.out.below hb0 (Nat.le_refl _)
  clear hv hg3 hg6 hb0 hB3 hB6
  obtain ⟨kb, hkb⟩ : ∃ kb, kb = keyB k := ⟨_, rfl⟩
  have HKB := Lib.hid hkb.symm
  clear hkb
  refine (keyMay_is HKB.out HKS.out v).mono ?_
  rintro e w0 ⟨rfl, rfl⟩
  obtain ⟨hc3, hf3⟩ := blk_read HB3.out
  cases kb
  · have HE : Hid (resolveR l k = (l, 4)) := res_form HKB.out
    obtain ⟨hc6, hf6⟩ := blk_read HB6.out
    go_wp2_with fail
    refine bodyPost_ret (v := .tuple #[.agg #[.slice A n c, .int .i64 ck, .slice A' n' c'], .int .i64 (4)]) (by simp [results, Try.results36, go_sem, hc6]) rfl ?_
    have k2 : Keeps [36] w.heap.size v _ := Keeps.set3r (ts := [36]) HB6.out (by simp) (by have := HG.out.1; have := HG.out.2; omega) 0 1 2 (.slice A n c) (.int .i64 ck) (.slice A' n' c')
    rw [HE.out]
    exact ⟨A, n, c, hs, rfl, HOv.out.typed fun g cs t _ hg ht => k2.block g cs t hg (by rcases ht with rfl | rfl <;> decide), HLv.out.trans k2.below⟩
  go_wp2_with fail
  refine (rowOf_any l ck k A A' n c n' c' v (HOv.out.ok HV.out.sized) HKS.out).mono ?_
  rintro e w1 ⟨A1, n1, c1, rfl, hok, hb⟩
  have HOK := Lib.hid hok
  have HL1 := Lib.hid (HLv.out.trans (hb.mono HLv.out.size))
  have HB31 := Lib.hid (blk_keep hb HB3.out (blk_lt HB3.out))
  have HB61 := Lib.hid (blk_keep hb HB6.out (blk_lt HB6.out))
  have HO1 : Hid (OwnRows w1 base A n c l hs) := HOv.out.below hb (Nat.le_refl _)
  obtain ⟨bt, hbt⟩ : ∃ bt, bt = (rowAt l k).isSome := ⟨_, rfl⟩
  rw [← hbt]
  obtain ⟨r, hr⟩ : ∃ r, r = rv l k := ⟨_, rfl⟩
  rw [← hr] at HOK ⊢
  have HR := Lib.hid hr
  clear hb hok hbt hr hc3 hf3
  obtain ⟨hc3, hf3⟩ := blk_read HB31.out
  go_upto_region 4 with (fail)
  obtain ⟨v2, hv2⟩ : ∃ v2, v2 = w1.alloc (.cells #[.string r.key, .int .i64 r.ls, .string r.lp, .string r.value, .slice A1 n1 c1] 26) := ⟨_, rfl⟩
  rw [← hv2]
  have hbv : Below w1.heap.size w1 v2 := by rw [hv2]; exact (Below.refl _ _).alloc (Nat.le_refl _) _
  have HB8 : Hid (v2.heap[w1.heap.size]? = some (.cells #[.string r.key, .int .i64 r.ls, .string r.lp, .string r.value, .slice A1 n1 c1] 26 (0, 0))) := by show _ = _; rw [hv2]; exact blk_new _ _ _
  obtain ⟨g8, hg8⟩ : ∃ g8, g8 = w1.heap.size := ⟨_, rfl⟩
  rw [← hg8] at HB8 ⊢
  have HL2 := Lib.hid (HL1.out.trans (hbv.mono HL1.out.size))
  have HB32 := Lib.hid (blk_keep hbv HB31.out (blk_lt HB31.out))
  have HB62 := Lib.hid (blk_keep hbv HB61.out (blk_lt HB61.out))
  have HO2 : Hid (OwnRows v2 base A n c l hs) := HO1.out.below hbv (Nat.le_refl _)
  have HOK2 : Hid (RowOk v2 v2.heap.size r A1 n1 c1) := (HOK.out.below hbv (Nat.le_refl _)).more hbv.size
  clear hv2 hbv hg8 hc3 hf3 HOK HO1 HL1 HB31 HB61 HOv HB3 HB6 HLv
  obtain ⟨hc3, hf3⟩ := blk_read HB32.out
  obtain ⟨hc8, hf8⟩ := blk_read HB8.out
  by_cases h0 : r.ls = 0
  · have HE : Hid (resolveR l k = (l, 5)) := res_none HKB.out (by rw [← HR.out]; exact h0)
    have d0 : (r.ls == 0) = true := by simpa using h0
    obtain ⟨hc6, hf6⟩ := blk_read HB62.out
    clear h0
    go_wp2_with fail
    refine bodyPost_ret (v := .tuple #[.agg #[.slice A n c, .int .i64 ck, .slice A' n' c'], .int .i64 (5)]) (by simp [results, Try.results36, go_sem, hc6]) rfl ?_
    have k2 : Keeps [36] w.heap.size v2 _ := Keeps.set3r (ts := [36]) HB62.out (by simp) (by have := HG.out.1; have := HG.out.2; omega) 0 1 2 (.slice A n c) (.int .i64 ck) (.slice A' n' c')
    rw [HE.out]
    exact ⟨A, n, c, hs, rfl, HO2.out.typed fun g cs t _ hg ht => k2.block g cs t hg (by rcases ht with rfl | rfl <;> decide), HL2.out.trans k2.below⟩
  have d0 : (r.ls == 0) = false := by simpa using h0
  have HLK := Lib.hid (res_locked HV.out (k := k) (by rw [← HR.out]; exact h0))
  rw [← HR.out] at HLK
  have H0 : Hid ((rv l k).ls ≠ 0) := by show _ ≠ _; rw [← HR.out]; exact h0
  have HPS : Hid (r.lp.size ≤ maxLen) := by show _ ≤ _; have := key_size HLK.out.2.2.1; unfold maxLen; omega
  clear h0
  go_wp2_with fail
  refine (rowOf_any l ck r.lp A A' n c n' c' v2 (HO2.out.ok HV.out.sized) HPS.out).mono ?_
  rintro e w3 ⟨A2, n2, c2, rfl, hok, hb⟩
  have HOKP := Lib.hid hok
  have HL3 := Lib.hid (HL2.out.trans (hb.mono HL2.out.size))
  have HB33 := Lib.hid (blk_keep hb HB32.out (blk_lt HB32.out))
  have HB63 := Lib.hid (blk_keep hb HB62.out (blk_lt HB62.out))
  have HB83 := Lib.hid (blk_keep hb HB8.out (blk_lt HB8.out))
  have HO3 : Hid (OwnRows w3 base A n c l hs) := HO2.out.below hb (Nat.le_refl _)
  have HOK3 : Hid (RowOk w3 w3.heap.size r A1 n1 c1) := (HOK2.out.below hb (Nat.le_refl _)).more hb.size
  obtain ⟨bp, hbp⟩ : ∃ bp, bp = (rowAt l r.lp).isSome := ⟨_, rfl⟩
  rw [← hbp]
  obtain ⟨p, hp⟩ : ∃ p, p = rv l r.lp := ⟨_, rfl⟩
  rw [← hp] at HOKP ⊢
  have HP := Lib.hid hp
  clear hb hok hbp hp hc3 hf3 hc8 hf8 d0 HL2 HB32 HB62 HB8 HO2 HOK2
  obtain ⟨hc8, hf8⟩ := blk_read HB83.out
  go_upto_region 7 with (fail)
  obtain ⟨v4, hv4⟩ : ∃ v4, v4 = w3.alloc (.cells #[.string p.key, .int .i64 p.ls, .string p.lp, .string p.value, .slice A2 n2 c2] 26) := ⟨_, rfl⟩
  rw [← hv4]
  have hbv : Below w3.heap.size w3 v4 := by rw [hv4]; exact (Below.refl _ _).alloc (Nat.le_refl _) _
  have HB9 : Hid (v4.heap[w3.heap.size]? = some (.cells #[.string p.key, .int .i64 p.ls, .string p.lp, .string p.value, .slice A2 n2 c2] 26 (0, 0))) := by show _ = _; rw [hv4]; exact blk_new _ _ _
  obtain ⟨g9, hg9⟩ : ∃ g9, g9 = w3.heap.size := ⟨_, rfl⟩
  rw [← hg9] at HB9 ⊢
  have HL4 := Lib.hid (HL3.out.trans (hbv.mono HL3.out.size))
  have HB34 := Lib.hid (blk_keep hbv HB33.out (blk_lt HB33.out))
  have HB64 := Lib.hid (blk_keep hbv HB63.out (blk_lt HB63.out))
  have HB84 := Lib.hid (blk_keep hbv HB83.out (blk_lt HB83.out))
  have HO4 : Hid (OwnRows v4 base A n c l hs) := HO3.out.below hbv (Nat.le_refl _)
  have HOK4 : Hid (RowOk v4 v4.heap.size r A1 n1 c1) := (HOK3.out.below hbv (Nat.le_refl _)).more hbv.size
  have HOKP4 : Hid (RowOk v4 v4.heap.size p A2 n2 c2) := (HOKP.out.below hbv (Nat.le_refl _)).more hbv.size
  clear hv4 hbv hg9 hc8 hf8 HL3 HB33 HB63 HB83 HO3 HOK3 HOKP
  obtain ⟨hc8, hf8⟩ := blk_read HB84.out
  obtain ⟨hc9, hf9⟩ := blk_read HB9.out
  go_wp2_with fail
  refine (statusOf_any p r.ls A2 n2 c2 v4 HOKP4.out).mono ?_
  rintro e w5 ⟨rfl, hb⟩
  have HL5 := Lib.hid (HL4.out.trans (hb.mono HL4.out.size))
  have HB35 := Lib.hid (blk_keep hb HB34.out (blk_lt HB34.out))
  have HB65 := Lib.hid (blk_keep hb HB64.out (blk_lt HB64.out))
  have HB85 := Lib.hid (blk_keep hb HB84.out (blk_lt HB84.out))
  have HO5 : Hid (OwnRows w5 base A n c l hs) := HO4.out.below hb (Nat.le_refl _)
  have HOK5 : Hid (RowOk w5 w5.heap.size r A1 n1 c1) := (HOK4.out.below hb (Nat.le_refl _)).more hb.size
  generalize hstat : statusF p r.ls = stt
  obtain ⟨s1, s2, s3⟩ := stt
  have HS := Lib.hid hstat
  have HSE : Hid (statusF (rv l (rv l k).lp) (rv l k).ls = (s1, s2, s3)) := by show _ = _; rw [← HR.out, ← HP.out]; exact hstat
  clear hstat hb hc8 hf8 hc9 hf9 HL4 HB34 HB64 HB84 HO4 HOK4 HOKP4 HB9
  unfold stVal
  dsimp only
  obtain ⟨hc3, hf3⟩ := blk_read HB35.out
  obtain ⟨hc8, hf8⟩ := blk_read HB85.out
  obtain ⟨hc6, hf6⟩ := blk_read HB65.out
  by_cases h2 : s1 = 2
  · have hrc := res_commit HV.out HKB.out H0.out (by rw [HSE.out]; exact h2)
    rw [HSE.out] at hrc
    rw [← HR.out] at hrc
    dsimp only at hrc
    obtain ⟨q, hq⟩ : ∃ q, q = commitRow r r.ls s2 := ⟨_, rfl⟩
    rw [← hq] at hrc
    have HE := Lib.hid hrc.1
    have HCA : Hid (Calls Try.prog 69 #[.agg #[.string r.key, .int .i64 r.ls, .string r.lp, .string r.value, .slice A1 n1 c1], .int .i64 r.ls, .int .i64 s2] w5 (RowRet w5 q 0)) := by
      show Calls _ _ _ _ _
      rw [← hrc.2, hq]
      exact committedOf_any r r.ls s2 A1 n1 c1 w5 HOK5.out
    subst h2
    clear hrc hq
    go_wp2_with fail
    refine HCA.out.mono ?_
    rintro e w6 ⟨A4, c4, rfl, hrec, hb⟩
    have HREC := Lib.hid (own_more (base' := base) hrec (Nat.le_trans HBS.out HL5.out.size))
    have HL6 := Lib.hid (HL5.out.trans (hb.mono HL5.out.size))
    have HB36 := Lib.hid (blk_keep hb HB35.out (blk_lt HB35.out))
    have HB66 := Lib.hid (blk_keep hb HB65.out (blk_lt HB65.out))
    have HO6 : Hid (OwnRows w6 base A n c l hs) := HO5.out.below hb (Nat.le_refl _)
    clear hb hrec hc3 hf3 hc8 hf8 hc6 hf6 HCA HL5 HB35 HB65 HB85 HO5 HOK5
    go_upto_region 10 with (fail)
    obtain ⟨v7, hv7⟩ : ∃ v7, v7 = w6.alloc (.cells #[.string q.key, .int .i64 q.ls, .string q.lp, .string q.value, .slice A4 q.recs.length c4] 26) := ⟨_, rfl⟩
    rw [← hv7]
    have hbv : Below w6.heap.size w6 v7 := by rw [hv7]; exact (Below.refl _ _).alloc (Nat.le_refl _) _
    have HB10 : Hid (v7.heap[w6.heap.size]? = some (.cells #[.string q.key, .int .i64 q.ls, .string q.lp, .string q.value, .slice A4 q.recs.length c4] 26 (0, 0))) := by show _ = _; rw [hv7]; exact blk_new _ _ _
    have HL7 := Lib.hid (HL6.out.trans (hbv.mono HL6.out.size))
    have HB37 := Lib.hid (blk_keep hbv HB36.out (blk_lt HB36.out))
    have HB67 := Lib.hid (blk_keep hbv HB66.out (blk_lt HB66.out))
    have HO7 : Hid (OwnRows v7 base A n c l hs) := HO6.out.below hbv (Nat.le_refl _)
    have HREC7 := Lib.hid (own_at HREC.out hbv.block)
    clear hv7 hbv HL6 HB36 HB66 HO6 HREC
    obtain ⟨hc3, hf3⟩ := blk_read HB37.out
    obtain ⟨hc10, hf10⟩ := blk_read HB10.out
    have HPUT : Hid (refPutRow l q = putRow l q) := refPutRow_eq HV.out.sorted
    go_wp2_with fail
    refine (withRow_any l hs q ck A A4 A' n c c4 n' c' base v7 HO7.out HREC7.out (by have := Hn.out; have := HN40.out; omega) (Nat.le_trans HBS.out HL7.out.size)).mono ?_
    rw [HPUT.out]
    rintro e w8 ⟨A5, c5, hs5, rfl, ho, hb⟩
    have HO8 := Lib.hid ho
    have HL8 := Lib.hid (HL7.out.trans (hb.mono HL7.out.size))
    have HB68 := Lib.hid (blk_keep hb HB67.out (blk_lt HB67.out))
    clear ho hb hc3 hf3 hc10 hf10
    obtain ⟨hc6, hf6⟩ := blk_read HB68.out
    generalize putRow l q = R at HE HO8 ⊢
    go_wp2_with fail
    refine bodyPost_ret (v := .tuple #[.agg #[.slice A5 R.length c5, .int .i64 ck, .slice A' n' c'], .int .i64 (0)]) (by simp [results, Try.results36, go_sem, hc6]) rfl ?_
    have k2 : Keeps [36] w.heap.size w8 _ := Keeps.set3r (ts := [36]) HB68.out (by simp) (by have := HG.out.1; have := HG.out.2; omega) 0 1 2 (.slice A5 R.length c5) (.int .i64 ck) (.slice A' n' c')
    rw [HE.out]
    exact ⟨A5, R.length, c5, hs5, rfl, HO8.out.typed fun g cs t _ hg ht => k2.block g cs t hg (by rcases ht with rfl | rfl <;> decide), HL8.out.trans k2.below⟩
  · have HRU := Lib.hid (res_undo HV.out HKB.out H0.out (by rw [HSE.out]; exact h2))
    rw [← HR.out] at HRU
    have d2 : (s1 == 2) = false := by simpa using h2
    have HV2 : Hid (RowsVal ck (undoAt l r.lp r.ls).1) := undoAt_good HCK.out HLK.out.2.2.2 HV.out
    have HUC : Hid (Calls Try.prog 70 #[.agg #[.slice A n c, .int .i64 ck, .slice A' n' c'], .string r.lp, .int .i64 r.ls] w5 (RowsRes w5 base ck A' n' c' (undoAt l r.lp r.ls))) := refUndo_any l hs ck ck r.lp r.ls A A' n c n' c' base w5 HO5.out HV.out HPS.out (Nat.le_trans HBS.out HL5.out.size)
    obtain ⟨u, hu⟩ : ∃ u, u = undoAt l r.lp r.ls := ⟨_, rfl⟩
    rw [← hu] at HRU HV2 HUC
    obtain ⟨l2, ec⟩ := u
    dsimp only at HRU HV2
    clear hu h2
    go_wp2_with fail
    refine HUC.out.mono ?_
    rintro e w6 ⟨A3, n3, c3, hs3, rfl, ho, hb⟩
    dsimp only at ho ⊢
    have HO6 := Lib.hid ho
    have HL6 := Lib.hid (HL5.out.trans (hb.mono HL5.out.size))
    have HB36 := Lib.hid (blk_keep hb HB35.out (blk_lt HB35.out))
    have HB66 := Lib.hid (blk_keep hb HB65.out (blk_lt HB65.out))
    have HB86 := Lib.hid (blk_keep hb HB85.out (blk_lt HB85.out))
    have HO6l : Hid (OwnRows w6 base A n c l hs) := HO5.out.below hb (Nat.le_refl _)
    clear ho hb hc3 hf3 hc8 hf8 hc6 hf6 HUC HL5 HB35 HB65 HB85 HO5 HOK5 d2
    go_upto_region 12 with (fail)
    obtain ⟨v7, hv7⟩ : ∃ v7, v7 = w6.alloc (.cells #[.slice A3 n3 c3, .int .i64 ck, .slice A' n' c'] 36) := ⟨_, rfl⟩
    rw [← hv7]
    have hbv : Below w6.heap.size w6 v7 := by rw [hv7]; exact (Below.refl _ _).alloc (Nat.le_refl _) _
    have HB11 : Hid (v7.heap[w6.heap.size]? = some (.cells #[.slice A3 n3 c3, .int .i64 ck, .slice A' n' c'] 36 (0, 0))) := by show _ = _; rw [hv7]; exact blk_new _ _ _
    have HL7 := Lib.hid (HL6.out.trans (hbv.mono HL6.out.size))
    have HB37 := Lib.hid (blk_keep hbv HB36.out (blk_lt HB36.out))
    have HB67 := Lib.hid (blk_keep hbv HB66.out (blk_lt HB66.out))
    have HB87 := Lib.hid (blk_keep hbv HB86.out (blk_lt HB86.out))
    have HO7 : Hid (OwnRows v7 base A3 n3 c3 l2 hs3) := HO6.out.below hbv (Nat.le_refl _)
    have HO7l : Hid (OwnRows v7 base A n c l hs) := HO6l.out.below hbv (Nat.le_refl _)
    clear hv7 hbv HL6 HB36 HB66 HB86 HO6 HO6l
    obtain ⟨hc3, hf3⟩ := blk_read HB37.out
    obtain ⟨hc8, hf8⟩ := blk_read HB87.out
    obtain ⟨hc11, hf11⟩ := blk_read HB11.out
    obtain ⟨hc6, hf6⟩ := blk_read HB67.out
    by_cases he : ec = 0
    rotate_left
    · have HE : Hid (resolveR l k = (l, ec)) := by show _ = _; rw [HRU.out, if_pos he]
      have d3 : (ec != 0) = true := by simpa using he
      clear he
      go_wp2_with fail
      refine bodyPost_ret (v := .tuple #[.agg #[.slice A n c, .int .i64 ck, .slice A' n' c'], .int .i64 (ec)]) (by simp [results, Try.results36, go_sem, hc6]) rfl ?_
      have k2 : Keeps [36] w.heap.size v7 _ := Keeps.set3r (ts := [36]) HB67.out (by simp) (by have := HG.out.1; have := HG.out.2; omega) 0 1 2 (.slice A n c) (.int .i64 ck) (.slice A' n' c')
      rw [HE.out]
      exact ⟨A, n, c, hs, rfl, HO7l.out.typed fun g cs t _ hg ht => k2.block g cs t hg (by rcases ht with rfl | rfl <;> decide), HL7.out.trans k2.below⟩
    · subst he
      have HE : Hid (resolveR l k = undoAt l2 k r.ls) := by show _ = _; rw [HRU.out, if_neg (by simp)]
      clear hc6 hf6
      go_wp2_with fail
      refine (refUndo_any l2 hs3 ck ck k r.ls A3 A' n3 c3 n' c' base v7 HO7.out HV2.out HKS.out (Nat.le_trans HBS.out HL7.out.size)).mono ?_
      generalize undoAt l2 k r.ls = u2 at HE
      obtain ⟨R, e2⟩ := u2
      rintro e w8 ⟨A5, n5, c5, hs5, rfl, ho, hb⟩
      dsimp only at ho ⊢
      have HO8 := Lib.hid ho
      have HL8 := Lib.hid (HL7.out.trans (hb.mono HL7.out.size))
      have HB68 := Lib.hid (blk_keep hb HB67.out (blk_lt HB67.out))
      clear ho hb hc3 hf3 hc8 hf8 hc11 hf11
      obtain ⟨hc6, hf6⟩ := blk_read HB68.out
      go_wp2_with fail
      refine bodyPost_ret (v := .tuple #[.agg #[.slice A5 n5 c5, .int .i64 ck, .slice A' n' c'], .int .i64 (e2)]) (by simp [results, Try.results36, go_sem, hc6]) rfl ?_
      have k2 : Keeps [36] w.heap.size w8 _ := Keeps.set3r (ts := [36]) HB68.out (by simp) (by have := HG.out.1; have := HG.out.2; omega) 0 1 2 (.slice A5 n5 c5) (.int .i64 ck) (.slice A' n' c')
      rw [HE.out]
      exact ⟨A5, n5, c5, hs5, rfl, HO8.out.typed fun g cs t _ hg ht => k2.block g cs t hg (by rcases ht with rfl | rfl <;> decide), HL8.out.trans k2.below⟩
end Go.Proofs.Ytniomgngiiiklab
