/- The walk of row.with: a record more, the lock gone if it was its own. -/
import Derived.Test.YtniomgngiiiklabDoorInsertRec
import Derived.Test.YtniomgngiiiklabDoorRep
import Derived.Test.YtniomgngiiiklabDoorFind
import Derived.Test.YtniomgngiiiklabDoorModel
import Derived.Deep.DeepCutAuto
namespace Go.Proofs.YtniomgngiiiklabDoor
open Go.RowKit

theorem insAt_fst (l : List MRec) (x : MRec) : (fstIdx (fun y : MRec => decide (x.start < y.start)) l = -1 ∧ insAt l x = l.length) ∨ fstIdx (fun y : MRec => decide (x.start < y.start)) l = (insAt l x : Int) := by
  unfold fstIdx insAt
  cases h : l.findIdx? (fun y : MRec => decide (x.start < y.start)) with
  | none => rw [List.findIdx?_eq_none_iff] at h; exact .inl ⟨rfl, List.findIdx_eq_length.2 h⟩
  | some i => exact .inr (by rw [List.findIdx?_eq_some_iff_findIdx_eq] at h; rw [h.2])
theorem insRecs_cells (l : List MRec) (x : MRec) : recCells (insRecs l x) = (recCells l).take (insAt l x * 3) ++ x.cells ++ (recCells l).drop (insAt l x * 3) := by
  have hi : insAt l x ≤ l.length := List.findIdx_le_length
  have ht : ∀ (l : List MRec) (i : Nat), recCells (l.take i) = (recCells l).take (i * 3) ∧ recCells (l.drop i) = (recCells l).drop (i * 3) := by
    intro l
    induction l with
    | nil => intro i; simp [recCells]
    | cons y l ih =>
      intro i
      match i with
      | 0 => simp [recCells]
      | i + 1 =>
        obtain ⟨h1, h2⟩ := ih i
        have e : (i + 1) * 3 = i * 3 + 1 + 1 + 1 := by omega
        have e2 : recCells (y :: l) = Value.int .i64 y.start :: Value.int .i64 y.commit :: Value.string y.value :: recCells l := rfl
        rw [e, e2]
        simp only [List.take_succ_cons, List.drop_succ_cons]
        rw [← h1, ← h2]
        exact ⟨rfl, rfl⟩
  unfold insRecs
  rw [recCells_append, show recCells (x :: l.drop (insAt l x)) = x.cells ++ recCells (l.drop (insAt l x)) from rfl, (ht l _).1, (ht l _).2, List.append_assoc]

set_option maxRecDepth 100000 in
set_option maxHeartbeats 4000000 in
theorem with_any (r : MRow) (x : MRec) (A : Option Addr) (n c : Nat) (w : World) (h : RowOk w w.heap.size r A n c) (hsm : (n + 1) * 32 ≤ 140737488351232) :
    Calls Tryd.prog 43 #[.agg #[.string r.key, .int .i64 r.ls, .string r.lp, .string r.value, .slice A n c], .agg #[.int .i64 x.start, .int .i64 x.commit, .string x.value]] w
      fun e w' => ∃ A' c', e = .returned (.agg #[.string r.key, .int .i64 (withF r x).ls, .string (withF r x).lp, .string (withF r x).value, .slice A' (n + 1) c']) ∧ w'.ownsRow w.heap.size 44 3 (.slice A' (n + 1) c') (n + 1) (recCells (insRecs r.recs x)) ∧ Below w.heap.size w w' := by
  have HR := Lib.hid h
  have Hn := Lib.hid h.recs.at_.1
  have HC := Lib.hid (insRecs_cells r.recs x)
  have HF := Lib.hid (insAt_fst r.recs x)
  have hil : insAt r.recs x ≤ n := by rw [← h.recs.at_.1]; exact List.findIdx_le_length
  clear h
  go_enter Tryd.func43, Tryd.ntmps43
  go_upto_region 1 with (fail)
  go_cut [] (fun wx => ∃ A1 c1, Below w.heap.size w wx ∧ wx.ownsRow w.heap.size 44 3 (.slice A1 n c1) n (recCells r.recs) ∧ wx.heap[w.heap.size]? = some (.cells #[.string r.key, .int .i64 r.ls, .string r.lp, .string r.value, .slice A1 n c1] 27 (0, 0)) ∧ wx.heap[w.heap.size + 1]? = some (.cells #[.int .i64 x.start, .int .i64 x.commit, .string x.value] 44 (0, 0)) ∧
    wx.heap[w.heap.size + 1 + 1]? = some (.cells #[.string ⟨#[]⟩, .int .i64 0, .string ⟨#[]⟩, .string ⟨#[]⟩, .slice none 0 0] 27 (0, 0)))
  case first =>
    go_wp2_with fail
    have hb0 := ((((Below.refl w.heap.size w).alloc (Nat.le_refl _) (.cells #[.string r.key, .int .i64 r.ls, .string r.lp, .string r.value, .slice A n c] 27)).alloc (by simp) (.cells #[.int .i64 x.start, .int .i64 x.commit, .string x.value] 44)).alloc (by simp; omega) (.cells #[.string ⟨#[]⟩, .int .i64 0, .string ⟨#[]⟩, .string ⟨#[]⟩, .slice none 0 0] 27))
    refine (rowCopy_any r A n c _ ((HR.out.below hb0 (Nat.le_refl _)).more (by simp; omega))).mono ?_
    rintro e w1 ⟨A1, c1, rfl, hown, hb⟩
    have HL := Lib.hid (hb0.trans (hb.mono (by simp; omega)))
    have HB0 := Lib.hid (blk_keep hb (g := w.heap.size) (blk_old (blk_old (blk_new w _ _) _) _) (by simp; omega))
    have HB1 := Lib.hid (blk_keep hb (g := w.heap.size + 1) (blk_old (blk_new_at (w.alloc _) _ _ (by simp)) _) (by first | (simp; done) | (simp; omega)))
    have HB2 := Lib.hid (blk_keep hb (g := w.heap.size + 1 + 1) (blk_new_at ((w.alloc _).alloc _) _ _ (by simp)) (by simp))
    have HO := Lib.hid (own_more (base' := w.heap.size) hown (by simp; omega))
    clear hb hb0 hown
    try clear hc0 hf0
    obtain ⟨hc0, hf0⟩ := blk_read HB0.out
    try clear hc1 hf1
    obtain ⟨hc1, hf1⟩ := blk_read HB1.out
    try clear hc2 hf2
    obtain ⟨hc2, hf2⟩ := blk_read HB2.out
    go_wp2_with fail
    go_meet
    exact ⟨A1, c1, below_row5 HL.out (Nat.le_refl _) _ _ _ _ _, own_row5_far HO.out (own_ne HO.out HB0.out (by decide)) _ _ _ _ _, blk_row5 HB0.out _ _ _ _ _, blk_row5_far HB1.out (by omega) _ _ _ _ _, blk_row5_far HB2.out (by omega) _ _ _ _ _⟩
  case rest =>
    obtain ⟨A1, c1, hcut⟩ := hcut
    obtain ⟨HL_n, HO_n, HB0_n, HB1_n, HB2_n⟩ := hcut
    try clear HL
    try clear HO
    try clear HB0
    try clear HB1
    try clear HB2
    have HL := Lib.hid HL_n
    have HO := Lib.hid HO_n
    have HB0 := Lib.hid HB0_n
    have HB1 := Lib.hid HB1_n
    have HB2 := Lib.hid HB2_n
    clear HL_n HO_n HB0_n HB1_n HB2_n
    try clear hc0 hf0
    obtain ⟨hc0, hf0⟩ := blk_read HB0.out
    try clear hc1 hf1
    obtain ⟨hc1, hf1⟩ := blk_read HB1.out
    try clear hc2 hf2
    obtain ⟨hc2, hf2⟩ := blk_read HB2.out
    go_upto_if 13 with (fail)
    go_cut [] (fun wx => Below w.heap.size w wx ∧ wx.ownsRow w.heap.size 44 3 (.slice A1 n c1) n (recCells r.recs) ∧ wx.heap[w.heap.size]? = some (.cells #[.string r.key, .int .i64 (withF r x).ls, .string (withF r x).lp, .string (withF r x).value, .slice A1 n c1] 27 (0, 0)) ∧ wx.heap[w.heap.size + 1]? = some (.cells #[.int .i64 x.start, .int .i64 x.commit, .string x.value] 44 (0, 0)) ∧
      wx.heap[w.heap.size + 1 + 1]? = some (.cells #[.string ⟨#[]⟩, .int .i64 0, .string ⟨#[]⟩, .string ⟨#[]⟩, .slice none 0 0] 27 (0, 0)))
    case first =>
      by_cases hl : r.ls = x.start
      · have e1 : (r.ls == x.start) = true := by simpa using hl
        have HW : Hid ((withF r x).ls = 0 ∧ (withF r x).lp = ⟨#[]⟩ ∧ (withF r x).value = ⟨#[]⟩) := by unfold withF; rw [if_pos hl]; exact ⟨rfl, rfl, rfl⟩
        clear hl
        go_wp2_with fail
        go_meet
        have hne := own_ne HO.out HB0.out (by decide)
        rw [HW.out.1, HW.out.2.1, HW.out.2.2]
        exact ⟨((HL.out.setCell (p := ⟨w.heap.size, 1, none⟩) (Nat.le_refl _) _).setCell (p := ⟨w.heap.size, 2, none⟩) (Nat.le_refl _) _).setCell (p := ⟨w.heap.size, 3, none⟩) (Nat.le_refl _) _, own_far (own_far (own_far HO.out hne _) hne _) hne _, by simpa using blk_set (blk_set (blk_set HB0.out 1 (.int .i64 0)) 2 (.string ⟨#[]⟩)) 3 (.string ⟨#[]⟩), blk_far (blk_far (blk_far HB1.out (by simp) _) (by simp) _) (by simp) _, blk_far (blk_far (blk_far HB2.out (by simp; omega) _) (by simp; omega) _) (by simp; omega) _⟩
      · have e1 : (r.ls == x.start) = false := by simpa using hl
        have HW : Hid ((withF r x).ls = r.ls ∧ (withF r x).lp = r.lp ∧ (withF r x).value = r.value) := by unfold withF; rw [if_neg hl]; exact ⟨rfl, rfl, rfl⟩
        clear hl
        go_wp2_with fail
        go_meet
        rw [HW.out.1, HW.out.2.1, HW.out.2.2]
        exact ⟨HL.out, HO.out, HB0.out, HB1.out, HB2.out⟩
    case rest =>
      obtain ⟨HL_n, HO_n, HB0_n, HB1_n, HB2_n⟩ := hcut
      try clear HL
      try clear HO
      try clear HB0
      try clear HB1
      try clear HB2
      have HL := Lib.hid HL_n
      have HO := Lib.hid HO_n
      have HB0 := Lib.hid HB0_n
      have HB1 := Lib.hid HB1_n
      have HB2 := Lib.hid HB2_n
      clear HL_n HO_n HB0_n HB1_n HB2_n
      try clear hc0 hf0
      obtain ⟨hc0, hf0⟩ := blk_read HB0.out
      try clear hc1 hf1
      obtain ⟨hc1, hf1⟩ := blk_read HB1.out
      try clear hc2 hf2
      obtain ⟨hc2, hf2⟩ := blk_read HB2.out
      have Hm : Hid (n ≤ maxLen) := by show _ ≤ _; unfold maxLen; omega
      go_wp2_with fail
      refine (idxR_any 54 (.inr (.inr rfl)) (fun y : MRec => decide (x.start < y.start)) _ A1 n c1 r.recs wc (RecsAt.of_own HO.out) Hm.out (fun y W hb => with1_any y (w.heap.size + 1) x.start W (Nat.lt_of_lt_of_le (blk_lt HB1.out) hb.size) ((hb.cell (p := ⟨w.heap.size + 1, 0, none⟩) (blk_lt HB1.out)).trans (by simpa using hc1 0)))).mono ?_
      rintro e w2 ⟨rfl, hb⟩
      first | have hold := old0 HL hb (by first | exact Nat.le_refl _ | (simp; done) | (simp; omega)) | have hold := old1 HL hb (by first | exact Nat.le_refl _ | (simp; done) | (simp; omega)) | have hold := old2 HL hb (by first | exact Nat.le_refl _ | (simp; done) | (simp; omega)) | have hold := old3 HL hb (by first | exact Nat.le_refl _ | (simp; done) | (simp; omega))
      replace HB0 := hold.blk HB0
      replace HB1 := hold.blk HB1
      replace HB2 := hold.blk HB2
      replace HO := hold.row HO
      first | replace HL := keepL0 HL hb (by first | exact Nat.le_refl _ | (have := HL.out.size; omega) | (have := HL.out.size; simp at this; omega)) (by first | exact Nat.le_refl _ | (simp; done) | (simp; omega)) | replace HL := keepL1 HL hb (by first | exact Nat.le_refl _ | (have := HL.out.size; omega) | (have := HL.out.size; simp at this; omega)) (by first | exact Nat.le_refl _ | (simp; done) | (simp; omega)) | replace HL := keepL2 HL hb (by first | exact Nat.le_refl _ | (have := HL.out.size; omega) | (have := HL.out.size; simp at this; omega)) (by first | exact Nat.le_refl _ | (simp; done) | (simp; omega)) | replace HL := keepL3 HL hb (by first | exact Nat.le_refl _ | (have := HL.out.size; omega) | (have := HL.out.size; simp at this; omega)) (by first | exact Nat.le_refl _ | (simp; done) | (simp; omega))
      clear hb hold
      try clear hc0 hf0
      obtain ⟨hc0, hf0⟩ := blk_read HB0.out
      try clear hc1 hf1
      obtain ⟨hc1, hf1⟩ := blk_read HB1.out
      try clear hc2 hf2
      obtain ⟨hc2, hf2⟩ := blk_read HB2.out
      obtain ⟨k, hk⟩ : ∃ k, k = insAt r.recs x := ⟨_, rfl⟩
      rw [← hk] at hil
      have HC' := Lib.hid HC.out
      rw [← hk] at HC'
      have hz1 := HL.out.size
      have hfst : fstIdx (fun y : MRec => decide (x.start < y.start)) r.recs = -1 ∧ k = n ∨ fstIdx (fun y : MRec => decide (x.start < y.start)) r.recs = (k : Int) := by
        rw [hk, ← Hn.out]; exact HF.out
      have HK := Lib.hid hk
      clear hk
      rcases hfst with ⟨e1, e2⟩ | e1
      all_goals
        rw [e1]
        clear e1
        try (replace e2 := e2.symm; subst e2)
        go_wp2_with fail
        refine (RecIns.insert_any A1 _ c1 w2.heap.size _ (recCells r.recs) x.cells w.heap.size _ ((old_alloc w2 _).row HO).out recCells_one hsm (by simp; omega) (by omega) rfl (fun u hu => recCells_one (rs := [x]) u (by simpa [recCells] using hu)) (blk_new w2 _ _) ?hne).mono ?_
        case hne =>
          rcases HO.out.2 with ⟨e, _⟩ | ⟨g', cap, cur, e, _, hg', _⟩
          · rw [e]; simp [Value.ownBlock]
          · rw [e]
            have := blk_lt hg'
            simp [Value.ownBlock]; omega
        rintro e w3 ⟨A2, c2, rfl, hown, hgr, _⟩
        have hne0 := own_ne HO.out HB0.out (by decide)
        have hne2 := own_ne HO.out HB2.out (by decide)
        have HL3 : Hid (Below w.heap.size w w3) := by
          refine (HL.out.alloc hz1 _).grown hgr (by simp; omega) ?_
          intro b hb'
          rcases HO.out.2 with ⟨e, _⟩ | ⟨g', cap, cur, e, hg', _⟩
          · rw [e] at hb'; simp [Value.ownBlock] at hb'
          · rw [e] at hb'; simp [Value.ownBlock] at hb'; omega
        have HB03 := Lib.hid (blk_grown (blk_old HB0.out _) hgr hne0)
        have HB23 := Lib.hid (blk_grown (blk_old HB2.out _) hgr hne2)
        have HO3 := Lib.hid hown
        clear hgr hown hne0 hne2 hc0 hf0 hc1 hf1 hc2 hf2
        obtain ⟨hc0, hf0⟩ := blk_read HB03.out
        obtain ⟨hc2, hf2⟩ := blk_read HB23.out
        have hz2 := blk_lt HB23.out
        go_wp2_with fail
        refine bodyPost_ret (v := .agg #[.string r.key, .int .i64 (withF r x).ls, .string (withF r x).lp, .string (withF r x).value, .slice A2 (n + 1) c2]) (by simp [results, Tryd.results43, go_sem, hc2]) rfl ⟨A2, c2, rfl, ?_, ?_⟩
        · rw [HC'.out]
          have hne0 := own_ne HO3.out HB03.out (by decide)
          have hne2 := own_ne HO3.out HB23.out (by decide)
          exact own_row5_far (own_far HO3.out hne0 _) hne2 _ _ _ _ _
        · exact below_row5 (HL3.out.setCell (p := ⟨w.heap.size, 4, none⟩) (Nat.le_refl _) _) (by omega) _ _ _ _ _
end Go.Proofs.YtniomgngiiiklabDoor
