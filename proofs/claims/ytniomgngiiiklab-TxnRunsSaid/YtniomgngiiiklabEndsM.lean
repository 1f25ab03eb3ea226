/- The walk of row.with: a record more, the lock gone if it was its own. -/
import Derived.Test.YtniomgngiiiklabInsertRecM
import Derived.Test.YtniomgngiiiklabGroundM
import Derived.Test.YtniomgngiiiklabRows1M
import Derived.Test.YtniomgngiiiklabPlainM
import Derived.Deep.DeepCutAuto
import Derived.Test.YtniomgngiiiklabRowsBM
namespace Go.Proofs.Ytniomgngiiiklab
open Go.RowKit

theorem insAt_fst (l : List MRec) (x : MRec) : (fstIdx (fun y : MRec => decide (x.start < y.start)) l = -1 ∧ insAt l x = l.length) ∨ fstIdx (fun y : MRec => decide (x.start < y.start)) l = (insAt l x : Int) := by
  unfold fstIdx insAt
  cases h : l.findIdx? (fun y : MRec => decide (x.start < y.start)) with
  | none => rw [List.findIdx?_eq_none_iff] at h; exact .inl ⟨rfl, List.findIdx_eq_length.2 h⟩
  | some i => exact .inr (by rw [List.findIdx?_eq_some_iff_findIdx_eq] at h; rw [h.2])
theorem insRecs_cells (l : List MRec) (x : MRec) : recCells (insRecs l x) = (recCells l).take (insAt l x * 3) ++ x.cells ++ (recCells l).drop (insAt l x * 3) := by
  have hi : insAt l x ≤ l.length := List.findIdx_le_length
  have ht : ∀ (l : List MRec) (i : Nat), recCells (l.take i) = (recCells l).take (i * 3) ∧ recCells (l.drop i) = (recCells l).drop (i * 3) := by
    intro l
    induction l with
    | nil => intro i; simp [recCells]
    | cons y l ih =>
      intro i
      match i with
      | 0 => simp [recCells]
      | i + 1 =>
        obtain ⟨h1, h2⟩ := ih i
        have e : (i + 1) * 3 = i * 3 + 1 + 1 + 1 := by omega
        have e2 : recCells (y :: l) = Value.int .i64 y.start :: Value.int .i64 y.commit :: Value.string y.value :: recCells l := rfl
        rw [e, e2]
        simp only [List.take_succ_cons, List.drop_succ_cons]
        rw [← h1, ← h2]
        exact ⟨rfl, rfl⟩
  unfold insRecs
  rw [recCells_append, show recCells (x :: l.drop (insAt l x)) = x.cells ++ recCells (l.drop (insAt l x)) from rfl, (ht l _).1, (ht l _).2, List.append_assoc]

set_option maxRecDepth 100000 in
set_option maxHeartbeats 4000000 in
theorem with_any (r : MRow) (x : MRec) (A : Option Addr) (n c : Nat) (w : World) (h : RowOk w w.heap.size r A n c) (hsm : (n + 1) * 32 ≤ 140737488351232) :
    Calls Try.prog 18 #[.agg #[.string r.key, .int .i64 r.ls, .string r.lp, .string r.value, .slice A n c], .agg #[.int .i64 x.start, .int .i64 x.commit, .string x.value]] w
      fun e w' => ∃ A' c', e = .returned (.agg #[.string r.key, .int .i64 (withF r x).ls, .string (withF r x).lp, .string (withF r x).value, .slice A' (n + 1) c']) ∧ w'.ownsRow w.heap.size 55 3 (.slice A' (n + 1) c') (n + 1) (recCells (insRecs r.recs x)) ∧ Below w.heap.size w w' := by
  have HR := Lib.hid h
  have Hn := Lib.hid h.recs.at_.1
  have HC := Lib.hid (insRecs_cells r.recs x)
  have HF := Lib.hid (insAt_fst r.recs x)
  have hil : insAt r.recs x ≤ n := by rw [← h.recs.at_.1]; exact List.findIdx_le_length
  clear h
  go_enter Try.func18, Try.ntmps18
  go_upto_region 1 with (fail)
  go_cut [] (fun wx => ∃ A1 c1, Below w.heap.size w wx ∧ wx.ownsRow w.heap.size 55 3 (.slice A1 n c1) n (recCells r.recs) ∧ wx.heap[w.heap.size]? = some (.cells #[.string r.key, .int .i64 r.ls, .string r.lp, .string r.value, .slice A1 n c1] 26 (0, 0)) ∧ wx.heap[w.heap.size + 1]? = some (.cells #[.int .i64 x.start, .int .i64 x.commit, .string x.value] 55 (0, 0)) ∧
    wx.heap[w.heap.size + 1 + 1]? = some (.cells #[.string ⟨#[]⟩, .int .i64 0, .string ⟨#[]⟩, .string ⟨#[]⟩, .slice none 0 0] 26 (0, 0)))
  case first =>
    go_wp2_with fail
    have hb0 := ((((Below.refl w.heap.size w).alloc (Nat.le_refl _) (.cells #[.string r.key, .int .i64 r.ls, .string r.lp, .string r.value, .slice A n c] 26)).alloc (by simp) (.cells #[.int .i64 x.start, .int .i64 x.commit, .string x.value] 55)).alloc (by simp; omega) (.cells #[.string ⟨#[]⟩, .int .i64 0, .string ⟨#[]⟩, .string ⟨#[]⟩, .slice none 0 0] 26))
    refine (rowCopy_any r A n c _ ((HR.out.below hb0 (Nat.le_refl _)).more (by simp; omega))).mono ?_
    rintro e w1 ⟨A1, c1, rfl, hown, hb⟩
    have HL := Lib.hid (hb0.trans (hb.mono (by simp; omega)))
    have HB0 := Lib.hid (blk_keep hb (g := w.heap.size) (blk_old (blk_old (blk_new w _ _) _) _) (by simp; omega))
    have HB1 := Lib.hid (blk_keep hb (g := w.heap.size + 1) (blk_old (blk_new_at (w.alloc _) _ _ (by simp)) _) (by first | (simp; done) | (simp; omega)))
    have HB2 := Lib.hid (blk_keep hb (g := w.heap.size + 1 + 1) (blk_new_at ((w.alloc _).alloc _) _ _ (by simp)) (by simp))
    have HO := Lib.hid (own_more (base' := w.heap.size) hown (by simp; omega))
    clear hb hb0 hown
    try clear hc0 hf0
    obtain ⟨hc0, hf0⟩ := blk_read HB0.out
    try clear hc1 hf1
    obtain ⟨hc1, hf1⟩ := blk_read HB1.out
    try clear hc2 hf2
    obtain ⟨hc2, hf2⟩ := blk_read HB2.out
    go_wp2_with fail
    go_meet
    exact ⟨A1, c1, below_row5 HL.out (Nat.le_refl _) _ _ _ _ _, own_row5_far HO.out (own_ne HO.out HB0.out (by decide)) _ _ _ _ _, blk_row5 HB0.out _ _ _ _ _, blk_row5_far HB1.out (by omega) _ _ _ _ _, blk_row5_far HB2.out (by omega) _ _ _ _ _⟩
  case rest =>
    obtain ⟨A1, c1, hcut⟩ := hcut
    obtain ⟨HL_n, HO_n, HB0_n, HB1_n, HB2_n⟩ := hcut
    try clear HL
    try clear HO
    try clear HB0
    try clear HB1
    try clear HB2
    have HL := Lib.hid HL_n
    have HO := Lib.hid HO_n
    have HB0 := Lib.hid HB0_n
    have HB1 := Lib.hid HB1_n
    have HB2 := Lib.hid HB2_n
    clear HL_n HO_n HB0_n HB1_n HB2_n
    try clear hc0 hf0
    obtain ⟨hc0, hf0⟩ := blk_read HB0.out
    try clear hc1 hf1
    obtain ⟨hc1, hf1⟩ := blk_read HB1.out
    try clear hc2 hf2
    obtain ⟨hc2, hf2⟩ := blk_read HB2.out
    go_upto_if 13 with (fail)
    go_cut [] (fun wx => Below w.heap.size w wx ∧ wx.ownsRow w.heap.size 55 3 (.slice A1 n c1) n (recCells r.recs) ∧ wx.heap[w.heap.size]? = some (.cells #[.string r.key, .int .i64 (withF r x).ls, .string (withF r x).lp, .string (withF r x).value, .slice A1 n c1] 26 (0, 0)) ∧ wx.heap[w.heap.size + 1]? = some (.cells #[.int .i64 x.start, .int .i64 x.commit, .string x.value] 55 (0, 0)) ∧
      wx.heap[w.heap.size + 1 + 1]? = some (.cells #[.string ⟨#[]⟩, .int .i64 0, .string ⟨#[]⟩, .string ⟨#[]⟩, .slice none 0 0] 26 (0, 0)))
    case first =>
      by_cases hl : r.ls = x.start
      · have e1 : (r.ls == x.start) = true := by simpa using hl
        have HW : Hid ((withF r x).ls = 0 ∧ (withF r x).lp = ⟨#[]⟩ ∧ (withF r x).value = ⟨#[]⟩) := by unfold withF; rw [if_pos hl]; exact ⟨rfl, rfl, rfl⟩
        clear hl
        go_wp2_with fail
        go_meet
        have hne := own_ne HO.out HB0.out (by decide)
        rw [HW.out.1, HW.out.2.1, HW.out.2.2]
        exact ⟨((HL.out.setCell (p := ⟨w.heap.size, 1, none⟩) (Nat.le_refl _) _).setCell (p := ⟨w.heap.size, 2, none⟩) (Nat.le_refl _) _).setCell (p := ⟨w.heap.size, 3, none⟩) (Nat.le_refl _) _, own_far (own_far (own_far HO.out hne _) hne _) hne _, by simpa using blk_set (blk_set (blk_set HB0.out 1 (.int .i64 0)) 2 (.string ⟨#[]⟩)) 3 (.string ⟨#[]⟩), blk_far (blk_far (blk_far HB1.out (by simp) _) (by simp) _) (by simp) _, blk_far (blk_far (blk_far HB2.out (by simp; omega) _) (by simp; omega) _) (by simp; omega) _⟩
      · have e1 : (r.ls == x.start) = false := by simpa using hl
        have HW : Hid ((withF r x).ls = r.ls ∧ (withF r x).lp = r.lp ∧ (withF r x).value = r.value) := by unfold withF; rw [if_neg hl]; exact ⟨rfl, rfl, rfl⟩
        clear hl
        go_wp2_with fail
        go_meet
        rw [HW.out.1, HW.out.2.1, HW.out.2.2]
        exact ⟨HL.out, HO.out, HB0.out, HB1.out, HB2.out⟩
    case rest =>
      obtain ⟨HL_n, HO_n, HB0_n, HB1_n, HB2_n⟩ := hcut
      try clear HL
      try clear HO
      try clear HB0
      try clear HB1
      try clear HB2
      have HL := Lib.hid HL_n
      have HO := Lib.hid HO_n
      have HB0 := Lib.hid HB0_n
      have HB1 := Lib.hid HB1_n
      have HB2 := Lib.hid HB2_n
      clear HL_n HO_n HB0_n HB1_n HB2_n
      try clear hc0 hf0
      obtain ⟨hc0, hf0⟩ := blk_read HB0.out
      try clear hc1 hf1
      obtain ⟨hc1, hf1⟩ := blk_read HB1.out
      try clear hc2 hf2
      obtain ⟨hc2, hf2⟩ := blk_read HB2.out
      have Hm : Hid (n ≤ maxLen) := by show _ ≤ _; unfold maxLen; omega
      go_wp2_with fail
      refine (idxR_any 43 (.inr (.inr rfl)) (fun y : MRec => decide (x.start < y.start)) _ A1 n c1 r.recs wc (RecsAt.of_own HO.out) Hm.out (fun y W hb => with1_any y (w.heap.size + 1) x.start W (Nat.lt_of_lt_of_le (blk_lt HB1.out) hb.size) ((hb.cell (p := ⟨w.heap.size + 1, 0, none⟩) (blk_lt HB1.out)).trans (by simpa using hc1 0)))).mono ?_
      rintro e w2 ⟨rfl, hb⟩
      first | have hold := old0 HL hb (by first | exact Nat.le_refl _ | (simp; done) | (simp; omega)) | have hold := old1 HL hb (by first | exact Nat.le_refl _ | (simp; done) | (simp; omega)) | have hold := old2 HL hb (by first | exact Nat.le_refl _ | (simp; done) | (simp; omega)) | have hold := old3 HL hb (by first | exact Nat.le_refl _ | (simp; done) | (simp; omega))
      replace HB0 := hold.blk HB0
      replace HB1 := hold.blk HB1
      replace HB2 := hold.blk HB2
      replace HO := hold.row HO
      first | replace HL := keepL0 HL hb (by first | exact Nat.le_refl _ | (have := HL.out.size; omega) | (have := HL.out.size; simp at this; omega)) (by first | exact Nat.le_refl _ | (simp; done) | (simp; omega)) | replace HL := keepL1 HL hb (by first | exact Nat.le_refl _ | (have := HL.out.size; omega) | (have := HL.out.size; simp at this; omega)) (by first | exact Nat.le_refl _ | (simp; done) | (simp; omega)) | replace HL := keepL2 HL hb (by first | exact Nat.le_refl _ | (have := HL.out.size; omega) | (have := HL.out.size; simp at this; omega)) (by first | exact Nat.le_refl _ | (simp; done) | (simp; omega)) | replace HL := keepL3 HL hb (by first | exact Nat.le_refl _ | (have := HL.out.size; omega) | (have := HL.out.size; simp at this; omega)) (by first | exact Nat.le_refl _ | (simp; done) | (simp; omega))
      clear hb hold
      try clear hc0 hf0
      obtain ⟨hc0, hf0⟩ := blk_read HB0.out
      try clear hc1 hf1
      obtain ⟨hc1, hf1⟩ := blk_read HB1.out
      try clear hc2 hf2
      obtain ⟨hc2, hf2⟩ := blk_read HB2.out
      obtain ⟨k, hk⟩ : ∃ k, k = insAt r.recs x := ⟨_, rfl⟩
      rw [← hk] at hil
      have HC' := Lib.hid HC.out
      rw [← hk] at HC'
      have hz1 := HL.out.size
      have hfst : fstIdx (fun y : MRec => decide (x.start < y.start)) r.recs = -1 ∧ k = n ∨ fstIdx (fun y : MRec => decide (x.start < y.start)) r.recs = (k : Int) := by
        rw [hk, ← Hn.out]; exact HF.out
      have HK := Lib.hid hk
      clear hk
      rcases hfst with ⟨e1, e2⟩ | e1
      all_goals
        rw [e1]
        clear e1
        try (replace e2 := e2.symm; subst e2)
        go_wp2_with fail
        refine (RecIns.insert_any A1 _ c1 w2.heap.size _ (recCells r.recs) x.cells w.heap.size _ ((old_alloc w2 _).row HO).out recCells_one hsm (by simp; omega) (by omega) rfl (fun u hu => recCells_one (rs := [x]) u (by simpa [recCells] using hu)) (blk_new w2 _ _) ?hne).mono ?_
        case hne =>
          rcases HO.out.2 with ⟨e, _⟩ | ⟨g', cap, cur, e, _, hg', _⟩
          · rw [e]; simp [Value.ownBlock]
          · rw [e]
            have := blk_lt hg'
            simp [Value.ownBlock]; omega
        rintro e w3 ⟨A2, c2, rfl, hown, hgr, _⟩
        have hne0 := own_ne HO.out HB0.out (by decide)
        have hne2 := own_ne HO.out HB2.out (by decide)
        have HL3 : Hid (Below w.heap.size w w3) := by
          refine (HL.out.alloc hz1 _).grown hgr (by simp; omega) ?_
          intro b hb'
          rcases HO.out.2 with ⟨e, _⟩ | ⟨g', cap, cur, e, hg', _⟩
          · rw [e] at hb'; simp [Value.ownBlock] at hb'
          · rw [e] at hb'; simp [Value.ownBlock] at hb'; omega
        have HB03 := Lib.hid (blk_grown (blk_old HB0.out _) hgr hne0)
        have HB23 := Lib.hid (blk_grown (blk_old HB2.out _) hgr hne2)
        have HO3 := Lib.hid hown
        clear hgr hown hne0 hne2 hc0 hf0 hc1 hf1 hc2 hf2
        obtain ⟨hc0, hf0⟩ := blk_read HB03.out
        obtain ⟨hc2, hf2⟩ := blk_read HB23.out
        have hz2 := blk_lt HB23.out
        go_wp2_with fail
        refine bodyPost_ret (v := .agg #[.string r.key, .int .i64 (withF r x).ls, .string (withF r x).lp, .string (withF r x).value, .slice A2 (n + 1) c2]) (by simp [results, Try.results18, go_sem, hc2]) rfl ⟨A2, c2, rfl, ?_, ?_⟩
        · rw [HC'.out]
          have hne0 := own_ne HO3.out HB03.out (by decide)
          have hne2 := own_ne HO3.out HB23.out (by decide)
          exact own_row5_far (own_far HO3.out hne0 _) hne2 _ _ _ _ _
        · exact below_row5 (HL3.out.setCell (p := ⟨w.heap.size, 4, none⟩) (Nat.le_refl _) _) (by omega) _ _ _ _ _
end Go.Proofs.Ytniomgngiiiklab

/- The walk of row.Commit. -/
namespace Go.Proofs.Ytniomgngiiiklab
open Go.RowKit

theorem rowRet_with {w w' : World} {r : MRow} {x : MRec} {A : Option Addr} {n c : Nat} {code : Int} (hn : r.recs.length = n) (ho : w'.ownsRow w.heap.size 55 3 (.slice A (n + 1) c) (n + 1) (recCells (insRecs r.recs x))) (hb : Below w.heap.size w w') :
    RowRet w (withF r x) code (.returned (.tuple #[.agg #[.string r.key, .int .i64 (withF r x).ls, .string (withF r x).lp, .string (withF r x).value, .slice A (n + 1) c], .int .i64 code])) w' := by
  have hl : (withF r x).recs.length = n + 1 := by rw [withF_recs, length_insRecs, hn]
  refine ⟨A, c, by rw [hl, withF_key], ?_, hb⟩
  rw [hl, withF_recs]
  exact ho

set_option maxRecDepth 100000 in
set_option maxHeartbeats 8000000 in
theorem commit_any (r : MRow) (st cm : Int) (A : Option Addr) (n c : Nat) (w : World) (h : RowOk w w.heap.size r A n c) :
    Calls Try.prog 63 #[.agg #[.string r.key, .int .i64 r.ls, .string r.lp, .string r.value, .slice A n c], .int .i64 st, .int .i64 cm] w (RowRet w (commitRow r st cm) (commitCode r st cm)) := by
  have HR := Lib.hid h
  have hsm := h.recs.small
  have Hn := Lib.hid h.recs.at_.1
  have Hm : Hid (n ≤ maxLen) := by show _ ≤ _; unfold maxLen; omega
  have HG : Hid ((statusF r st).2.2 = 0 → n ≤ 100) := fun h0 => by
    have := (rowB_iff.1 (statusF_good h0).1).len
    rw [Hn.out] at this; exact this
  clear h
  go_enter Try.func63, Try.ntmps63
  go_wp2_with fail
  have hb0 := (((Below.refl w.heap.size w).alloc (Nat.le_refl _) (.cells #[.string r.key, .int .i64 r.ls, .string r.lp, .string r.value, .slice A n c] 26)).alloc (by simp) (.cells #[.string ⟨#[]⟩, .int .i64 0, .string ⟨#[]⟩, .string ⟨#[]⟩, .slice none 0 0] 26))
  refine (status_any r st A n c _ ((HR.out.recs.at_.below hb0 (Nat.le_refl _)).more (by simp; omega)) Hm.out).mono ?_
  rintro e w1 ⟨rfl, hb⟩
  have HL := Lib.hid (hb0.trans (hb.mono (by simp; omega)))
  have HB0 := Lib.hid (blk_keep hb (g := w.heap.size) (blk_old (blk_new w _ _) _) (by simp; omega))
  have HB1 := Lib.hid (blk_keep hb (g := w.heap.size + 1) (blk_new_at (w.alloc _) _ _ (by simp)) (by simp))
  clear hb hb0
  have hz := blk_lt HB1.out
  try clear hc0 hf0
  obtain ⟨hc0, hf0⟩ := blk_read HB0.out
  try clear hc1 hf1
  obtain ⟨hc1, hf1⟩ := blk_read HB1.out
  obtain ⟨hs1, hs2⟩ := statusF_bounds r st
  generalize hstat : statusF r st = stt at hs1 hs2
  obtain ⟨s1, s2, s3⟩ := stt
  have HS := Lib.hid hstat
  clear hstat
  unfold stVal
  dsimp only at hs1 hs2 ⊢
  by_cases h3 : s3 = 0
  rotate_left
  · have HF : Hid (commitCode r st cm = s3) := by show _ = _; unfold commitCode; rw [HS.out]; exact if_pos h3
    have e3 : (s3 != 0) = true := by simpa using h3
    have HZ : Hid (commitRow r st cm = zeroRow) := by show _ = _; unfold commitRow; rw [HF.out, if_neg h3]
    clear h3 hs1 hs2
    go_wp2_with fail
    refine bodyPost_ret (v := .tuple #[.agg #[.string ⟨#[]⟩, .int .i64 0, .string ⟨#[]⟩, .string ⟨#[]⟩, .slice none 0 0], .int .i64 s3]) (by simp [results, Try.results63, go_sem, hc1]) rfl ?_
    rw [HF.out, HZ.out]
    exact rowRet_zero (below_row5 HL.out (by omega) _ _ _ _ _)
  subst h3
  have hn100 : n ≤ 100 := HG.out (by rw [HS.out])
  clear hs2
  by_cases hcm : cm ≤ st ∨ 1099511627776 < cm
  · have HF : Hid (commitCode r st cm = 2) := by show _ = _; unfold commitCode; rw [HS.out]; simp [hcm]
    have HZ : Hid (commitRow r st cm = zeroRow) := by show _ = _; unfold commitRow; rw [HF.out]; exact if_neg (by decide)
    clear hs1
    by_cases hc1' : cm ≤ st
    · clear hcm
      go_wp2_with fail
      refine bodyPost_ret (v := .tuple #[.agg #[.string ⟨#[]⟩, .int .i64 0, .string ⟨#[]⟩, .string ⟨#[]⟩, .slice none 0 0], .int .i64 2]) (by simp [results, Try.results63, go_sem, hc1]) rfl ?_
      rw [HF.out, HZ.out]
      exact rowRet_zero (below_row5 HL.out (by omega) _ _ _ _ _)
    · have hc2' : 1099511627776 < cm := by omega
      clear hcm
      go_wp2_with fail
      refine bodyPost_ret (v := .tuple #[.agg #[.string ⟨#[]⟩, .int .i64 0, .string ⟨#[]⟩, .string ⟨#[]⟩, .slice none 0 0], .int .i64 2]) (by simp [results, Try.results63, go_sem, hc1]) rfl ?_
      rw [HF.out, HZ.out]
      exact rowRet_zero (below_row5 HL.out (by omega) _ _ _ _ _)
  have hcA : ¬ cm ≤ st := by omega
  have hcB : ¬ 1099511627776 < cm := by omega
  have HCM := Lib.hid hcm
  clear hcm
  by_cases hg3 : s1 = 3
  · subst hg3
    have HF : Hid (commitCode r st cm = 9) := by show _ = _; unfold commitCode; rw [HS.out]; simp [HCM.out]
    have HZ : Hid (commitRow r st cm = zeroRow) := by show _ = _; unfold commitRow; rw [HF.out]; exact if_neg (by decide)
    clear hs1
    go_wp2_with fail
    refine bodyPost_ret (v := .tuple #[.agg #[.string ⟨#[]⟩, .int .i64 0, .string ⟨#[]⟩, .string ⟨#[]⟩, .slice none 0 0], .int .i64 9]) (by simp [results, Try.results63, go_sem, hc1]) rfl ?_
    rw [HF.out, HZ.out]
    exact rowRet_zero (below_row5 HL.out (by omega) _ _ _ _ _)
  have e3 : (s1 == 3) = false := by simpa using hg3
  have HG3 := Lib.hid hg3
  clear hg3
  by_cases hg1 : s1 = 1
  rotate_left
  · have e1 : (s1 != 1) = true := by simpa using hg1
    have HF : Hid (commitCode r st cm = 5) := by show _ = _; unfold commitCode; rw [HS.out]; simp [HCM.out, HG3.out, hg1]
    have HZ : Hid (commitRow r st cm = zeroRow) := by show _ = _; unfold commitRow; rw [HF.out]; exact if_neg (by decide)
    clear hs1 hg1
    go_wp2_with fail
    refine bodyPost_ret (v := .tuple #[.agg #[.string ⟨#[]⟩, .int .i64 0, .string ⟨#[]⟩, .string ⟨#[]⟩, .slice none 0 0], .int .i64 5]) (by simp [results, Try.results63, go_sem, hc1]) rfl ?_
    rw [HF.out, HZ.out]
    exact rowRet_zero (below_row5 HL.out (by omega) _ _ _ _ _)
  subst hg1
  have HF : Hid (commitCode r st cm = 0) := by show _ = _; unfold commitCode; rw [HS.out]; simp [HCM.out]
  have HZ : Hid (commitRow r st cm = withF r ⟨st, cm, r.value⟩) := by show _ = _; unfold commitRow; rw [HF.out]; rfl
  clear hs1
  go_wp2_with fail
  refine (with_any r ⟨st, cm, r.value⟩ A n c w1 ((HR.out.below HL.out (Nat.le_refl _)).more HL.out.size) (by omega)).mono ?_
  rintro e w2 ⟨A2, c2, rfl, hown, hb⟩
  have HO := Lib.hid (own_more (base' := w.heap.size) hown HL.out.size)
  clear hown
  first | have hold := old0 HL hb (by first | exact Nat.le_refl _ | (simp; done) | (simp; omega)) | have hold := old1 HL hb (by first | exact Nat.le_refl _ | (simp; done) | (simp; omega)) | have hold := old2 HL hb (by first | exact Nat.le_refl _ | (simp; done) | (simp; omega)) | have hold := old3 HL hb (by first | exact Nat.le_refl _ | (simp; done) | (simp; omega))
  replace HB0 := hold.blk HB0
  replace HB1 := hold.blk HB1
  first | replace HL := keepL0 HL hb (by first | exact Nat.le_refl _ | (have := HL.out.size; omega) | (have := HL.out.size; simp at this; omega)) (by first | exact Nat.le_refl _ | (simp; done) | (simp; omega)) | replace HL := keepL1 HL hb (by first | exact Nat.le_refl _ | (have := HL.out.size; omega) | (have := HL.out.size; simp at this; omega)) (by first | exact Nat.le_refl _ | (simp; done) | (simp; omega)) | replace HL := keepL2 HL hb (by first | exact Nat.le_refl _ | (have := HL.out.size; omega) | (have := HL.out.size; simp at this; omega)) (by first | exact Nat.le_refl _ | (simp; done) | (simp; omega)) | replace HL := keepL3 HL hb (by first | exact Nat.le_refl _ | (have := HL.out.size; omega) | (have := HL.out.size; simp at this; omega)) (by first | exact Nat.le_refl _ | (simp; done) | (simp; omega))
  clear hb hold
  try clear hc0 hf0
  obtain ⟨hc0, hf0⟩ := blk_read HB0.out
  try clear hc1 hf1
  obtain ⟨hc1, hf1⟩ := blk_read HB1.out
  have hz := blk_lt HB1.out
  go_wp2_with fail
  refine bodyPost_ret (v := .tuple #[.agg #[.string r.key, .int .i64 (withF r ⟨st, cm, r.value⟩).ls, .string (withF r ⟨st, cm, r.value⟩).lp, .string (withF r ⟨st, cm, r.value⟩).value, .slice A2 (n + 1) c2], .int .i64 0]) (by simp [results, Try.results63, go_sem, hc1]) rfl ?_
  rw [HF.out, HZ.out]
  exact rowRet_with Hn.out (own_row5_far HO.out (own_ne HO.out HB1.out (by decide)) _ _ _ _ _) (below_row5 HL.out (by omega) _ _ _ _ _)
end Go.Proofs.Ytniomgngiiiklab

/- The walk of row.Undo. -/
namespace Go.Proofs.Ytniomgngiiiklab
open Go.RowKit

theorem fullB (s1 : Int) (ls : Int) (n : Nat) : (s1 = 0 ∧ (n = 100 ∨ (ls ≠ 0 ∧ n = 99))) ∨ (s1 ≠ 0) ∨ (s1 = 0 ∧ n ≠ 100 ∧ (ls = 0 ∨ (ls ≠ 0 ∧ n ≠ 99))) := by omega

set_option maxRecDepth 100000 in
set_option maxHeartbeats 8000000 in
theorem undo_any (r : MRow) (st : Int) (A : Option Addr) (n c : Nat) (w : World) (h : RowOk w w.heap.size r A n c) :
    Calls Try.prog 7 #[.agg #[.string r.key, .int .i64 r.ls, .string r.lp, .string r.value, .slice A n c], .int .i64 st] w (RowRet w (undoRow r st) (undoCode r st)) := by
  have HR := Lib.hid h
  have hsm := h.recs.small
  have Hn := Lib.hid h.recs.at_.1
  have Hm : Hid (n ≤ maxLen) := by show _ ≤ _; unfold maxLen; omega
  have HG : Hid ((statusF r st).2.2 = 0 → n ≤ 100) := fun h0 => by
    have := (rowB_iff.1 (statusF_good h0).1).len
    rw [Hn.out] at this; exact this
  clear h
  go_enter Try.func7, Try.ntmps7
  go_wp2_with fail
  have hb0 := (((Below.refl w.heap.size w).alloc (Nat.le_refl _) (.cells #[.string r.key, .int .i64 r.ls, .string r.lp, .string r.value, .slice A n c] 26)).alloc (by simp) (.cells #[.string ⟨#[]⟩, .int .i64 0, .string ⟨#[]⟩, .string ⟨#[]⟩, .slice none 0 0] 26))
  refine (status_any r st A n c _ ((HR.out.recs.at_.below hb0 (Nat.le_refl _)).more (by simp; omega)) Hm.out).mono ?_
  rintro e w1 ⟨rfl, hb⟩
  have HL := Lib.hid (hb0.trans (hb.mono (by simp; omega)))
  have HB0 := Lib.hid (blk_keep hb (g := w.heap.size) (blk_old (blk_new w _ _) _) (by simp; omega))
  have HB1 := Lib.hid (blk_keep hb (g := w.heap.size + 1) (blk_new_at (w.alloc _) _ _ (by simp)) (by simp))
  clear hb hb0
  have hz := blk_lt HB1.out
  try clear hc0 hf0
  obtain ⟨hc0, hf0⟩ := blk_read HB0.out
  try clear hc1 hf1
  obtain ⟨hc1, hf1⟩ := blk_read HB1.out
  obtain ⟨hs1, hs2⟩ := statusF_bounds r st
  generalize hstat : statusF r st = stt at hs1 hs2
  obtain ⟨s1, s2, s3⟩ := stt
  have HS := Lib.hid hstat
  clear hstat
  unfold stVal
  dsimp only at hs1 hs2 ⊢
  by_cases h3 : s3 = 0
  rotate_left
  · have HF : Hid (undoCode r st = s3) := by show _ = _; unfold undoCode; rw [HS.out]; exact if_pos h3
    have e3 : (s3 != 0) = true := by simpa using h3
    have HZ : Hid (undoRow r st = zeroRow) := by show _ = _; unfold undoRow; rw [HF.out, if_neg h3]
    clear h3 hs1 hs2
    go_wp2_with fail
    refine bodyPost_ret (v := .tuple #[.agg #[.string ⟨#[]⟩, .int .i64 0, .string ⟨#[]⟩, .string ⟨#[]⟩, .slice none 0 0], .int .i64 s3]) (by simp [results, Try.results7, go_sem, hc1]) rfl ?_
    rw [HF.out, HZ.out]
    exact rowRet_zero (below_row5 HL.out (by omega) _ _ _ _ _)
  subst h3
  have hn100 : n ≤ 100 := HG.out (by rw [HS.out])
  clear hs2
  by_cases hg2 : s1 = 2
  · subst hg2
    have HF : Hid (undoCode r st = 6) := by show _ = _; unfold undoCode; rw [HS.out]; simp
    have HZ : Hid (undoRow r st = zeroRow) := by show _ = _; unfold undoRow; rw [HF.out]; exact if_neg (by decide)
    clear hs1
    go_wp2_with fail
    refine bodyPost_ret (v := .tuple #[.agg #[.string ⟨#[]⟩, .int .i64 0, .string ⟨#[]⟩, .string ⟨#[]⟩, .slice none 0 0], .int .i64 6]) (by simp [results, Try.results7, go_sem, hc1]) rfl ?_
    rw [HF.out, HZ.out]
    exact rowRet_zero (below_row5 HL.out (by omega) _ _ _ _ _)
  have e2 : (s1 == 2) = false := by simpa using hg2
  by_cases hg3 : s1 = 3
  · subst hg3
    have HF : Hid (undoCode r st = 0) := by show _ = _; unfold undoCode; rw [HS.out]; simp
    have HZ : Hid (undoRow r st = r) := by show _ = _; unfold undoRow; rw [HF.out, HS.out]; simp
    clear hs1 hg2
    go_wp2_with fail
    refine (rowCopy_any r A n c w1 ((HR.out.below HL.out (Nat.le_refl _)).more HL.out.size)).mono ?_
    rintro e w2 ⟨A2, c2, rfl, hown, hb⟩
    have HO := Lib.hid (own_more (base' := w.heap.size) hown HL.out.size)
    clear hown
    first | have hold := old0 HL hb (by first | exact Nat.le_refl _ | (simp; done) | (simp; omega)) | have hold := old1 HL hb (by first | exact Nat.le_refl _ | (simp; done) | (simp; omega)) | have hold := old2 HL hb (by first | exact Nat.le_refl _ | (simp; done) | (simp; omega)) | have hold := old3 HL hb (by first | exact Nat.le_refl _ | (simp; done) | (simp; omega))
    replace HB0 := hold.blk HB0
    replace HB1 := hold.blk HB1
    first | replace HL := keepL0 HL hb (by first | exact Nat.le_refl _ | (have := HL.out.size; omega) | (have := HL.out.size; simp at this; omega)) (by first | exact Nat.le_refl _ | (simp; done) | (simp; omega)) | replace HL := keepL1 HL hb (by first | exact Nat.le_refl _ | (have := HL.out.size; omega) | (have := HL.out.size; simp at this; omega)) (by first | exact Nat.le_refl _ | (simp; done) | (simp; omega)) | replace HL := keepL2 HL hb (by first | exact Nat.le_refl _ | (have := HL.out.size; omega) | (have := HL.out.size; simp at this; omega)) (by first | exact Nat.le_refl _ | (simp; done) | (simp; omega)) | replace HL := keepL3 HL hb (by first | exact Nat.le_refl _ | (have := HL.out.size; omega) | (have := HL.out.size; simp at this; omega)) (by first | exact Nat.le_refl _ | (simp; done) | (simp; omega))
    clear hb hold
    try clear hc0 hf0
    obtain ⟨hc0, hf0⟩ := blk_read HB0.out
    try clear hc1 hf1
    obtain ⟨hc1, hf1⟩ := blk_read HB1.out
    have hz := blk_lt HB1.out
    go_wp2_with fail
    refine bodyPost_ret (v := .tuple #[.agg #[.string r.key, .int .i64 r.ls, .string r.lp, .string r.value, .slice A2 n c2], .int .i64 0]) (by simp [results, Try.results7, go_sem, hc1]) rfl ?_
    rw [HF.out, HZ.out]
    refine ⟨A2, c2, by rw [Hn.out], ?_, below_row5 HL.out (by omega) _ _ _ _ _⟩
    rw [Hn.out]
    exact own_row5_far HO.out (own_ne HO.out HB1.out (by decide)) _ _ _ _ _
  have e3 : (s1 == 3) = false := by simpa using hg3
  have HG3 := Lib.hid hg3
  have HG2 := Lib.hid hg2
  clear hg3 hg2
  rcases fullB s1 r.ls n with hfull | hrest
  · have HF : Hid (undoCode r st = 1) := by show _ = _; unfold undoCode; rw [HS.out, Hn.out]; simp only [HG2.out, HG3.out]; simp; exact ⟨hfull.1, fun h => by omega⟩
    have HZ : Hid (undoRow r st = zeroRow) := by show _ = _; unfold undoRow; rw [HF.out]; exact if_neg (by decide)
    obtain ⟨h0, hf⟩ := hfull
    have e0 : (s1 == 0) = true := by simpa using h0
    have HH0 := Lib.hid h0
    clear hs1 h0
    by_cases hn : n = 100
    · have en : ((n : Int) == 100) = true := by simp; omega
      clear hf hn
      go_wp2_with fail
      refine bodyPost_ret (v := .tuple #[.agg #[.string ⟨#[]⟩, .int .i64 0, .string ⟨#[]⟩, .string ⟨#[]⟩, .slice none 0 0], .int .i64 1]) (by simp [results, Try.results7, go_sem, hc1]) rfl ?_
      rw [HF.out, HZ.out]
      exact rowRet_zero (below_row5 HL.out (by omega) _ _ _ _ _)
    · have en : ((n : Int) == 100) = false := by simp; omega
      have el : (r.ls != 0) = true := by simp; omega
      have en9 : ((n : Int) == 99) = true := by simp; omega
      clear hf hn
      go_wp2_with fail
      refine bodyPost_ret (v := .tuple #[.agg #[.string ⟨#[]⟩, .int .i64 0, .string ⟨#[]⟩, .string ⟨#[]⟩, .slice none 0 0], .int .i64 1]) (by simp [results, Try.results7, go_sem, hc1]) rfl ?_
      rw [HF.out, HZ.out]
      exact rowRet_zero (below_row5 HL.out (by omega) _ _ _ _ _)
  have HF : Hid (undoCode r st = 0) := by show _ = _; unfold undoCode; rw [HS.out, Hn.out]; simp only [HG2.out, HG3.out]; rw [if_neg (by omega), if_neg (by simp), if_neg (by simp), if_neg (by omega)]
  have HZ : Hid (undoRow r st = withF r ⟨st, 0, ⟨#[]⟩⟩) := by show _ = _; unfold undoRow; rw [HF.out, HS.out]; simp [HG3.out]
  have hs99 : (n + 1) * 32 ≤ 140737488351232 := by omega
  clear hs1 hn100
  rcases hrest with h0 | ⟨h0, hn, hl⟩
  · have e0 : (s1 == 0) = false := by simpa using h0
    clear h0
    go_wp2_with fail
    refine (with_any r ⟨st, 0, ⟨#[]⟩⟩ A n c w1 ((HR.out.below HL.out (Nat.le_refl _)).more HL.out.size) hs99).mono ?_
    rintro e w2 ⟨A2, c2, rfl, hown, hb⟩
    have HO := Lib.hid (own_more (base' := w.heap.size) hown HL.out.size)
    clear hown
    first | have hold := old0 HL hb (by first | exact Nat.le_refl _ | (simp; done) | (simp; omega)) | have hold := old1 HL hb (by first | exact Nat.le_refl _ | (simp; done) | (simp; omega)) | have hold := old2 HL hb (by first | exact Nat.le_refl _ | (simp; done) | (simp; omega)) | have hold := old3 HL hb (by first | exact Nat.le_refl _ | (simp; done) | (simp; omega))
    replace HB0 := hold.blk HB0
    replace HB1 := hold.blk HB1
    first | replace HL := keepL0 HL hb (by first | exact Nat.le_refl _ | (have := HL.out.size; omega) | (have := HL.out.size; simp at this; omega)) (by first | exact Nat.le_refl _ | (simp; done) | (simp; omega)) | replace HL := keepL1 HL hb (by first | exact Nat.le_refl _ | (have := HL.out.size; omega) | (have := HL.out.size; simp at this; omega)) (by first | exact Nat.le_refl _ | (simp; done) | (simp; omega)) | replace HL := keepL2 HL hb (by first | exact Nat.le_refl _ | (have := HL.out.size; omega) | (have := HL.out.size; simp at this; omega)) (by first | exact Nat.le_refl _ | (simp; done) | (simp; omega)) | replace HL := keepL3 HL hb (by first | exact Nat.le_refl _ | (have := HL.out.size; omega) | (have := HL.out.size; simp at this; omega)) (by first | exact Nat.le_refl _ | (simp; done) | (simp; omega))
    clear hb hold
    try clear hc0 hf0
    obtain ⟨hc0, hf0⟩ := blk_read HB0.out
    try clear hc1 hf1
    obtain ⟨hc1, hf1⟩ := blk_read HB1.out
    have hz := blk_lt HB1.out
    go_wp2_with fail
    refine bodyPost_ret (v := .tuple #[.agg #[.string r.key, .int .i64 (withF r ⟨st, 0, ⟨#[]⟩⟩).ls, .string (withF r ⟨st, 0, ⟨#[]⟩⟩).lp, .string (withF r ⟨st, 0, ⟨#[]⟩⟩).value, .slice A2 (n + 1) c2], .int .i64 0]) (by simp [results, Try.results7, go_sem, hc1]) rfl ?_
    rw [HF.out, HZ.out]
    exact rowRet_with Hn.out (own_row5_far HO.out (own_ne HO.out HB1.out (by decide)) _ _ _ _ _) (below_row5 HL.out (by omega) _ _ _ _ _)
  · have e0 : (s1 == 0) = true := by simpa using h0
    have en : ((n : Int) == 100) = false := by simp; omega
    clear h0 hn
    rcases hl with hl | ⟨hl, hn9⟩
    · have el : (r.ls != 0) = false := by simpa using hl
      clear hl
      go_wp2_with fail
      refine (with_any r ⟨st, 0, ⟨#[]⟩⟩ A n c w1 ((HR.out.below HL.out (Nat.le_refl _)).more HL.out.size) hs99).mono ?_
      rintro e w2 ⟨A2, c2, rfl, hown, hb⟩
      have HO := Lib.hid (own_more (base' := w.heap.size) hown HL.out.size)
      clear hown
      first | have hold := old0 HL hb (by first | exact Nat.le_refl _ | (simp; done) | (simp; omega)) | have hold := old1 HL hb (by first | exact Nat.le_refl _ | (simp; done) | (simp; omega)) | have hold := old2 HL hb (by first | exact Nat.le_refl _ | (simp; done) | (simp; omega)) | have hold := old3 HL hb (by first | exact Nat.le_refl _ | (simp; done) | (simp; omega))
      replace HB0 := hold.blk HB0
      replace HB1 := hold.blk HB1
      first | replace HL := keepL0 HL hb (by first | exact Nat.le_refl _ | (have := HL.out.size; omega) | (have := HL.out.size; simp at this; omega)) (by first | exact Nat.le_refl _ | (simp; done) | (simp; omega)) | replace HL := keepL1 HL hb (by first | exact Nat.le_refl _ | (have := HL.out.size; omega) | (have := HL.out.size; simp at this; omega)) (by first | exact Nat.le_refl _ | (simp; done) | (simp; omega)) | replace HL := keepL2 HL hb (by first | exact Nat.le_refl _ | (have := HL.out.size; omega) | (have := HL.out.size; simp at this; omega)) (by first | exact Nat.le_refl _ | (simp; done) | (simp; omega)) | replace HL := keepL3 HL hb (by first | exact Nat.le_refl _ | (have := HL.out.size; omega) | (have := HL.out.size; simp at this; omega)) (by first | exact Nat.le_refl _ | (simp; done) | (simp; omega))
      clear hb hold
      try clear hc0 hf0
      obtain ⟨hc0, hf0⟩ := blk_read HB0.out
      try clear hc1 hf1
      obtain ⟨hc1, hf1⟩ := blk_read HB1.out
      have hz := blk_lt HB1.out
      go_wp2_with fail
      refine bodyPost_ret (v := .tuple #[.agg #[.string r.key, .int .i64 (withF r ⟨st, 0, ⟨#[]⟩⟩).ls, .string (withF r ⟨st, 0, ⟨#[]⟩⟩).lp, .string (withF r ⟨st, 0, ⟨#[]⟩⟩).value, .slice A2 (n + 1) c2], .int .i64 0]) (by simp [results, Try.results7, go_sem, hc1]) rfl ?_
      rw [HF.out, HZ.out]
      exact rowRet_with Hn.out (own_row5_far HO.out (own_ne HO.out HB1.out (by decide)) _ _ _ _ _) (below_row5 HL.out (by omega) _ _ _ _ _)
    · have el : (r.ls != 0) = true := by simpa using hl
      have en9 : ((n : Int) == 99) = false := by simp; omega
      clear hl hn9
      go_wp2_with fail
      refine (with_any r ⟨st, 0, ⟨#[]⟩⟩ A n c w1 ((HR.out.below HL.out (Nat.le_refl _)).more HL.out.size) hs99).mono ?_
      rintro e w2 ⟨A2, c2, rfl, hown, hb⟩
      have HO := Lib.hid (own_more (base' := w.heap.size) hown HL.out.size)
      clear hown
      first | have hold := old0 HL hb (by first | exact Nat.le_refl _ | (simp; done) | (simp; omega)) | have hold := old1 HL hb (by first | exact Nat.le_refl _ | (simp; done) | (simp; omega)) | have hold := old2 HL hb (by first | exact Nat.le_refl _ | (simp; done) | (simp; omega)) | have hold := old3 HL hb (by first | exact Nat.le_refl _ | (simp; done) | (simp; omega))
      replace HB0 := hold.blk HB0
      replace HB1 := hold.blk HB1
      first | replace HL := keepL0 HL hb (by first | exact Nat.le_refl _ | (have := HL.out.size; omega) | (have := HL.out.size; simp at this; omega)) (by first | exact Nat.le_refl _ | (simp; done) | (simp; omega)) | replace HL := keepL1 HL hb (by first | exact Nat.le_refl _ | (have := HL.out.size; omega) | (have := HL.out.size; simp at this; omega)) (by first | exact Nat.le_refl _ | (simp; done) | (simp; omega)) | replace HL := keepL2 HL hb (by first | exact Nat.le_refl _ | (have := HL.out.size; omega) | (have := HL.out.size; simp at this; omega)) (by first | exact Nat.le_refl _ | (simp; done) | (simp; omega)) | replace HL := keepL3 HL hb (by first | exact Nat.le_refl _ | (have := HL.out.size; omega) | (have := HL.out.size; simp at this; omega)) (by first | exact Nat.le_refl _ | (simp; done) | (simp; omega))
      clear hb hold
      try clear hc0 hf0
      obtain ⟨hc0, hf0⟩ := blk_read HB0.out
      try clear hc1 hf1
      obtain ⟨hc1, hf1⟩ := blk_read HB1.out
      have hz := blk_lt HB1.out
      go_wp2_with fail
      refine bodyPost_ret (v := .tuple #[.agg #[.string r.key, .int .i64 (withF r ⟨st, 0, ⟨#[]⟩⟩).ls, .string (withF r ⟨st, 0, ⟨#[]⟩⟩).lp, .string (withF r ⟨st, 0, ⟨#[]⟩⟩).value, .slice A2 (n + 1) c2], .int .i64 0]) (by simp [results, Try.results7, go_sem, hc1]) rfl ?_
      rw [HF.out, HZ.out]
      exact rowRet_with Hn.out (own_row5_far HO.out (own_ne HO.out HB1.out (by decide)) _ _ _ _ _) (below_row5 HL.out (by omega) _ _ _ _ _)
end Go.Proofs.Ytniomgngiiiklab
