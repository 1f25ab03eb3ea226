/- The walk of the reference's ended: a row with a record more, put together anew. -/
import Derived.Test.YtniomgngiiiklabCopiesM
import Derived.Test.YtniomgngiiiklabGroundM
import Derived.Test.YtniomgngiiiklabPlainM
import Derived.Deep.DeepCutAuto
import Derived.Deep.RegionLaw
namespace Go.Proofs.Ytniomgngiiiklab
open Go.RowKit

def loRecs (l : List MRec) (s : Int) : List MRec := l.filter fun y => decide (y.start < s)
def hiRecs (l : List MRec) (s : Int) : List MRec := l.filter fun y => decide (s < y.start)
theorem loRecs_snoc {l : List MRec} {k : Nat} {y : MRec} {s : Int} (h : l[k]? = some y) : loRecs (l.take (k + 1)) s = loRecs (l.take k) s ++ if y.start < s then [y] else [] := by
  obtain ⟨hk, rfl⟩ := List.getElem?_eq_some_iff.1 h
  unfold loRecs
  rw [List.take_succ_eq_append_getElem hk, List.filter_append]
  congr 1
  by_cases hh : l[k].start < s <;> simp [hh]
theorem hiRecs_snoc {l : List MRec} {k : Nat} {y : MRec} {s : Int} (h : l[k]? = some y) : hiRecs (l.take (k + 1)) s = hiRecs (l.take k) s ++ if s < y.start then [y] else [] := by
  obtain ⟨hk, rfl⟩ := List.getElem?_eq_some_iff.1 h
  unfold hiRecs
  rw [List.take_succ_eq_append_getElem hk, List.filter_append]
  congr 1
  by_cases hh : s < l[k].start <;> simp [hh]
theorem loRecs_le (l : List MRec) (s : Int) : (loRecs l s).length ≤ l.length := List.length_filter_le _ _
theorem hiRecs_le (l : List MRec) (s : Int) : (hiRecs l s).length ≤ l.length := List.length_filter_le _ _
theorem recCells_snoc (l : List MRec) (x : MRec) : recCells (l ++ [x]) = recCells l ++ x.cells := by rw [recCells_append]; simp [recCells]
theorem own_add {w : World} {base : Nat} {e : TypeId} {A : Option Addr} {m c : Nat} {l : List MRec} {x : MRec} (h : w.ownsRow base e 3 (.slice A (l.length + m) c) (l.length + m) (recCells l ++ x.cells)) (hm : m = 1) : w.ownsRow base e 3 (.slice A (l ++ [x]).length c) (l ++ [x]).length (recCells (l ++ [x])) := by
  subst hm
  rw [recCells_snoc, List.length_append]
  exact h

set_option maxRecDepth 100000 in
set_option maxHeartbeats 8000000 in
theorem ended_any (r : MRow) (x : MRec) (A : Option Addr) (n c : Nat) (w : World) (h : RowOk w w.heap.size r A n c) (hn : n ≤ 100) :
    Calls Try.prog 20 #[.agg #[.string r.key, .int .i64 r.ls, .string r.lp, .string r.value, .slice A n c], .agg #[.int .i64 x.start, .int .i64 x.commit, .string x.value]] w
      fun e w' => ∃ A' n' c', e = .returned (.agg #[.string r.key, .int .i64 (withF r x).ls, .string (withF r x).lp, .string (withF r x).value, .slice A' n' c']) ∧ w'.ownsRow w.heap.size 55 3 (.slice A' n' c') n' (recCells (loRecs r.recs x.start ++ x :: hiRecs r.recs x.start)) ∧ Below w.heap.size w w' := by
  obtain ⟨i0, hi0, hz0, hz1, hz2⟩ := info_parts info_rec
  have HR := Lib.hid h
  have Hn := Lib.hid h.recs.at_.1
  clear h
  go_enter Try.func20, Try.ntmps20
  go_upto_if 20 with (fail)
  go_cut [] (fun wx => Below w.heap.size w wx ∧ wx.heap[w.heap.size]? = some (.cells #[.string r.key, .int .i64 r.ls, .string r.lp, .string r.value, .slice A n c] 26 (0, 0)) ∧ wx.heap[w.heap.size + 1]? = some (.cells #[.int .i64 x.start, .int .i64 x.commit, .string x.value] 55 (0, 0)) ∧
    wx.heap[w.heap.size + 1 + 1]? = some (.cells #[.string ⟨#[]⟩, .int .i64 0, .string ⟨#[]⟩, .string ⟨#[]⟩, .slice none 0 0] 26 (0, 0)) ∧ wx.heap[w.heap.size + 1 + 1 + 1]? = some (.cells #[.string r.key, .int .i64 (withF r x).ls, .string (withF r x).lp, .string (withF r x).value, .slice none 0 0] 26 (0, 0)))
  case first =>
    by_cases hl : r.ls = x.start
    · have e1 : (r.ls == x.start) = true := by simpa using hl
      have HW : Hid ((withF r x).ls = 0 ∧ (withF r x).lp = ⟨#[]⟩ ∧ (withF r x).value = ⟨#[]⟩) := by unfold withF; rw [if_pos hl]; exact ⟨rfl, rfl, rfl⟩
      clear hl
      go_wp2_with fail
      go_meet
      rw [HW.out.1, HW.out.2.1, HW.out.2.2]
      exact blk_new4 w
    · have e1 : (r.ls == x.start) = false := by simpa using hl
      have HW : Hid ((withF r x).ls = r.ls ∧ (withF r x).lp = r.lp ∧ (withF r x).value = r.value) := by unfold withF; rw [if_neg hl]; exact ⟨rfl, rfl, rfl⟩
      clear hl
      go_wp2_with fail
      go_meet
      rw [HW.out.1, HW.out.2.1, HW.out.2.2]
      exact blk_new4 w
  case rest =>
    obtain ⟨HL_n, HB0_n, HB1_n, HB2_n, HB3_n⟩ := hcut
    try clear HL
    try clear HB0
    try clear HB1
    try clear HB2
    try clear HB3
    have HL := Lib.hid HL_n
    have HB0 := Lib.hid HB0_n
    have HB1 := Lib.hid HB1_n
    have HB2 := Lib.hid HB2_n
    have HB3 := Lib.hid HB3_n
    clear HL_n HB0_n HB1_n HB2_n HB3_n
    try clear hc0 hf0
    obtain ⟨hc0, hf0⟩ := blk_read HB0.out
    try clear hc1 hf1
    obtain ⟨hc1, hf1⟩ := blk_read HB1.out
    try clear hc2 hf2
    obtain ⟨hc2, hf2⟩ := blk_read HB2.out
    try clear hc3 hf3
    obtain ⟨hc3, hf3⟩ := blk_read HB3.out
    go_wp2_with fail
    go_loopw [6] (fun i wr => (∃ k : Nat, k ≤ n ∧ i = .int .i64 k ∧ ∃ A' c', wr.ownsRow (w.heap.size + 1 + 1 + 1 + 1) 55 3 (.slice A' (loRecs (r.recs.take k) x.start).length c') (loRecs (r.recs.take k) x.start).length (recCells (loRecs (r.recs.take k) x.start)) ∧
        wr.heap[w.heap.size + 1 + 1 + 1]? = some (.cells #[.string r.key, .int .i64 (withF r x).ls, .string (withF r x).lp, .string (withF r x).value, .slice A' (loRecs (r.recs.take k) x.start).length c'] 26 (0, 0))) ∧ Below w.heap.size w wr ∧ wr.heap[w.heap.size]? = some (.cells #[.string r.key, .int .i64 r.ls, .string r.lp, .string r.value, .slice A n c] 26 (0, 0)) ∧ wr.heap[w.heap.size + 1]? = some (.cells #[.int .i64 x.start, .int .i64 x.commit, .string x.value] 55 (0, 0)) ∧
      wr.heap[w.heap.size + 1 + 1]? = some (.cells #[.string ⟨#[]⟩, .int .i64 0, .string ⟨#[]⟩, .string ⟨#[]⟩, .slice none 0 0] 26 (0, 0))) (fun i _ => n - (intOf i).toNat)
    case atStart => exact ⟨⟨0, Nat.zero_le _, rfl, none, 0, World.ownsRow_nil _ _ _ _, HB3.out⟩, HL.out, HB0.out, HB1.out, HB2.out⟩
    case round =>
      clear HL HB0 HB1 HB2 HB3
      try clear hc0 hf0 hc1 hf1 hc2 hf2 hc3 hf3
      obtain ⟨⟨k, hk, rfl, A', c', hown, hb3⟩, hbel, hb0, hb1, hb2⟩ := hrel
      have HL := Lib.hid hbel
      have HO := Lib.hid hown
      have HB0 := Lib.hid hb0
      have HB1 := Lib.hid hb1
      have HB2 := Lib.hid hb2
      have HB3 := Lib.hid hb3
      clear hbel hown hb0 hb1 hb2 hb3
      try clear hc0 hf0
      obtain ⟨hc0, hf0⟩ := blk_read HB0.out
      try clear hc1 hf1
      obtain ⟨hc1, hf1⟩ := blk_read HB1.out
      try clear hc2 hf2
      obtain ⟨hc2, hf2⟩ := blk_read HB2.out
      try clear hc3 hf3
      obtain ⟨hc3, hf3⟩ := blk_read HB3.out
      by_cases hlt : k < n
      · obtain ⟨y, b, off, hy, rfl, hbb, g0, g1, g2⟩ := (HR.out.recs.at_.below HL.out (Nat.le_refl _)).at_ hlt
        have HY := Lib.hid hy
        clear hy
        have hlo : (loRecs (r.recs.take k) x.start).length ≤ 100 := Nat.le_trans (loRecs_le _ _) (by rw [List.length_take]; omega)
        have HS := Lib.hid (loRecs_snoc (s := x.start) HY.out)
        by_cases hs : y.start < x.start
        · have d : decide (y.start < x.start) = true := by simpa using hs
          rw [if_pos hs] at HS
          clear hs
          go_wp2_with fail
          go_quiet (fail)
          go_wp2_with fail
          have hzB3 := blk_lt HB3.out
          have hzB0 := blk_lt HB0.out
          have hA3 := fun (o : Obj) (i : Nat) => (World.cell?_alloc_past (w := wr.drewN (nq + 1)) o (w.heap.size + 1 + 1 + 1) i hzB3).trans (hc3 i)
          have hzb := Nat.lt_of_lt_of_le hbb HL.out.size
          have hbne : ¬ b = w.heap.size + 1 + 1 + 1 := by omega
          go_region_law ((refine step_append_own (by rfl) _ _ _ (by rfl) (w.heap.size + 1 + 1 + 1 + 1) 55 i0 _ 3 32 Try.underlying24 hi0 hz0 hz1 hz2 rfl (by omega) (.slice A' (loRecs (r.recs.take k) x.start).length c') (loRecs (r.recs.take k) x.start).length (recCells (loRecs (r.recs.take k) x.start)) (by rfl) (own_at HO.out (fun g hg => Below.heap_alloc _ _ g hg)) ⟨wr.heap.size, 0, none⟩ 1 1 y.cells (by rfl) (by rfl) (rec_news (by exact blk_new_at _ _ _ rfl)) (rec_one y) (by unfold maxLen; omega) (by omega) (by simp; omega) ?_; intro A2 c2 w1 hown hg; obtain ⟨hc3, hf3⟩ := blk_read (blk_grown (blk_old (by exact HB3.out) _) hg (own_old_ne HO.out (by omega)))))
          all_goals
            go_wp2
            go_roundw
            case rel =>
              have H0 := blk_grown (blk_old (by exact HB0.out) _) hg (own_old_ne HO.out (by omega))
              have H1 := blk_grown (blk_old (by exact HB1.out) _) hg (own_old_ne HO.out (by omega))
              have H2 := blk_grown (blk_old (by exact HB2.out) _) hg (own_old_ne HO.out (by omega))
              have H3 := blk_grown (blk_old (by exact HB3.out) _) hg (own_old_ne HO.out (by omega))
              have hLg := ((below_drewN HL.out (nq + 1)).alloc (by have := HL.out.size; simp; omega) _).grown hg (by have := HL.out.size; simp; omega) (fun j hj => by have := own_base HO.out j hj; omega)
              refine ⟨⟨k + 1, by omega, by go_num, A2, c2, ?_, ?_⟩, hLg.setCell (p := ⟨w.heap.size + 1 + 1 + 1, 4, none⟩) (by simp; omega) _, blk_far H0 (by simp; omega) _, blk_far H1 (by simp) _, blk_far H2 (by simp) _⟩
              · rw [HS.out]
                have ho' := own_add hown rfl
                exact own_far ho' (own_ne ho' H3 (by decide)) _
              · rw [HS.out, List.length_append]
                simpa using blk_set H3 4 _
            case measure => simp [intOf]; omega
        · have d : decide (y.start < x.start) = false := by simpa using hs
          rw [if_neg hs, List.append_nil] at HS
          clear hs
          go_wp2_with fail
          go_quiet (fail)
          go_wp2_with fail
          go_roundw
          case rel => exact ⟨⟨k + 1, by omega, by go_num, A', c', by rw [HS.out]; exact HO.out, by rw [HS.out]; exact HB3.out⟩, below_drewN HL.out _, HB0.out, HB1.out, HB2.out⟩
          case measure => simp [intOf]; omega
      · obtain rfl : k = n := by omega
        have hall : r.recs.take k = r.recs := List.take_of_length_le (by rw [Hn.out]; omega)
        rw [hall] at HO HB3
        try clear hc3 hf3
        obtain ⟨hc3, hf3⟩ := blk_read HB3.out
        have hlo : (loRecs r.recs x.start).length ≤ 100 := Nat.le_trans (loRecs_le _ _) (by rw [Hn.out]; exact hn)
        clear hall hlt hk
        go_upto_region 10 with (fail)
        go_cut [] (fun wx => ∃ A2 c2, Below w.heap.size w wx ∧ wx.ownsRow (w.heap.size + 1 + 1 + 1 + 1) 55 3 (.slice A2 (loRecs r.recs x.start ++ [x]).length c2) (loRecs r.recs x.start ++ [x]).length (recCells (loRecs r.recs x.start ++ [x])) ∧ wx.heap[w.heap.size]? = some (.cells #[.string r.key, .int .i64 r.ls, .string r.lp, .string r.value, .slice A k c] 26 (0, 0)) ∧ wx.heap[w.heap.size + 1]? = some (.cells #[.int .i64 x.start, .int .i64 x.commit, .string x.value] 55 (0, 0)) ∧
          wx.heap[w.heap.size + 1 + 1]? = some (.cells #[.string ⟨#[]⟩, .int .i64 0, .string ⟨#[]⟩, .string ⟨#[]⟩, .slice none 0 0] 26 (0, 0)) ∧ wx.heap[w.heap.size + 1 + 1 + 1]? = some (.cells #[.string r.key, .int .i64 (withF r x).ls, .string (withF r x).lp, .string (withF r x).value, .slice A2 (loRecs r.recs x.start ++ [x]).length c2] 26 (0, 0)))
        case first =>
          have hzB3 := blk_lt HB3.out
          go_wp2_with (at_builtin; refine wpList_append_own _ rfl _ _ 24 rfl (w.heap.size + 1 + 1 + 1 + 1) 55 i0 _ 3 32 Try.underlying24 hi0 hz0 hz1 hz2 rfl (by decide) (.slice A' (loRecs r.recs x.start).length c') (loRecs r.recs x.start).length (recCells (loRecs r.recs x.start)) rfl (own_at HO.out (fun g hg => Below.heap_alloc _ _ g hg)) ⟨wr.heap.size, 0, none⟩ 1 1 x.cells rfl rfl ?c1 ?c2 ?c3 ?c4 ?c5 ?_)
          case c1 => exact rec_news (by exact blk_new_at _ _ _ rfl)
          case c2 => exact rec_one x
          case c3 => unfold maxLen; omega
          case c4 => omega
          case c5 => simp; omega
          intro v' w1 hown hg _
          obtain ⟨A2, c2, hv⟩ := own_slice hown
          rw [hv] at hown ⊢
          have H0 := blk_grown (blk_old (by exact HB0.out) _) hg (own_old_ne HO.out (by omega))
          have H1 := blk_grown (blk_old (by exact HB1.out) _) hg (own_old_ne HO.out (by omega))
          have H2 := blk_grown (blk_old (by exact HB2.out) _) hg (own_old_ne HO.out (by omega))
          have H3 := blk_grown (blk_old (by exact HB3.out) _) hg (own_old_ne HO.out (by omega))
          have hLg := (HL.out.alloc (by have := HL.out.size; simp; omega) _).grown hg (by have := HL.out.size; simp; omega) (fun j hj => by have := own_base HO.out j hj; omega)
          have HG0 := Lib.hid H0
          have HG1 := Lib.hid H1
          have HG2 := Lib.hid H2
          have HG3 := Lib.hid H3
          have HGL := Lib.hid hLg
          have HGO := Lib.hid (own_add hown rfl)
          clear H0 H1 H2 H3 hLg hown hg hv
          try clear hc0 hf0 hc1 hf1 hc2 hf2 hc3 hf3
          obtain ⟨hc3, hf3⟩ := blk_read HG3.out
          have hzG := blk_lt HG3.out
          go_wp2_with fail
          go_meet
          refine ⟨A2, c2, HGL.out.setCell (p := ⟨w.heap.size + 1 + 1 + 1, 4, none⟩) (by simp; omega) _, own_far HGO.out (own_ne HGO.out HG3.out (by decide)) _, blk_far HG0.out (by simp; omega) _, blk_far HG1.out (by simp) _, blk_far HG2.out (by simp) _, ?_⟩
          rw [List.length_append]
          simpa using blk_set HG3.out 4 _
        case rest =>
          obtain ⟨A2, c2, hcut⟩ := hcut
          obtain ⟨HL_n, HO_n, HB0_n, HB1_n, HB2_n, HB3_n⟩ := hcut
          try clear HL
          try clear HO
          try clear HB0
          try clear HB1
          try clear HB2
          try clear HB3
          have HL := Lib.hid HL_n
          have HO := Lib.hid HO_n
          have HB0 := Lib.hid HB0_n
          have HB1 := Lib.hid HB1_n
          have HB2 := Lib.hid HB2_n
          have HB3 := Lib.hid HB3_n
          clear HL_n HO_n HB0_n HB1_n HB2_n HB3_n
          try clear hc0 hf0
          obtain ⟨hc0, hf0⟩ := blk_read HB0.out
          try clear hc1 hf1
          obtain ⟨hc1, hf1⟩ := blk_read HB1.out
          try clear hc2 hf2
          obtain ⟨hc2, hf2⟩ := blk_read HB2.out
          try clear hc3 hf3
          obtain ⟨hc3, hf3⟩ := blk_read HB3.out
          obtain ⟨LO, hLO⟩ : ∃ LO, LO = loRecs r.recs x.start ++ [x] := ⟨_, rfl⟩
          have hLl : LO.length ≤ 101 := by rw [hLO, List.length_append]; simpa using hlo
          rw [← hLO] at HO HB3 hc3
          have HLO := Lib.hid hLO
          clear hLO hlo
          go_wp2_with fail
          go_loopw [7] (fun i wr => (∃ j : Nat, j ≤ k ∧ i = .int .i64 j ∧ ∃ A' m c', wr.ownsRow (w.heap.size + 1 + 1 + 1 + 1) 55 3 (.slice A' m c') m (recCells (LO ++ hiRecs (r.recs.take j) x.start)) ∧
              wr.heap[w.heap.size + 1 + 1 + 1]? = some (.cells #[.string r.key, .int .i64 (withF r x).ls, .string (withF r x).lp, .string (withF r x).value, .slice A' m c'] 26 (0, 0))) ∧ Below w.heap.size w wr ∧ wr.heap[w.heap.size]? = some (.cells #[.string r.key, .int .i64 r.ls, .string r.lp, .string r.value, .slice A k c] 26 (0, 0)) ∧ wr.heap[w.heap.size + 1]? = some (.cells #[.int .i64 x.start, .int .i64 x.commit, .string x.value] 55 (0, 0)) ∧
            wr.heap[w.heap.size + 1 + 1]? = some (.cells #[.string ⟨#[]⟩, .int .i64 0, .string ⟨#[]⟩, .string ⟨#[]⟩, .slice none 0 0] 26 (0, 0))) (fun i _ => k - (intOf i).toNat)
          case atStart => exact ⟨⟨0, Nat.zero_le _, rfl, A2, _, c2, by simpa [hiRecs] using HO.out, by simpa [hiRecs] using HB3.out⟩, HL.out, HB0.out, HB1.out, HB2.out⟩
          case round =>
            clear HL HO HB0 HB1 HB2 HB3
            try clear hc0 hf0 hc1 hf1 hc2 hf2 hc3 hf3
            obtain ⟨⟨j, hj, rfl, A', m, c', hown, hb3⟩, hbel, hb0, hb1, hb2⟩ := hrel
            have HL := Lib.hid hbel
            have HO := Lib.hid hown
            have HB0 := Lib.hid hb0
            have HB1 := Lib.hid hb1
            have HB2 := Lib.hid hb2
            have HB3 := Lib.hid hb3
            clear hbel hown hb0 hb1 hb2 hb3
            try clear hc0 hf0
            obtain ⟨hc0, hf0⟩ := blk_read HB0.out
            try clear hc1 hf1
            obtain ⟨hc1, hf1⟩ := blk_read HB1.out
            try clear hc2 hf2
            obtain ⟨hc2, hf2⟩ := blk_read HB2.out
            try clear hc3 hf3
            obtain ⟨hc3, hf3⟩ := blk_read HB3.out
            by_cases hlt : j < k
            · obtain ⟨y, b, off, hy, rfl, hbb, g0, g1, g2⟩ := (HR.out.recs.at_.below HL.out (Nat.le_refl _)).at_ hlt
              have HY := Lib.hid hy
              clear hy
              have hlo : m ≤ 201 := by have h1 := hiRecs_le (r.recs.take j) x.start; rw [List.length_take] at h1; have h2 := HO.out.1; rw [recCells_length, List.length_append] at h2; omega
              have HS := Lib.hid (hiRecs_snoc (s := x.start) HY.out)
              by_cases hs : x.start < y.start
              · have d : decide (x.start < y.start) = true := by simpa using hs
                rw [if_pos hs] at HS
                have HS' : Hid (LO ++ hiRecs (r.recs.take (j + 1)) x.start = (LO ++ hiRecs (r.recs.take j) x.start) ++ [y]) := by show _ = _; rw [HS.out, List.append_assoc]
                clear hs
                go_wp2_with fail
                go_quiet (fail)
                go_wp2_with fail
                have hzB3 := blk_lt HB3.out
                have hzB0 := blk_lt HB0.out
                have hA3 := fun (o : Obj) (i : Nat) => (World.cell?_alloc_past (w := wr.drewN (nq + 1)) o (w.heap.size + 1 + 1 + 1) i hzB3).trans (hc3 i)
                have hzb := Nat.lt_of_lt_of_le hbb HL.out.size
                have hbne : ¬ b = w.heap.size + 1 + 1 + 1 := by omega
                go_region_law ((refine step_append_own (by rfl) _ _ _ (by rfl) (w.heap.size + 1 + 1 + 1 + 1) 55 i0 _ 3 32 Try.underlying24 hi0 hz0 hz1 hz2 rfl (by omega) (.slice A' m c') m (recCells ((LO ++ hiRecs (r.recs.take j) x.start))) (by rfl) (own_at HO.out (fun g hg => Below.heap_alloc _ _ g hg)) ⟨wr.heap.size, 0, none⟩ 1 1 y.cells (by rfl) (by rfl) (rec_news (by exact blk_new_at _ _ _ rfl)) (rec_one y) (by unfold maxLen; omega) (by omega) (by simp; omega) ?_; intro A2 c2 w1 hown hg; obtain ⟨hc3, hf3⟩ := blk_read (blk_grown (blk_old (by exact HB3.out) _) hg (own_old_ne HO.out (by omega)))))
                all_goals
                  go_wp2
                  go_roundw
                  case rel =>
                    have H0 := blk_grown (blk_old (by exact HB0.out) _) hg (own_old_ne HO.out (by omega))
                    have H1 := blk_grown (blk_old (by exact HB1.out) _) hg (own_old_ne HO.out (by omega))
                    have H2 := blk_grown (blk_old (by exact HB2.out) _) hg (own_old_ne HO.out (by omega))
                    have H3 := blk_grown (blk_old (by exact HB3.out) _) hg (own_old_ne HO.out (by omega))
                    have hLg := ((below_drewN HL.out (nq + 1)).alloc (by have := HL.out.size; simp; omega) _).grown hg (by have := HL.out.size; simp; omega) (fun jj hjj => by have := own_base HO.out jj hjj; omega)
                    refine ⟨⟨j + 1, by omega, by go_num, A2, m + 1, c2, ?_, ?_⟩, hLg.setCell (p := ⟨w.heap.size + 1 + 1 + 1, 4, none⟩) (by simp; omega) _, blk_far H0 (by simp; omega) _, blk_far H1 (by simp) _, blk_far H2 (by simp) _⟩
                    · rw [HS'.out]
                      rw [recCells_snoc]
                      exact own_far hown (own_ne hown H3 (by decide)) _
                    · simpa using blk_set H3 4 _
                  case measure => simp [intOf]; omega
              · have d : decide (x.start < y.start) = false := by simpa using hs
                rw [if_neg hs, List.append_nil] at HS
                have HS' : Hid (LO ++ hiRecs (r.recs.take (j + 1)) x.start = LO ++ hiRecs (r.recs.take j) x.start) := by show _ = _; rw [HS.out]
                clear hs
                go_wp2_with fail
                go_quiet (fail)
                go_wp2_with fail
                go_roundw
                case rel => exact ⟨⟨j + 1, by omega, by go_num, A', m, c', by rw [HS'.out]; exact HO.out, HB3.out⟩, below_drewN HL.out _, HB0.out, HB1.out, HB2.out⟩
                case measure => simp [intOf]; omega
            · obtain rfl : j = k := by omega
              have hall : r.recs.take j = r.recs := List.take_of_length_le (by rw [Hn.out]; omega)
              rw [hall] at HO
              clear hall hlt hj
              try clear hc3 hf3
              try clear hc3 hf3
              obtain ⟨hc3, hf3⟩ := blk_read HB3.out
              have hzB3 := blk_lt HB3.out
              go_wp2_with fail
              refine bodyPost_ret (v := .agg #[.string r.key, .int .i64 (withF r x).ls, .string (withF r x).lp, .string (withF r x).value, .slice A' m c']) (by simp [results, Try.results20, go_sem, hc2]) rfl ⟨A', _, c', rfl, ?_, below_row5 HL.out (by omega) _ _ _ _ _⟩
              have ho := own_row5_far HO.out (own_ne HO.out HB2.out (by decide)) (.string r.key) (.int .i64 (withF r x).ls) (.string (withF r x).lp) (.string (withF r x).value) (.slice A' m c')
              have e : loRecs r.recs x.start ++ x :: hiRecs r.recs x.start = LO ++ hiRecs r.recs x.start := by rw [HLO.out]; simp
              rw [e]
              exact own_more ho (by omega)
end Go.Proofs.Ytniomgngiiiklab
