/- The walk of keep's Row: a row that raw things were done to. -/
import Derived.Test.YtniomgngiiiklabDoorRaw
import Derived.Test.YtniomgngiiiklabDoorCommit
import Derived.Test.YtniomgngiiiklabDoorUndo
import Derived.Test.YtniomgngiiiklabDoorLockFor
import Derived.Test.YtniomgngiiiklabDoorRecsOwn
import Derived.Deep.RegionHeld3
import Derived.Deep.CutBlock
import Derived.Deep.DeepCutAuto
import Derived.Outline
namespace Go.Proofs.YtniomgngiiiklabDoor
open Go.RowKit

def rowName : ByteArray := ⟨#[114, 111, 119]⟩
def vS (c : Int) : ByteArray := (⟨#[118]⟩ : ByteArray) ++ digitS (pickF c 9)
def startK (R : MRow) (x : MRaw) : Int := if R.ls ≠ 0 then R.ls else 1 + pickF x.a 30
def codeK (R : MRow) (x : MRaw) : Int :=
  if pickF x.kind 5 = 0 ∨ pickF x.kind 5 = 1 then lockCode R (1 + pickF x.a 30) (keyF x.b) (vS x.c)
  else if pickF x.kind 5 = 2 ∨ pickF x.kind 5 = 3 then commitCode R (startK R x) (startK R x + 1 + pickF x.b 10) else undoCode R (1 + pickF x.a 30)
def nextK (R : MRow) (x : MRaw) : MRow :=
  if pickF x.kind 5 = 0 ∨ pickF x.kind 5 = 1 then lockRow R (1 + pickF x.a 30) (keyF x.b) (vS x.c)
  else if pickF x.kind 5 = 2 ∨ pickF x.kind 5 = 3 then commitRow R (startK R x) (startK R x + 1 + pickF x.b 10) else undoRow R (1 + pickF x.a 30)
/-- One raw thing done to a row. -/
def stepK (R : MRow) (x : MRaw) : MRow := if codeK R x = 0 then nextK R x else R
def rowK (l : List MRaw) : MRow := (l.take 40).foldl stepK (emptyRow rowName)
/-- A row whose sizes let it be read. -/
def SizedRow (r : MRow) : Prop := r.recs.length * 32 ≤ 140737488351232 ∧ r.key.size ≤ maxLen ∧ r.lp.size ≤ maxLen
theorem keyB_size {s : ByteArray} (h : keyB s = true) : s.size ≤ 6 := by
  simp only [keyB, Bool.and_eq_true, decide_eq_true_eq] at h; exact h.2.1
theorem sized_good {r : MRow} (h : RowGood r) : SizedRow r := by
  have h1 := h.len
  have h2 := keyB_size h.key
  refine ⟨by omega, by unfold maxLen; omega, ?_⟩
  by_cases h0 : r.ls = 0
  · rw [(h.free h0).1]; exact Nat.zero_le _
  · have := keyB_size (h.lock h0).2.2.1; unfold maxLen; omega
theorem sized_zero : SizedRow zeroRow := ⟨by show (0 : Nat) * 32 ≤ _; omega, Nat.zero_le _, Nat.zero_le _⟩
theorem sized_lock {r : MRow} {st : Int} {p v : ByteArray} : SizedRow (lockRow r st p v) := by
  by_cases h : lockCode r st p v = 0
  · exact sized_good (lockRow_good h).1
  · have e : lockRow r st p v = zeroRow := by unfold lockRow; rw [if_neg h]
    rw [e]; exact sized_zero
theorem sized_commit {r : MRow} {st cm : Int} : SizedRow (commitRow r st cm) := by
  by_cases h : commitCode r st cm = 0
  · exact sized_good (commitRow_good h).1
  · have e : commitRow r st cm = zeroRow := by unfold commitRow; rw [if_neg h]
    rw [e]; exact sized_zero
theorem sized_undo {r : MRow} {st : Int} : SizedRow (undoRow r st) := by
  by_cases h : undoCode r st = 0
  · exact sized_good (undoRow_good h)
  · have e : undoRow r st = zeroRow := by unfold undoRow; rw [if_neg h]
    rw [e]; exact sized_zero
theorem rowOk_own {w : World} {base : Nat} {r : MRow} {A : Option Addr} {c : Nat} (h : w.ownsRow base 44 3 (.slice A r.recs.length c) r.recs.length (recCells r.recs)) (hz : SizedRow r) : RowOk w w.heap.size r A r.recs.length c :=
  ⟨RecsOk.of_own h hz.1, hz.2.1, hz.2.2⟩
theorem rowOk_keep {w w' : World} {r : MRow} {A : Option Addr} {n c : Nat} (h : RowOk w w.heap.size r A n c) (hk : Old w w') : RowOk w' w'.heap.size r A n c :=
  ⟨⟨(h.recs.at_.keep (fun p hp => World.cell?_of_block (hk.block p.block hp))).more hk.size, h.recs.le, h.recs.small, h.recs.nil⟩, h.key, h.lp⟩
theorem rowOk_own' {w : World} {base : Nat} {r : MRow} {A : Option Addr} {m c : Nat} (h : w.ownsRow base 44 3 (.slice A m c) m (recCells r.recs)) (hz : SizedRow r) (hm : m = r.recs.length) : RowOk w w.heap.size r A m c := by
  subst hm; exact rowOk_own h hz
theorem good_next {R : MRow} {x : MRaw} (h : codeK R x = 0) : RowGood (nextK R x) := by
  unfold codeK at h; unfold nextK
  split at h
  · rename_i h1; rw [if_pos h1]; exact (lockRow_good h).1
  · rename_i h1; rw [if_neg h1]
    split at h
    · rename_i h2; rw [if_pos h2]; exact (commitRow_good h).1
    · rename_i h2; rw [if_neg h2]; exact undoRow_good h
theorem good_step {R : MRow} {x : MRaw} (h : RowGood R) : RowGood (stepK R x) := by
  unfold stepK; split
  · rename_i h0; exact good_next h0
  · exact h
theorem good_empty : RowGood (emptyRow rowName) where
  key := by rfl
  recs := ⟨by intro x h; simp [emptyRow] at h, by simp [emptyRow]⟩
  size := Nat.zero_le _
  len := Nat.zero_le _
  free := fun _ => ⟨rfl, rfl⟩
  lock := fun h => absurd rfl h
theorem good_fold : ∀ (l : List MRaw) (R : MRow), RowGood R → RowGood (l.foldl stepK R)
  | [], _, h => h
  | _ :: l, _, h => good_fold l _ (good_step h)
/-- The next row's five cells are laid: what holds. -/
theorem keep_done {a6 b6 c6 d6 e6 : Value} {w wa wb : World} {B g0 g1 g6 B' n1 n2 : Nat} {cs0 cs1 : Array Value} {v1 v2 : Value} {xs1 xs2 : List Value} (hb : Below wa.heap.size wa wb)
    (h0 : wa.heap[g0]? = some (.cells cs0 27 (0, 0))) (h1 : wa.heap[g1]? = some (.cells cs1 27 (0, 0))) (h6 : wa.heap[g6]? = some (.cells #[a6, b6, c6, d6, e6] 27 (0, 0)))
    (h06 : g0 ≠ g6) (h16 : g1 ≠ g6) (hl : Below B w wa) (hB : B ≤ w.heap.size) (hg : B ≤ g6) (o1 : wa.ownsRow B 44 3 v1 n1 xs1) (o2 : wb.ownsRow B' 44 3 v2 n2 xs2) (hB' : B ≤ B') (a b c d e : Value) (W : World)
    (hW : W = ((((wb.setCell ⟨g6, 0, none⟩ a).setCell ⟨g6, 1, none⟩ b).setCell ⟨g6, 2, none⟩ c).setCell ⟨g6, 3, none⟩ d).setCell ⟨g6, 4, none⟩ e) :
    W.heap[g6]? = some (.cells #[a, b, c, d, e] 27 (0, 0)) ∧ W.ownsRow B 44 3 v2 n2 xs2 ∧ W.heap[g1]? = some (.cells cs1 27 (0, 0)) ∧ W.ownsRow B 44 3 v1 n1 xs1 ∧ Below B w W ∧
      W.heap[g0]? = some (.cells cs0 27 (0, 0)) := by
  subst hW
  have hk : ∀ g, g < wa.heap.size → wb.heap[g]? = wa.heap[g]? := fun g hg => hb.block g hg
  have h6' := (hk _ (blk_lt h6)).trans h6
  have o1' := own_at o1 hk
  refine ⟨blk_row5 h6' _ _ _ _ _, own_row5_far (own_more o2 hB') (own_ne (own_more o2 hB') h6' (by decide)) _ _ _ _ _, blk_row5_far ((hk _ (blk_lt h1)).trans h1) h16 _ _ _ _ _, own_row5_far o1' (own_ne o1' h6' (by decide)) _ _ _ _ _,
    below_row5 (hl.trans (hb.mono (Nat.le_trans hB hl.size))) hg _ _ _ _ _, blk_row5_far ((hk _ (blk_lt h0)).trans h0) h06 _ _ _ _ _⟩
theorem wrap_in {i : Int} (h1 : -9223372036854775808 ≤ i) (h2 : i ≤ 9223372036854775807) : IntKind.i64.wrap i = i := IntWalk.i64_in _ (by omega)
theorem take_snoc {α : Type} {l : List α} {k : Nat} {x : α} (h : l[k]? = some x) : l.take (k + 1) = l.take k ++ [x] := by
  obtain ⟨hk, rfl⟩ := List.getElem?_eq_some_iff.1 h
  rw [List.take_succ_eq_append_getElem hk]
theorem foldl_snoc {l : List MRaw} {k : Nat} {x : MRaw} (h : l[k]? = some x) (r : MRow) : (l.take (k + 1)).foldl stepK r = stepK ((l.take k).foldl stepK r) x := by
  rw [take_snoc h, List.foldl_append]; rfl

set_option maxRecDepth 100000 in
set_option maxHeartbeats 8000000 in
theorem keepRow_any (l : List MRaw) (A : Option Addr) (n c : Nat) (w : World) (h : RawsOk w w.heap.size A n c l) :
    Calls Tryd.prog 12 #[.slice A n c] w
      fun e w' => ∃ A' m' c', m' = (rowK l).recs.length ∧ e = .returned (.agg #[.string (rowK l).key, .int .i64 (rowK l).ls, .string (rowK l).lp, .string (rowK l).value, .slice A' m' c']) ∧
        w'.ownsRow w.heap.size 44 3 (.slice A' m' c') m' (recCells (rowK l).recs) ∧ Below w.heap.size w w' := by
  have HR := Lib.hid h
  have hsm := h.small
  have Hn := Lib.hid h.len
  clear h
  go_enter Tryd.func12, Tryd.ntmps12
  go_wp2_with fail
  go_loopw [4] (fun i wr => (∃ k : Nat, k ≤ n ∧ k ≤ 40 ∧ i = .int .i64 k ∧ ∃ R A' m' c', R = (l.take k).foldl stepK (emptyRow rowName) ∧ m' = R.recs.length ∧ wr.ownsRow w.heap.size 44 3 (.slice A' m' c') m' (recCells R.recs) ∧
      wr.heap[w.heap.size + 1]? = some (.cells #[.string R.key, .int .i64 R.ls, .string R.lp, .string R.value, .slice A' m' c'] 27 (0, 0))) ∧ Below w.heap.size w wr ∧
    wr.heap[w.heap.size]? = some (.cells #[.string ⟨#[]⟩, .int .i64 0, .string ⟨#[]⟩, .string ⟨#[]⟩, .slice none 0 0] 27 (0, 0))) (fun i _ => 40 - (intOf i).toNat)
  case atStart =>
    obtain ⟨h1, h2, h3⟩ := blk_new2 w (a := #[.string ⟨#[]⟩, .int .i64 0, .string ⟨#[]⟩, .string ⟨#[]⟩, .slice none 0 0]) (b := #[.string rowName, .int .i64 0, .string ⟨#[]⟩, .string ⟨#[]⟩, .slice none 0 0]) (ta := 27) (tb := 27)
    exact ⟨⟨0, Nat.zero_le _, Nat.zero_le _, rfl, emptyRow rowName, none, 0, 0, rfl, rfl, World.ownsRow_nil _ _ _ _, h3⟩, h1, h2⟩
  case round =>
    obtain ⟨⟨k, hk, hk40, rfl, R, A', m', c', hR, hm, ho, hb1⟩, hbel, hb0⟩ := hrel
    have HL := Lib.hid hbel
    have HB0 := Lib.hid hb0
    have HB1 := Lib.hid hb1
    have HO := Lib.hid ho
    have HRR := Lib.hid hR
    have HM := Lib.hid hm
    have HG : Hid (RowGood R) := by show RowGood R; rw [hR]; exact good_fold (l.take k) _ good_empty
    have HSZ := Lib.hid (sized_good HG.out)
    clear hbel hb0 hb1 ho hR hm
    try clear hc0 hf0
    obtain ⟨hc0, hf0⟩ := blk_read HB0.out
    try clear hc1 hf1
    obtain ⟨hc1, hf1⟩ := blk_read HB1.out
    have hzw := HL.out.size
    have hzB1 := blk_lt HB1.out
    by_cases hlt : k < n ∧ k < 40
    · obtain ⟨hkn, hk4⟩ := hlt
      obtain ⟨x, b, off, hx, hxo, rfl, hbb, g0, g1, g2, g3⟩ := (HR.out.keep (fun g hg => HL.out.block g hg) (Nat.le_refl _)).raw hkn
      have HX := Lib.hid hx
      have HXO := Lib.hid hxo
      clear hx hxo
      have d40 : decide ((k : Int) < 40) = true := by simp; omega
      obtain ⟨pa0, pa1⟩ := pickF_lt x.a (m := 30) (by omega)
      obtain ⟨pk0, pk1⟩ := pickF_lt x.kind (m := 5) (by omega)
      obtain ⟨wa, hwa⟩ : ∃ wa : World, wa = (wr.alloc (.cells #[.int .i64 x.kind, .int .i64 x.a, .int .i64 x.b, .int .i64 x.c] 78)).alloc (.cells #[.string ⟨#[]⟩, .int .i64 0, .string ⟨#[]⟩, .string ⟨#[]⟩, .slice none 0 0] 27) := ⟨_, rfl⟩
      have hsza : wa.heap.size = wr.heap.size + 1 + 1 := by rw [hwa]; simp
      have HAB : Hid (∀ g, g < wr.heap.size → wa.heap[g]? = wr.heap[g]?) := fun g hg => by rw [hwa]; exact ((old_alloc wr _).trans (old_alloc _ _)).block g hg
      have HB5 : Hid (wa.heap[wr.heap.size]? = some (.cells #[.int .i64 x.kind, .int .i64 x.a, .int .i64 x.b, .int .i64 x.c] 78 (0, 0))) := by show _ = _; rw [hwa]; exact blk_old (blk_new wr _ _) _
      have HB6 : Hid (wa.heap[wr.heap.size + 1]? = some (.cells #[.string ⟨#[]⟩, .int .i64 0, .string ⟨#[]⟩, .string ⟨#[]⟩, .slice none 0 0] 27 (0, 0))) := by show _ = _; rw [hwa]; exact blk_new_at (wr.alloc _) _ _ (by simp)
      have HBA1 := Lib.hid ((HAB.out _ hzB1).trans HB1.out)
      have HBA0 := Lib.hid ((HAB.out _ (blk_lt HB0.out)).trans HB0.out)
      have HLA : Hid (Below w.heap.size w wa) := by show Below _ _ _; rw [hwa]; exact (HL.out.alloc hzw _).alloc (by simp; omega) _
      have HOA := Lib.hid (own_at HO.out HAB.out)
      go_wp2_with fail
      refine (picked_any x.a 30 _ HXO.out.2.1 (by omega) (by omega)).mono ?_
      rintro e w1 ⟨rfl, rfl⟩
      rw [← hwa]
      have HWA := Lib.hid hwa
      clear hwa hc0 hf0 hc1 hf1
      obtain ⟨hc1, hf1⟩ := blk_read HBA1.out
      obtain ⟨hc5, hf5⟩ := blk_read HB5.out
      obtain ⟨hc6, hf6⟩ := blk_read HB6.out
      go_wp2_with fail
      refine (picked_any x.kind 5 _ HXO.out.1 (by omega) (by omega)).mono ?_
      rintro e w1 ⟨rfl, rfl⟩
      go_upto_block 2 with (fail)
      go_cut [7, 30] (fun v _ wx => v = .int .i64 (codeK R x) ∧ ∃ A2 m2 c2, m2 = (nextK R x).recs.length ∧ wx.heap[wr.heap.size + 1]? = some (.cells #[.string (nextK R x).key, .int .i64 (nextK R x).ls, .string (nextK R x).lp, .string (nextK R x).value, .slice A2 m2 c2] 27 (0, 0)) ∧ wx.ownsRow w.heap.size 44 3 (.slice A2 m2 c2) m2 (recCells (nextK R x).recs) ∧
        wx.heap[w.heap.size + 1]? = some (.cells #[.string R.key, .int .i64 R.ls, .string R.lp, .string R.value, .slice A' m' c'] 27 (0, 0)) ∧ wx.ownsRow w.heap.size 44 3 (.slice A' m' c') m' (recCells R.recs) ∧ Below w.heap.size w wx ∧ wx.heap[w.heap.size]? = some (.cells #[.string ⟨#[]⟩, .int .i64 0, .string ⟨#[]⟩, .string ⟨#[]⟩, .slice none 0 0] 27 (0, 0)))
      case first =>
        obtain ⟨pk, hpk⟩ : ∃ pk, pickF x.kind 5 = pk := ⟨_, rfl⟩
        rw [hpk] at pk0 pk1 ⊢
        have HPK := Lib.hid hpk
        clear hpk
        have hp : pk = 0 ∨ pk = 1 ∨ pk = 2 ∨ pk = 3 ∨ pk = 4 := by omega
        clear pk0 pk1
        have HC : ∀ (wb W : World) (base2 : Nat) (A2 : Option Addr) (m2 c2 : Nat), Below wa.heap.size wa wb → w.heap.size ≤ base2 → m2 = (nextK R x).recs.length → wb.ownsRow base2 44 3 (.slice A2 m2 c2) m2 (recCells (nextK R x).recs) →
            W = ((((wb.setCell ⟨wr.heap.size + 1, 0, none⟩ (.string (nextK R x).key)).setCell ⟨wr.heap.size + 1, 1, none⟩ (.int .i64 (nextK R x).ls)).setCell ⟨wr.heap.size + 1, 2, none⟩ (.string (nextK R x).lp)).setCell ⟨wr.heap.size + 1, 3, none⟩ (.string (nextK R x).value)).setCell ⟨wr.heap.size + 1, 4, none⟩ (.slice A2 m2 c2) →
            ∃ A2 m2 c2, m2 = (nextK R x).recs.length ∧ W.heap[wr.heap.size + 1]? = some (.cells #[.string (nextK R x).key, .int .i64 (nextK R x).ls, .string (nextK R x).lp, .string (nextK R x).value, .slice A2 m2 c2] 27 (0, 0)) ∧ W.ownsRow w.heap.size 44 3 (.slice A2 m2 c2) m2 (recCells (nextK R x).recs) ∧
              W.heap[w.heap.size + 1]? = some (.cells #[.string R.key, .int .i64 R.ls, .string R.lp, .string R.value, .slice A' m' c'] 27 (0, 0)) ∧ W.ownsRow w.heap.size 44 3 (.slice A' m' c') m' (recCells R.recs) ∧ Below w.heap.size w W ∧ W.heap[w.heap.size]? = some (.cells #[.string ⟨#[]⟩, .int .i64 0, .string ⟨#[]⟩, .string ⟨#[]⟩, .slice none 0 0] 27 (0, 0)) := by
          intro wb W base2 A2 m2 c2 hb hbase hm2 hown hW
          exact ⟨A2, m2, c2, hm2, keep_done hb HBA0.out HBA1.out HB6.out (by omega) (by omega) HLA.out (Nat.le_refl _) (by omega) HOA.out hown hbase _ _ _ _ _ _ hW⟩
        rcases hp with rfl | rfl | rfl | rfl | rfl
        · have hnx : nextK R x = lockRow R (1 + pickF x.a 30) (keyF x.b) (vS x.c) := by unfold nextK; rw [HPK.out]; rfl
          have hcd : codeK R x = lockCode R (1 + pickF x.a 30) (keyF x.b) (vS x.c) := by unfold codeK; rw [HPK.out]; rfl
          rw [hnx] at HC
          have HCC := Lib.hid HC
          clear HC
          have hds : (digitS (pickF x.c 9)).size = 1 := rfl
          go_wp2_with fail
          go_region_law (first | (go_simp; go_at_call 35; refine (keepKey_any x.b _ (by exact HXO.out.2.2.1)).mono ?_; rintro e w1 ⟨rfl, hb1⟩; have HK1 : ∀ g, g < wa.heap.size → w1.heap[g]? = wa.heap[g]? := (fun g hg => hb1.block g hg); have hb1s : wa.heap.size ≤ w1.heap.size := hb1.size; obtain ⟨hc1k, hf1k⟩ := blk_read ((HK1 _ (blk_lt HBA1.out)).trans HBA1.out); obtain ⟨hc5k, hf5k⟩ := blk_read ((HK1 _ (blk_lt HB5.out)).trans HB5.out)) | (go_simp; go_at_call 17; refine (picked_any x.c 9 _ (by exact HXO.out.2.2.2) (by omega) (by omega)).mono ?_; rintro e w2 ⟨rfl, rfl⟩) | (go_simp; go_at_call 36; refine (itoa_small (pickF x.c 9) _ (by exact (pickF_lt x.c (by omega)).1) (by have := (pickF_lt x.c (m := 9) (by omega)).2; omega)).mono ?_; rintro e w2 ⟨rfl, rfl⟩) | (go_simp; go_at_call 18; refine (lockFor_any R (1 + pickF x.a 30) (keyF x.b) (vS x.c) A' m' c' _ (by exact rowOk_own' (own_at HOA.out HK1) HSZ.out HM.out)).mono ?_; rintro e w3 ⟨A2, c2, rfl, hown2, hb2⟩; obtain ⟨hc6k, hf6k⟩ := blk_read ((hb2.block _ (Nat.lt_of_lt_of_le (blk_lt HB6.out) hb1s)).trans ((HK1 _ (blk_lt HB6.out)).trans HB6.out))))
          all_goals
            go_wp2_with fail
            go_meet
            have hbA : Below wa.heap.size wa w3 := ((Below.refl _ wa).drew).trans ((hb1.mono (by first | exact Nat.le_refl _ | (simp; done) | (simp; omega))).trans (hb2.mono (by first | exact hb1s | (simp; omega))))
            rw [hcd, hnx]
            exact ⟨rfl, HCC.out w3 _ _ A2 _ c2 hbA (by have := HLA.out.size; simp; omega) rfl hown2 rfl⟩
        · have hnx : nextK R x = lockRow R (1 + pickF x.a 30) (keyF x.b) (vS x.c) := by unfold nextK; rw [HPK.out]; rfl
          have hcd : codeK R x = lockCode R (1 + pickF x.a 30) (keyF x.b) (vS x.c) := by unfold codeK; rw [HPK.out]; rfl
          rw [hnx] at HC
          have HCC := Lib.hid HC
          clear HC
          have hds : (digitS (pickF x.c 9)).size = 1 := rfl
          go_wp2_with fail
          go_region_law (first | (go_simp; go_at_call 35; refine (keepKey_any x.b _ (by exact HXO.out.2.2.1)).mono ?_; rintro e w1 ⟨rfl, hb1⟩; have HK1 : ∀ g, g < wa.heap.size → w1.heap[g]? = wa.heap[g]? := (fun g hg => hb1.block g hg); have hb1s : wa.heap.size ≤ w1.heap.size := hb1.size; obtain ⟨hc1k, hf1k⟩ := blk_read ((HK1 _ (blk_lt HBA1.out)).trans HBA1.out); obtain ⟨hc5k, hf5k⟩ := blk_read ((HK1 _ (blk_lt HB5.out)).trans HB5.out)) | (go_simp; go_at_call 17; refine (picked_any x.c 9 _ (by exact HXO.out.2.2.2) (by omega) (by omega)).mono ?_; rintro e w2 ⟨rfl, rfl⟩) | (go_simp; go_at_call 36; refine (itoa_small (pickF x.c 9) _ (by exact (pickF_lt x.c (by omega)).1) (by have := (pickF_lt x.c (m := 9) (by omega)).2; omega)).mono ?_; rintro e w2 ⟨rfl, rfl⟩) | (go_simp; go_at_call 18; refine (lockFor_any R (1 + pickF x.a 30) (keyF x.b) (vS x.c) A' m' c' _ (by exact rowOk_own' (own_at HOA.out HK1) HSZ.out HM.out)).mono ?_; rintro e w3 ⟨A2, c2, rfl, hown2, hb2⟩; obtain ⟨hc6k, hf6k⟩ := blk_read ((hb2.block _ (Nat.lt_of_lt_of_le (blk_lt HB6.out) hb1s)).trans ((HK1 _ (blk_lt HB6.out)).trans HB6.out))))
          all_goals
            go_wp2_with fail
            go_meet
            have hbA : Below wa.heap.size wa w3 := ((Below.refl _ wa).drew).trans ((hb1.mono (by first | exact Nat.le_refl _ | (simp; done) | (simp; omega))).trans (hb2.mono (by first | exact hb1s | (simp; omega))))
            rw [hcd, hnx]
            exact ⟨rfl, HCC.out w3 _ _ A2 _ c2 hbA (by have := HLA.out.size; simp; omega) rfl hown2 rfl⟩
        · obtain ⟨pb0, pb1⟩ := pickF_lt x.b (m := 10) (by omega)
          by_cases hls : R.ls = 0
          · have hls1 : (R.ls == 0) = true := by simp [hls]
            have hls2 : (R.ls != 0) = false := by simp [hls]
            have hst : startK R x = 1 + pickF x.a 30 := by unfold startK; simp [hls]
            have hnx : nextK R x = commitRow R (1 + pickF x.a 30) (1 + pickF x.a 30 + 1 + pickF x.b 10) := by unfold nextK; rw [HPK.out, hst]; rfl
            have hcd : codeK R x = commitCode R (1 + pickF x.a 30) (1 + pickF x.a 30 + 1 + pickF x.b 10) := by unfold codeK; rw [HPK.out, hst]; rfl
            rw [hnx] at HC
            have HCC := Lib.hid HC
            clear HC
            have hw1 : IntKind.i64.wrap (1 + pickF x.a 30 + 1) = 1 + pickF x.a 30 + 1 := wrap_in (by omega) (by omega)
            have hw2 : IntKind.i64.wrap (1 + pickF x.a 30 + 1 + pickF x.b 10) = 1 + pickF x.a 30 + 1 + pickF x.b 10 := wrap_in (by omega) (by omega)
            have HLS := Lib.hid hls
            clear hls
            go_wp2_with fail
            go_region_law (first | (go_simp; go_at_call 17; refine (picked_any x.b 10 _ (by exact HXO.out.2.2.1) (by omega) (by omega)).mono ?_; rintro e w2 ⟨rfl, rfl⟩) | (go_simp; go_at_call 22; refine (commit_any R (1 + pickF x.a 30) (1 + pickF x.a 30 + 1 + pickF x.b 10) A' m' c' _ (by exact rowOk_own' (own_at HOA.out (fun g hg => by rfl)) HSZ.out HM.out)).mono ?_; rintro e w3 ⟨A2, c2, rfl, hown2, hb2⟩; obtain ⟨hc6k, hf6k⟩ := blk_read ((hb2.block _ (by exact blk_lt HB6.out)).trans HB6.out)))
            all_goals
              go_wp2_with fail
              go_meet
              have hbA : Below wa.heap.size wa w3 := ((Below.refl _ wa).drew).trans (hb2.mono (by first | exact Nat.le_refl _ | (simp; done) | (simp; omega)))
              rw [hcd, hnx]
              exact ⟨rfl, HCC.out w3 _ _ A2 _ c2 hbA (by have := HLA.out.size; simp; omega) rfl hown2 rfl⟩
          · have hls1 : (R.ls == 0) = false := by simp [hls]
            have hls2 : (R.ls != 0) = true := by simp [hls]
            obtain ⟨hl1, hl2, _⟩ := HG.out.lock hls
            have hst : startK R x = R.ls := by unfold startK; simp [hls]
            have hnx : nextK R x = commitRow R (R.ls) (R.ls + 1 + pickF x.b 10) := by unfold nextK; rw [HPK.out, hst]; rfl
            have hcd : codeK R x = commitCode R (R.ls) (R.ls + 1 + pickF x.b 10) := by unfold codeK; rw [HPK.out, hst]; rfl
            rw [hnx] at HC
            have HCC := Lib.hid HC
            clear HC
            have hw1 : IntKind.i64.wrap (R.ls + 1) = R.ls + 1 := wrap_in (by omega) (by omega)
            have hw2 : IntKind.i64.wrap (R.ls + 1 + pickF x.b 10) = R.ls + 1 + pickF x.b 10 := wrap_in (by omega) (by omega)
            have HLS := Lib.hid hls
            clear hls
            go_wp2_with fail
            go_region_law (first | (go_simp; go_at_call 17; refine (picked_any x.b 10 _ (by exact HXO.out.2.2.1) (by omega) (by omega)).mono ?_; rintro e w2 ⟨rfl, rfl⟩) | (go_simp; go_at_call 22; refine (commit_any R (R.ls) (R.ls + 1 + pickF x.b 10) A' m' c' _ (by exact rowOk_own' (own_at HOA.out (fun g hg => by rfl)) HSZ.out HM.out)).mono ?_; rintro e w3 ⟨A2, c2, rfl, hown2, hb2⟩; obtain ⟨hc6k, hf6k⟩ := blk_read ((hb2.block _ (by exact blk_lt HB6.out)).trans HB6.out)))
            all_goals
              go_wp2_with fail
              go_meet
              have hbA : Below wa.heap.size wa w3 := ((Below.refl _ wa).drew).trans (hb2.mono (by first | exact Nat.le_refl _ | (simp; done) | (simp; omega)))
              rw [hcd, hnx]
              exact ⟨rfl, HCC.out w3 _ _ A2 _ c2 hbA (by have := HLA.out.size; simp; omega) rfl hown2 rfl⟩
        · obtain ⟨pb0, pb1⟩ := pickF_lt x.b (m := 10) (by omega)
          by_cases hls : R.ls = 0
          · have hls1 : (R.ls == 0) = true := by simp [hls]
            have hls2 : (R.ls != 0) = false := by simp [hls]
            have hst : startK R x = 1 + pickF x.a 30 := by unfold startK; simp [hls]
            have hnx : nextK R x = commitRow R (1 + pickF x.a 30) (1 + pickF x.a 30 + 1 + pickF x.b 10) := by unfold nextK; rw [HPK.out, hst]; rfl
            have hcd : codeK R x = commitCode R (1 + pickF x.a 30) (1 + pickF x.a 30 + 1 + pickF x.b 10) := by unfold codeK; rw [HPK.out, hst]; rfl
            rw [hnx] at HC
            have HCC := Lib.hid HC
            clear HC
            have hw1 : IntKind.i64.wrap (1 + pickF x.a 30 + 1) = 1 + pickF x.a 30 + 1 := wrap_in (by omega) (by omega)
            have hw2 : IntKind.i64.wrap (1 + pickF x.a 30 + 1 + pickF x.b 10) = 1 + pickF x.a 30 + 1 + pickF x.b 10 := wrap_in (by omega) (by omega)
            have HLS := Lib.hid hls
            clear hls
            go_wp2_with fail
            go_region_law (first | (go_simp; go_at_call 17; refine (picked_any x.b 10 _ (by exact HXO.out.2.2.1) (by omega) (by omega)).mono ?_; rintro e w2 ⟨rfl, rfl⟩) | (go_simp; go_at_call 22; refine (commit_any R (1 + pickF x.a 30) (1 + pickF x.a 30 + 1 + pickF x.b 10) A' m' c' _ (by exact rowOk_own' (own_at HOA.out (fun g hg => by rfl)) HSZ.out HM.out)).mono ?_; rintro e w3 ⟨A2, c2, rfl, hown2, hb2⟩; obtain ⟨hc6k, hf6k⟩ := blk_read ((hb2.block _ (by exact blk_lt HB6.out)).trans HB6.out)))
            all_goals
              go_wp2_with fail
              go_meet
              have hbA : Below wa.heap.size wa w3 := ((Below.refl _ wa).drew).trans (hb2.mono (by first | exact Nat.le_refl _ | (simp; done) | (simp; omega)))
              rw [hcd, hnx]
              exact ⟨rfl, HCC.out w3 _ _ A2 _ c2 hbA (by have := HLA.out.size; simp; omega) rfl hown2 rfl⟩
          · have hls1 : (R.ls == 0) = false := by simp [hls]
            have hls2 : (R.ls != 0) = true := by simp [hls]
            obtain ⟨hl1, hl2, _⟩ := HG.out.lock hls
            have hst : startK R x = R.ls := by unfold startK; simp [hls]
            have hnx : nextK R x = commitRow R (R.ls) (R.ls + 1 + pickF x.b 10) := by unfold nextK; rw [HPK.out, hst]; rfl
            have hcd : codeK R x = commitCode R (R.ls) (R.ls + 1 + pickF x.b 10) := by unfold codeK; rw [HPK.out, hst]; rfl
            rw [hnx] at HC
            have HCC := Lib.hid HC
            clear HC
            have hw1 : IntKind.i64.wrap (R.ls + 1) = R.ls + 1 := wrap_in (by omega) (by omega)
            have hw2 : IntKind.i64.wrap (R.ls + 1 + pickF x.b 10) = R.ls + 1 + pickF x.b 10 := wrap_in (by omega) (by omega)
            have HLS := Lib.hid hls
            clear hls
            go_wp2_with fail
            go_region_law (first | (go_simp; go_at_call 17; refine (picked_any x.b 10 _ (by exact HXO.out.2.2.1) (by omega) (by omega)).mono ?_; rintro e w2 ⟨rfl, rfl⟩) | (go_simp; go_at_call 22; refine (commit_any R (R.ls) (R.ls + 1 + pickF x.b 10) A' m' c' _ (by exact rowOk_own' (own_at HOA.out (fun g hg => by rfl)) HSZ.out HM.out)).mono ?_; rintro e w3 ⟨A2, c2, rfl, hown2, hb2⟩; obtain ⟨hc6k, hf6k⟩ := blk_read ((hb2.block _ (by exact blk_lt HB6.out)).trans HB6.out)))
            all_goals
              go_wp2_with fail
              go_meet
              have hbA : Below wa.heap.size wa w3 := ((Below.refl _ wa).drew).trans (hb2.mono (by first | exact Nat.le_refl _ | (simp; done) | (simp; omega)))
              rw [hcd, hnx]
              exact ⟨rfl, HCC.out w3 _ _ A2 _ c2 hbA (by have := HLA.out.size; simp; omega) rfl hown2 rfl⟩
        · have hnx : nextK R x = undoRow R (1 + pickF x.a 30) := by unfold nextK; rw [HPK.out]; rfl
          have hcd : codeK R x = undoCode R (1 + pickF x.a 30) := by unfold codeK; rw [HPK.out]; rfl
          rw [hnx] at HC
          have HCC := Lib.hid HC
          clear HC
          go_wp2_with fail
          refine (undo_any R (1 + pickF x.a 30) A' m' c' _ (by exact rowOk_own' (own_at HOA.out (fun g hg => by rfl)) HSZ.out HM.out)).mono ?_
          rintro e w3 ⟨A2, c2, rfl, hown2, hb2⟩
          obtain ⟨hc6k, hf6k⟩ := blk_read ((hb2.block _ (by exact blk_lt HB6.out)).trans HB6.out)
          go_wp2_with fail
          go_meet
          rw [hcd, hnx]
          exact ⟨rfl, HCC.out w3 _ _ A2 _ c2 hb2 (by have := HLA.out.size; omega) rfl hown2 rfl⟩
      case rest =>
        obtain ⟨rfl, A2, m2, c2, hm2, hN6, hO2, hN1, hO1, hLx, hN0⟩ := hcut
        have HLx := Lib.hid hLx
        have HN0 := Lib.hid hN0
        have HN1 := Lib.hid hN1
        have HN6 := Lib.hid hN6
        have HO1 := Lib.hid hO1
        have HO2 := Lib.hid hO2
        have HM2 := Lib.hid hm2
        have HST : Hid ((l.take (k + 1)).foldl stepK (emptyRow rowName) = stepK R x) := by show _ = _; rw [foldl_snoc HX.out, HRR.out]
        clear hLx hN0 hN1 hN6 hO1 hO2 hm2
        try clear hc0 hf0 hc1 hf1
        clear hc5 hf5 hc6 hf6
        obtain ⟨hc1, hf1⟩ := blk_read HN1.out
        obtain ⟨hc6, hf6⟩ := blk_read HN6.out
        by_cases h0 : codeK R x = 0
        · have hst : stepK R x = nextK R x := by unfold stepK; rw [if_pos h0]
          rw [hst] at HST
          have h01 : (codeK R x == 0) = true := by simp [h0]
          have H0 := Lib.hid h0
          clear h0
          go_wp2_with fail
          go_roundw
          case rel =>
            refine ⟨⟨k + 1, by omega, by omega, by go_num, nextK R x, A2, m2, c2, HST.out.symm, HM2.out, own_row5_far HO2.out (own_ne HO2.out HN1.out (by decide)) _ _ _ _ _, blk_row5 HN1.out _ _ _ _ _⟩, below_row5 HLx.out (by omega) _ _ _ _ _, blk_row5_far HN0.out (by omega) _ _ _ _ _⟩
          case measure => simp [intOf]; omega
        · have hst : stepK R x = R := by unfold stepK; rw [if_neg h0]
          rw [hst] at HST
          have h01 : (codeK R x == 0) = false := by simp [h0]
          have H0 := Lib.hid h0
          clear h0
          go_wp2_with fail
          go_roundw
          case rel =>
            refine ⟨⟨k + 1, by omega, by omega, by go_num, R, A', m', c', HST.out.symm, HM.out, HO1.out, HN1.out⟩, HLx.out, HN0.out⟩
          case measure => simp [intOf]; omega
    · have hall : l.take k = l.take 40 := by
        have hln := Hn.out
        by_cases h40 : k = 40
        · rw [h40]
        · rw [List.take_of_length_le (by omega), List.take_of_length_le (by omega)]
      have hrow : rowK l = R := by unfold rowK; rw [← hall, HRR.out]
      have HRW := Lib.hid hrow
      have hnlt : (k = n ∧ decide ((k : Int) < n) = false) ∨ (k < n ∧ k = 40 ∧ decide ((k : Int) < n) = true ∧ decide ((k : Int) < 40) = false) := by
        by_cases h1 : k < n
        · exact .inr ⟨h1, by omega, by simp; omega, by simp; omega⟩
        · exact .inl ⟨by omega, by simp; omega⟩
      clear hrow hall
      rcases hnlt with ⟨hkn, hd⟩ | ⟨hkn, hk4, hd, hd4⟩
      all_goals
        go_wp2_with fail
        refine bodyPost_ret (v := .agg #[.string R.key, .int .i64 R.ls, .string R.lp, .string R.value, .slice A' m' c']) (by simp [results, Tryd.results12, go_sem, hc0]) rfl ?_
        rw [HRW.out]
        exact ⟨A', m', c', HM.out, rfl, own_row5_far HO.out (own_ne HO.out HB0.out (by decide)) _ _ _ _ _, below_row5 HL.out (Nat.le_refl _) _ _ _ _ _⟩
end Go.Proofs.YtniomgngiiiklabDoor
