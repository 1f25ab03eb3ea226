/- The walk of top's value: what the transactions committed ahead of an act tell of a key, at a time. -/
import Derived.Test.YtniomgngiiiklaaDoorDeals
import Derived.Deep.CutBlock
import Derived.Deep.DeepCutAuto
import Derived.LoopTactic
import Derived.Outline
namespace Go.Proofs.YtniomgngiiiklaaDoor
open Go.RowKit Go.Maps

/-- A deal or none yet, and its map. -/
def BestIs (w : World) (b : Deal) (m : Option Nat) : Prop := (m = none ∧ b = zeroDeal) ∨ ∃ g, m = some g ∧ g < w.heap.size ∧ MapReads 400 w g b.writes
theorem best_look {w v : World} {b : Deal} {m : Option Nat} {key : ByteArray} (h : BestIs w b m) (hb : Below w.heap.size w v) (hk : key.size ≤ maxLen) : (Instr.lookup 41 (.map m) (.string key) false).run Tryd.prog v = .ok (.string (strOf b.writes key)) v := by
  rcases h with ⟨rfl, rfl⟩ | ⟨g, rfl, hg, hm⟩
  · exact look_none hk
  · exact (hm.keep (hb.block g hg)).look hk
theorem best_turn {k : ByteArray} {t : Int} {act : Nat} {L : List DealM} {j : Nat} {x : DealM} {b : Deal} (hx : L[j]? = some x) (hb : b = ((L.take j).map pairOf).foldl (betterT k t act) zeroDeal) :
    betterT k t act b (x.d, x.act) = ((L.take (j + 1)).map pairOf).foldl (betterT k t act) zeroDeal := by
  obtain ⟨hj, rfl⟩ := List.getElem?_eq_some_iff.1 hx
  rw [List.take_succ_eq_append_getElem hj, List.map_append, List.foldl_append, ← hb]
  rfl

set_option maxRecDepth 100000 in
set_option maxHeartbeats 4000000 in
theorem value_any (L : List DealM) (key : ByteArray) (at_ : Int) (act : Nat) (A : Option Addr) (n c : Nat) (w : World) (h : DealsOk w w.heap.size A n L) (hn : n ≤ 100) (hk : key.size ≤ maxLen) :
    Calls Tryd.prog 8 #[.slice A n c, .string key, .int .i64 at_, .int .i64 act] w fun e w' => e = .returned (.tuple #[.string (valueT (L.map pairOf) key at_ act).1, .bool (valueT (L.map pairOf) key at_ act).2]) ∧ Below w.heap.size w w' := by
  have HD := Lib.hid h
  have HK := Lib.hid hk
  obtain ⟨V, hV⟩ : ∃ V, V = valueT (L.map pairOf) key at_ act := ⟨_, rfl⟩
  rw [← hV]
  have HV := Lib.hid hV
  clear h hk hV
  go_enter Tryd.func8, Tryd.ntmps8
  go_wp2_with fail
  go_loopw [18] (fun i wr => (∃ k : Nat, k ≤ n ∧ i = .int .i64 k ∧ ∃ (b : Deal) (m : Option Nat) (a' : Int), BestIs w b m ∧ b = ((L.take k).map pairOf).foldl (betterT key at_ act) zeroDeal ∧
      wr.heap[w.heap.size]? = some (.cells #[.int .i64 b.start, .int .i64 b.commit, .int .i64 a', .map m] 48 (0, 0))) ∧ Below w.heap.size w wr) (fun i _ => n - (intOf i).toNat)
  case atStart => exact ⟨⟨0, Nat.zero_le _, rfl, zeroDeal, none, 0, .inl ⟨rfl, rfl⟩, rfl, blk_new w _ _⟩, (Below.refl _ w).alloc (Nat.le_refl _) _⟩
  case round =>
    obtain ⟨⟨k, hk, rfl, b, m, a', hbest, hbf, hblk⟩, hbel⟩ := hrel
    have HB := Lib.hid hbest
    have HBF := Lib.hid hbf
    have HBL := Lib.hid hblk
    have HL := Lib.hid hbel
    clear hbest hbf hblk hbel
    obtain ⟨hc0, hf0⟩ := blk_read HBL.out
    have hz0 := blk_lt HBL.out
    by_cases hlt : k < n
    · obtain ⟨x, gb, off, hx, rfl, hbb, q0, q1, q2, q3, hxm, hmr⟩ := (HD.out.below HL.out (Nat.le_refl _)).deal hlt
      have HX := Lib.hid hx
      have HXM : Hid (x.m < w.heap.size) := hxm
      have HMR := Lib.hid hmr
      clear hx hxm hmr
      go_upto_region 5 with (fail)
      obtain ⟨v, hv⟩ : ∃ v, v = wr.alloc (.cells #[.int .i64 x.d.start, .int .i64 x.d.commit, .int .i64 x.act, .map (some x.m)] 48) := ⟨_, rfl⟩
      obtain ⟨g12, hg12⟩ : ∃ g12, g12 = wr.heap.size := ⟨_, rfl⟩
      rw [← hv, ← hg12]
      have HB12 : Hid (v.heap[g12]? = some (.cells #[.int .i64 x.d.start, .int .i64 x.d.commit, .int .i64 x.act, .map (some x.m)] 48 (0, 0))) := by show _ = _; rw [hv, hg12]; exact blk_new wr _ _
      have HB10 : Hid (v.heap[w.heap.size]? = some (.cells #[.int .i64 b.start, .int .i64 b.commit, .int .i64 a', .map m] 48 (0, 0))) := by show _ = _; rw [hv]; exact blk_old HBL.out _
      have HLv : Hid (Below w.heap.size w v) := by show Below _ _ _; rw [hv]; exact HL.out.alloc (Nat.le_of_lt hz0) _
      have hlk : (Instr.lookup 41 (.map (some x.m)) (.string key) true).run Tryd.prog v = .ok (.tuple #[.string (strOf x.d.writes key), .bool (writeOf x.d.writes key).isSome]) v := by
        rw [hv]; exact (HMR.out.alloc _).look_ok HK.out
      have HMW : Hid (MapReads 400 w x.m x.d.writes) := HMR.out.keep (HL.out.block x.m HXM.out).symm
      have HT := Lib.hid (best_turn (k := key) (t := at_) (act := act) HX.out HBF.out)
      clear hv hg12 hc0 hf0 hz0 q0 q1 q2 q3 HBL HL HMR
      obtain ⟨hc0, hf0⟩ := blk_read HB10.out
      obtain ⟨hc1, hf1⟩ := blk_read HB12.out
      by_cases hT : (writeOf x.d.writes key).isSome = true ∧ x.act < act ∧ x.d.commit ≤ at_ ∧ b.commit < x.d.commit
      · obtain ⟨h1, h2, h3, h4⟩ := hT
        have HN : Hid (x.d = ((L.take (k + 1)).map pairOf).foldl (betterT key at_ act) zeroDeal) := by
          show _ = _
          rw [← HT.out]
          exact (if_pos ⟨h1, h2, h3, h4⟩).symm
        rw [h1] at hlk
        have d2 : decide ((x.act : Int) < (act : Int)) = true := decide_eq_true (by omega)
        have d2' : decide (x.act < act) = true := decide_eq_true h2
        have d3 : decide (x.d.commit ≤ at_) = true := decide_eq_true h3
        have d4 : decide (b.commit < x.d.commit) = true := decide_eq_true h4
        clear h1 h2 h3 h4
        go_wp2_with fail
        go_roundw
        case rel =>
          refine ⟨⟨k + 1, by omega, by go_num, x.d, some x.m, x.act, .inr ⟨x.m, rfl, HXM.out, HMW.out⟩, HN.out, blk_row4 HB10.out _ _ _ _⟩, ?_⟩
          exact (((HLv.out.setCell (p := ⟨w.heap.size, 0, none⟩) (Nat.le_refl _) _).setCell (p := ⟨w.heap.size, 1, none⟩) (Nat.le_refl _) _).setCell (p := ⟨w.heap.size, 2, none⟩) (Nat.le_refl _) _).setCell (p := ⟨w.heap.size, 3, none⟩) (Nat.le_refl _) _
        case measure => simp [intOf]; omega
      · have HN : Hid (b = ((L.take (k + 1)).map pairOf).foldl (betterT key at_ act) zeroDeal) := by
          show _ = _
          rw [← HT.out]
          exact (if_neg hT).symm
        have hrel' : ∀ wx : World, wx = v → (∃ j : Nat, j ≤ n ∧ Value.int .i64 ((k : Int) + 1) = .int .i64 j ∧ ∃ (b : Deal) (m : Option Nat) (a' : Int), BestIs w b m ∧ b = ((L.take j).map pairOf).foldl (betterT key at_ act) zeroDeal ∧
            wx.heap[w.heap.size]? = some (.cells #[.int .i64 b.start, .int .i64 b.commit, .int .i64 a', .map m] 48 (0, 0))) ∧ Below w.heap.size w wx := by
          rintro _ rfl
          exact ⟨⟨k + 1, by omega, by go_num, b, m, a', HB.out, HN.out, HB10.out⟩, HLv.out⟩
        have HREL := Lib.hid hrel'
        clear hrel'
        cases h1 : (writeOf x.d.writes key).isSome
        · rw [h1] at hlk
          clear hT h1
          go_wp2_with fail
          go_roundw
          case rel => exact HREL.out _ rfl
          case measure => simp [intOf]; omega
        rw [h1] at hlk
        by_cases h2 : x.act < act
        · have d2 : decide ((x.act : Int) < (act : Int)) = true := decide_eq_true (by omega)
          have d2' : decide (x.act < act) = true := decide_eq_true h2
          by_cases h3 : x.d.commit ≤ at_
          · have d3 : decide (x.d.commit ≤ at_) = true := decide_eq_true h3
            have d4 : decide (b.commit < x.d.commit) = false := decide_eq_false fun h4 => hT ⟨h1, h2, h3, h4⟩
            clear hT h1 h2 h3
            go_wp2_with fail
            go_roundw
            case rel => exact HREL.out _ rfl
            case measure => simp [intOf]; omega
          · have d3 : decide (x.d.commit ≤ at_) = false := decide_eq_false h3
            clear hT h1 h2 h3
            go_wp2_with fail
            go_roundw
            case rel => exact HREL.out _ rfl
            case measure => simp [intOf]; omega
        · have d2 : decide ((x.act : Int) < (act : Int)) = false := decide_eq_false (by omega)
          have d2' : decide (x.act < act) = false := decide_eq_false h2
          clear hT h1 h2
          go_wp2_with fail
          go_roundw
          case rel => exact HREL.out _ rfl
          case measure => simp [intOf]; omega
    · obtain rfl : k = n := by omega
      have hlk := fun j : Nat => best_look HB.out (below_drewN HL.out j) HK.out
      have HE : Hid (V = (strOf b.writes key, decide (0 < b.commit))) := by
        show _ = _
        have hall : L.take k = L := List.take_of_length_le (by rw [HD.out.cells.len]; exact Nat.le_refl _)
        have hbf := HBF.out
        rw [hall] at hbf
        rw [HV.out, hbf]; rfl
      clear hlt hk hz0
      go_wp2_with fail
      go_quiet (fail)
      go_wp2
      refine bodyPost_ret (v := .tuple #[.string (strOf b.writes key), .bool (decide (0 < b.commit))]) (by simp [results, Tryd.results8, go_sem]) rfl ?_
      rw [HE.out]
      exact ⟨rfl, below_drewN HL.out _⟩
end Go.Proofs.YtniomgngiiiklaaDoor
