/- The walks of strconv.Itoa at numbers below a hundred, and of keep's Acts: the acts of raw things. -/
import Derived.Test.YtniomgngiiiklabDoorLawPlain
import Derived.Test.YtniomgngiiiklabDoorOwn
import Derived.Test.YtniomgngiiiklabDoorCopy
import Derived.Test.YtniomgngiiiklabDoorRep
import Derived.Deep.RegionHeld3
import Derived.Deep.RegionLaw
import Derived.Deep.CutBlock
import Derived.Deep.DeepCutAuto
import Derived.Outline
namespace Go.Proofs.YtniomgngiiiklabDoor
open Go.RowKit

set_option maxRecDepth 100000 in
theorem small_any (i : Nat) (h : i < 100) (w : World) :
    Calls Tryd.prog 78 #[.int .i64 i] w fun e w' => e = .returned (.string (itoaF i)) ∧ w = w' := by
  unfold itoaF
  have hs1 : digits36.size = 36 := by decide
  have hs2 : pairs100.size = 200 := by decide +kernel
  by_cases hi : i < 10
  · rw [if_pos hi]
    go_enter Tryd.func78, Tryd.ntmps78
    go_wp2_with fail
    go_ret
    exact ⟨rfl, rfl⟩
  · rw [if_neg hi]
    go_enter Tryd.func78, Tryd.ntmps78
    go_wp2_with fail
    go_ret
    exact ⟨congrArg (fun b : ByteArray => Ending.returned (Value.string (b.extract (i * 2) (i * 2 + 2)))) (by kernel_rfl), rfl⟩
theorem itoa_two (i : Nat) (h : i < 100) (w : World) :
    Calls Tryd.prog 36 #[.int .i64 i] w fun e w' => e = .returned (.string (itoaF i)) ∧ w = w' := by
  have d1 : decide ((0 : Int) ≤ (i : Int)) = true := decide_eq_true (by omega)
  have d2 : decide ((i : Int) < 100) = true := decide_eq_true (by omega)
  go_enter Tryd.func36, Tryd.ntmps36
  go_wp2_with (first | (go_at_call 78; refine (small_any i h _).mono ?_; rintro e w' ⟨rfl, rfl⟩) | go_in)
  go_ret
  exact ⟨rfl, rfl⟩

theorem info_act : (Tryd.prog.info? 62).map (fun i => (i.zero, i.size, i.bytes)) = some (some (.agg #[.int .i64 0, .int .i64 0, .string ⟨#[]⟩, .string ⟨#[]⟩]), 4, 48) := by kernel_rfl
theorem act_one {a : MAct} : ∀ u ∈ a.cells, u.oneCell' = true := fun u hu => by
  simp [MAct.cells] at hu; rcases hu with rfl | rfl | rfl | rfl <;> rfl
theorem news4 {w : World} {g : Nat} {t : TypeId} {a b c d : Value} (h : w.heap[g]? = some (.cells #[a, b, c, d] t (0, 0))) : ∀ j u, [a, b, c, d][j]? = some u → w.cell? ((⟨g, 0, none⟩ : Addr).add j) = some u := by
  intro j u hu
  rw [addr_add, (blk_read h).1]
  simpa using hu

/-- An act laid in new memory, behind a call that made some, or ahead of it. -/
theorem act_new1 {wa w1 : World} {a b c d : Value} (hb : Below wa.drew.heap.size wa.drew w1) : ∃ g, Value.pointer (some ⟨w1.heap.size, 0, none⟩) = Value.pointer (some ⟨g, 0, none⟩) ∧ wa.heap.size ≤ g ∧
    (w1.alloc (.cells #[a, b, c, d] 62)).heap[g]? = some (.cells #[a, b, c, d] 62 (0, 0)) ∧ Below wa.heap.size wa (w1.alloc (.cells #[a, b, c, d] 62)) :=
  ⟨w1.heap.size, rfl, hb.size, blk_new w1 _ _, (((Below.refl wa.heap.size wa).drew).trans hb).alloc hb.size _⟩
theorem act_new2 {wa w1 : World} {a b c d a' b' c' d' : Value} (hb : Below (wa.alloc (.cells #[a', b', c', d'] 62)).drew.heap.size (wa.alloc (.cells #[a', b', c', d'] 62)).drew w1) :
    ∃ g, Value.pointer (some ⟨wa.heap.size, 0, none⟩) = Value.pointer (some ⟨g, 0, none⟩) ∧ wa.heap.size ≤ g ∧
    ((((w1.setCell ⟨wa.heap.size, 0, none⟩ a).setCell ⟨wa.heap.size, 1, none⟩ b).setCell ⟨wa.heap.size, 2, none⟩ c).setCell ⟨wa.heap.size, 3, none⟩ d).heap[g]? = some (.cells #[a, b, c, d] 62 (0, 0)) ∧
      Below wa.heap.size wa ((((w1.setCell ⟨wa.heap.size, 0, none⟩ a).setCell ⟨wa.heap.size, 1, none⟩ b).setCell ⟨wa.heap.size, 2, none⟩ c).setCell ⟨wa.heap.size, 3, none⟩ d) := by
  have h0 : w1.heap[wa.heap.size]? = some (.cells #[a', b', c', d'] 62 (0, 0)) := (hb.block wa.heap.size (by simp)).trans (blk_new wa _ _)
  exact ⟨wa.heap.size, rfl, Nat.le_refl _, by simpa using blk_set (blk_set (blk_set (blk_set h0 0 a) 1 b) 2 c) 3 d,
    (((((((Below.refl wa.heap.size wa).alloc (Nat.le_refl _) _).drew).trans (hb.mono (by simp))).setCell (p := ⟨wa.heap.size, 0, none⟩) (Nat.le_refl _) a).setCell (p := ⟨wa.heap.size, 1, none⟩) (Nat.le_refl _) b).setCell (p := ⟨wa.heap.size, 2, none⟩) (Nat.le_refl _) c).setCell (p := ⟨wa.heap.size, 3, none⟩) (Nat.le_refl _) d⟩

section
variable {w wc : World} {B g : Nat} {a b c d : Value} {base n : Nat} {v : Value} {xs : List Value}
theorem acts_set1 (hg : wc.heap[g]? = some (.cells #[a, b, c, d] 62 (0, 0))) (hb : Below B w wc) (ho : wc.ownsRow base 62 4 v n xs) (hn : B ≤ g) (hne : some g ≠ v.ownBlock) (a' : Value) :
    (wc.setCell ⟨g, 0, none⟩ a').heap[g]? = some (.cells #[a', b, c, d] 62 (0, 0)) ∧ Below B w (wc.setCell ⟨g, 0, none⟩ a') ∧ (wc.setCell ⟨g, 0, none⟩ a').ownsRow base 62 4 v n xs :=
  ⟨by simpa using blk_set hg 0 a', hb.setCell (p := ⟨g, 0, none⟩) hn a', own_far ho hne a'⟩
theorem acts_set2 (hg : wc.heap[g]? = some (.cells #[a, b, c, d] 62 (0, 0))) (hb : Below B w wc) (ho : wc.ownsRow base 62 4 v n xs) (hn : B ≤ g) (hne : some g ≠ v.ownBlock) (a' d' : Value) :
    ((wc.setCell ⟨g, 0, none⟩ a').setCell ⟨g, 3, none⟩ d').heap[g]? = some (.cells #[a', b, c, d'] 62 (0, 0)) ∧ Below B w ((wc.setCell ⟨g, 0, none⟩ a').setCell ⟨g, 3, none⟩ d') ∧ ((wc.setCell ⟨g, 0, none⟩ a').setCell ⟨g, 3, none⟩ d').ownsRow base 62 4 v n xs :=
  ⟨by simpa using blk_set (blk_set hg 0 a') 3 d', (hb.setCell (p := ⟨g, 0, none⟩) hn a').setCell (p := ⟨g, 3, none⟩) hn d', own_far (own_far ho hne a') hne d'⟩
theorem acts_set4 (hg : wc.heap[g]? = some (.cells #[a, b, c, d] 62 (0, 0))) (hb : Below B w wc) (ho : wc.ownsRow base 62 4 v n xs) (hn : B ≤ g) (hne : some g ≠ v.ownBlock) (a' b' c' d' : Value) :
    ((((wc.setCell ⟨g, 0, none⟩ a').setCell ⟨g, 1, none⟩ b').setCell ⟨g, 2, none⟩ c').setCell ⟨g, 3, none⟩ d').heap[g]? = some (.cells #[a', b', c', d'] 62 (0, 0)) ∧ Below B w ((((wc.setCell ⟨g, 0, none⟩ a').setCell ⟨g, 1, none⟩ b').setCell ⟨g, 2, none⟩ c').setCell ⟨g, 3, none⟩ d') ∧
      ((((wc.setCell ⟨g, 0, none⟩ a').setCell ⟨g, 1, none⟩ b').setCell ⟨g, 2, none⟩ c').setCell ⟨g, 3, none⟩ d').ownsRow base 62 4 v n xs :=
  ⟨by simpa using blk_set (blk_set (blk_set (blk_set hg 0 a') 1 b') 2 c') 3 d', (((hb.setCell (p := ⟨g, 0, none⟩) hn a').setCell (p := ⟨g, 1, none⟩) hn b').setCell (p := ⟨g, 2, none⟩) hn c').setCell (p := ⟨g, 3, none⟩) hn d', own_far (own_far (own_far (own_far ho hne a') hne b') hne c') hne d'⟩
end

set_option maxRecDepth 100000 in
set_option maxHeartbeats 8000000 in
theorem keepActs_any (l : List MRaw) (mo cn : Nat) (A : Option Addr) (n c : Nat) (w : World) (h : RawsOk w w.heap.size A n c l) (hmo : mo ≤ 100) (hcn : 1 ≤ cn) (hcn' : cn ≤ 5) :
    Calls Tryd.prog 16 #[.slice A n c, .int .i64 mo, .int .i64 cn] w
      fun e w' => ∃ A' m' c', e = .returned (.slice A' m' c') ∧ w'.ownsRow w.heap.size 62 4 (.slice A' m' c') m' (actCells (actsK cn mo l)) ∧ Below w.heap.size w w' := by
  obtain ⟨i0, hi0, hz0, hz1, hz2⟩ := info_parts info_act
  have HR := Lib.hid h
  have hsm := h.small
  have HN := Lib.hid h.len
  clear h
  go_enter Tryd.func16, Tryd.ntmps16
  go_wp2_with fail
  go_loopw [7, 8] (fun out i wr => (∃ k : Nat, k ≤ n ∧ k ≤ mo ∧ i = .int .i64 k ∧ ∃ A' c', out = .slice A' k c' ∧ wr.ownsRow w.heap.size 62 4 (.slice A' k c') k (actCells ((l.take k).mapIdx (actOf cn)))) ∧ Below w.heap.size w wr) (fun _ i _ => 100 - (intOf i).toNat)
  case atStart => exact ⟨⟨0, Nat.zero_le _, Nat.zero_le _, rfl, none, 0, rfl, World.ownsRow_nil _ _ _ _⟩, Below.refl _ _⟩
  case round =>
    obtain ⟨⟨k, hk, hkm, rfl, A', c', rfl, ho⟩, hbel⟩ := hrel
    have HL := Lib.hid hbel
    have HO := Lib.hid ho
    clear hbel ho
    have hzw := HL.out.size
    by_cases hlt : k < n ∧ k < mo
    · obtain ⟨hkn, hk4⟩ := hlt
      obtain ⟨x, b, off, hx, hxo, rfl, hbb, g0, g1, g2, g3⟩ := (HR.out.keep (fun g hg => HL.out.block g hg) (Nat.le_refl _)).raw hkn
      have HX := Lib.hid hx
      have HXO := Lib.hid hxo
      clear hx hxo
      have d1 : decide ((k : Int) < (mo : Int)) = true := decide_eq_true (by omega)
      have d2 : decide ((k : Int) < (n : Int)) = true := decide_eq_true (by omega)
      have d3 : decide (k < mo) = true := decide_eq_true hk4
      have d4 : decide (k < n) = true := decide_eq_true hkn
      go_upto_region 6 with (fail)
      obtain ⟨wa, hwa⟩ : ∃ wa : World, wa = wr.alloc (.cells #[.int .i64 x.kind, .int .i64 x.a, .int .i64 x.b, .int .i64 x.c] 78) := ⟨_, rfl⟩
      rw [← hwa]
      have HB9 : Hid (wa.heap[wr.heap.size]? = some (.cells #[.int .i64 x.kind, .int .i64 x.a, .int .i64 x.b, .int .i64 x.c] 78 (0, 0))) := by show _ = _; rw [hwa]; exact blk_new wr _ _
      have HOA : Hid (Old wr wa) := by show Old _ _; rw [hwa]; exact old_alloc wr _
      have HLA : Hid (Below w.heap.size w wa) := by show Below _ _ _; rw [hwa]; exact HL.out.alloc hzw _
      have hk100 : k < 100 := by omega
      have hvs := vNum_size k
      have his : (itoaF k).size ≤ 19 := by
        unfold vNum at hvs
        rw [ByteArray.size_append] at hvs
        have : (⟨#[118]⟩ : ByteArray).size = 1 := rfl
        omega
      have hcat : ¬ 9223372036854775807 < 1 + (itoaF k).size := by omega
      clear hwa hvs his g0 g1 g2 g3
      obtain ⟨hc9, hf9⟩ := blk_read HB9.out
      have hz9 := blk_lt HB9.out
      have hA9 := fun (o : Obj) (i : Nat) => (World.cell?_alloc_past (w := wa) o wr.heap.size i hz9).trans (hc9 i)
      go_cut [10] (fun p wx => ∃ g, p = .pointer (some ⟨g, 0, none⟩) ∧ wa.heap.size ≤ g ∧ wx.heap[g]? = some (.cells #[.int .i64 0, .int .i64 (pickF x.c cn), .string (keyF x.a), .string ((⟨#[118]⟩ : ByteArray) ++ itoaF k)] 62 (0, 0)) ∧ Below wa.heap.size wa wx)
      case first =>
        go_region_law (first | (go_simp; go_at_call 35; refine (keepKey_any x.a _ (by exact HXO.out.2.1)).mono ?_; rintro e w1 ⟨rfl, hb1⟩; obtain ⟨hc9k, hf9k⟩ := blk_read ((hb1.block _ (blk_lt HB9.out)).trans HB9.out); have hA9k := fun (o : Obj) (i : Nat) => (World.cell?_alloc_past (w := w1) o wr.heap.size i (Nat.lt_of_lt_of_le hz9 hb1.size)).trans (hc9k i)) | (go_simp; go_at_call 35; refine (keepKey_any x.a _ (by exact HXO.out.2.1)).mono ?_; rintro e w1 ⟨rfl, hb1⟩; obtain ⟨hc9k, hf9k⟩ := blk_read ((hb1.block _ (by have := blk_lt HB9.out; simp; omega)).trans (blk_old HB9.out _)); obtain ⟨hc10, hf10⟩ := blk_read ((hb1.block wa.heap.size (by simp)).trans (blk_new wa _ _))) | (go_simp; go_at_call 17; refine (picked_any x.c cn _ (by exact HXO.out.2.2.2) (by omega) (by omega)).mono ?_; rintro e w2 ⟨rfl, rfl⟩) | (go_simp; go_at_call 36; refine (itoa_two k hk100 _).mono ?_; rintro e w2 ⟨rfl, rfl⟩))
        all_goals
          go_wp2_with fail
          go_meet
          first
            | (with_reducible exact act_new1 hb1)
            | (with_reducible exact act_new2 hb1)
      case rest =>
        obtain ⟨g, rfl, hg, hbg, hb⟩ := hcut
        have HBg := Lib.hid hbg
        have HB9c := Lib.hid ((hb.block _ hz9).trans HB9.out)
        have HLc := Lib.hid (HLA.out.trans (hb.mono HLA.out.size))
        have HOc := Lib.hid (own_at HO.out (fun b hb' => (hb.block b (Nat.lt_of_lt_of_le hb' HOA.out.size)).trans (HOA.out.block b hb')))
        have HG : Hid (w.heap.size ≤ g ∧ g ≠ wr.heap.size) := by show _ ∧ _; omega
        have HNE : Hid (some g ≠ (Value.slice A' k c').ownBlock) := by
          show _ ≠ _
          intro e
          have := (HO.out.lt g e.symm).2
          have h2 := HOA.out.size
          omega
        have n1 : ¬ (g = wr.heap.size) := HG.out.2
        have n2 : ¬ (wr.heap.size = g) := fun e => HG.out.2 e.symm
        clear hbg hb hg hc9 hf9 hA9 hcat hz9 HB9 HOA HLA
        obtain ⟨hc9, hf9⟩ := blk_read HB9c.out
        obtain ⟨hcg, hfg⟩ := blk_read HBg.out
        obtain ⟨p0, p1⟩ := pickF_lt x.kind (m := 30) (by omega)
        go_wp2_with fail
        refine (picked_any x.kind 30 _ (by exact HXO.out.1) (by omega) (by omega)).mono ?_
        rintro e w2 ⟨rfl, rfl⟩
        obtain ⟨pk, hpk⟩ : ∃ pk, pickF x.kind 30 = pk := ⟨_, rfl⟩
        rw [hpk] at p0 p1 ⊢
        have HPK := Lib.hid hpk
        clear hpk
        go_upto_block 2 with (fail)
        go_cut [] (fun wx => wx.heap[g]? = some (.cells #[.int .i64 (actOf cn k x).kind, .int .i64 (actOf cn k x).c, .string (actOf cn k x).key, .string (actOf cn k x).value] 62 (0, 0)) ∧ Below w.heap.size w wx ∧
          wx.ownsRow w.heap.size 62 4 (.slice A' k c') k (actCells ((l.take k).mapIdx (actOf cn))))
        case first =>
          have HW : ∀ a : MAct, actOf cn k x = a → Hid (actOf cn k x = a) := fun a h => h
          by_cases h5 : pk < 5
          · have HE := HW ⟨1, pickF x.c cn, ⟨#[]⟩, ⟨#[]⟩⟩ (by unfold actOf; rw [HPK.out, if_pos h5])
            clear HW
            go_wp2_with fail
            go_meet
            rw [HE.out]
            exact acts_set4 HBg.out HLc.out HOc.out HG.out.1 HNE.out _ _ _ _
          by_cases h9 : pk < 9
          · have HE := HW ⟨2, pickF x.c cn, keyF x.a, ⟨#[]⟩⟩ (by unfold actOf; rw [HPK.out, if_neg h5, if_pos h9])
            clear HW
            go_wp2_with fail
            go_meet
            rw [HE.out]
            exact acts_set2 HBg.out HLc.out HOc.out HG.out.1 HNE.out _ _
          by_cases h15 : pk < 15
          · have HE := HW ⟨3, pickF x.c cn, keyF x.a, vNum k⟩ (by unfold actOf; rw [HPK.out, if_neg h5, if_neg h9, if_pos h15])
            clear HW
            go_wp2_with fail
            go_meet
            rw [HE.out]
            exact acts_set1 HBg.out HLc.out HOc.out HG.out.1 HNE.out _
          by_cases h27 : pk < 27
          · have HE := HW ⟨4, pickF x.c cn, ⟨#[]⟩, ⟨#[]⟩⟩ (by unfold actOf; rw [HPK.out, if_neg h5, if_neg h9, if_neg h15, if_pos h27])
            clear HW
            go_wp2_with fail
            go_meet
            rw [HE.out]
            exact acts_set4 HBg.out HLc.out HOc.out HG.out.1 HNE.out _ _ _ _
          by_cases h28 : pk = 27
          · have HE := HW ⟨5, pickF x.c cn, ⟨#[]⟩, ⟨#[]⟩⟩ (by unfold actOf; rw [HPK.out, if_neg h5, if_neg h9, if_neg h15, if_neg h27, if_pos h28])
            clear HW
            subst h28
            go_wp2_with fail
            go_meet
            rw [HE.out]
            exact acts_set4 HBg.out HLc.out HOc.out HG.out.1 HNE.out _ _ _ _
          · have HE := HW ⟨6, pickF x.c cn, keyF x.a, ⟨#[]⟩⟩ (by unfold actOf; rw [HPK.out, if_neg h5, if_neg h9, if_neg h15, if_neg h27, if_neg h28])
            clear HW
            have e27 : (pk == 27) = false := by simpa using h28
            clear h28
            go_wp2_with fail
            go_meet
            rw [HE.out]
            exact acts_set2 HBg.out HLc.out HOc.out HG.out.1 HNE.out _ _
        case rest =>
          obtain ⟨hbg, hb, ho⟩ := hcut
          have HBe := Lib.hid hbg
          have HLe := Lib.hid hb
          have HOe := Lib.hid ho
          clear hbg hb ho hc9 hf9 hcg hfg
          obtain ⟨hcg, hfg⟩ := blk_read HBe.out
          generalize haa : actOf cn k x = a at *
          have HAA := Lib.hid haa
          clear haa
          have hze := HLe.out.size
          go_wp2_with (at_builtin; refine wpList_append_own _ rfl _ _ 40 rfl w.heap.size 62 i0 _ 4 48 Tryd.underlying40 hi0 hz0 hz1 hz2 rfl (by decide) (.slice A' k c') k (actCells ((l.take k).mapIdx (actOf cn))) rfl (HOe.out.alloc _) ⟨wc.heap.size, 0, none⟩ 1 1 a.cells rfl rfl ?c1 ?c2 ?c3 ?c4 ?c5 ?_)
          case c1 => exact news4 (by exact blk_new _ _ _)
          case c2 => exact act_one
          case c3 => unfold maxLen; omega
          case c4 => omega
          case c5 => simp; omega
          intro v' w3 hown3 hg3 _
          obtain ⟨A4, c4, hv⟩ := own_slice hown3
          rw [hv] at hown3 ⊢
          have HO3 := Lib.hid hown3
          have HL3 := Lib.hid ((HLe.out.alloc hze _).grown hg3 (by simp; omega) (fun j hj => own_base HOe.out j hj))
          clear hv hown3 hg3
          go_wp2_with fail
          go_roundw
          case rel =>
            refine ⟨⟨k + 1, by omega, by omega, by go_num, A4, c4, rfl, ?_⟩, HL3.out⟩
            rw [acts_snoc HX.out, HAA.out]
            have e : ∀ (l : List MAct) (a : MAct), actCells (l ++ [a]) = actCells l ++ a.cells := fun l a => flat_snoc
            rw [e]
            exact HO3.out
          case measure => simp [intOf]; omega
    · have hak : actsK cn mo l = (l.take k).mapIdx (actOf cn) := by
        unfold actsK
        congr 1
        by_cases h1 : mo ≤ n
        · have : k = mo := by omega
          rw [this]
        · have : k = n := by omega
          rw [this, List.take_of_length_le (by rw [HN.out]; omega), List.take_of_length_le (by rw [HN.out]; exact Nat.le_refl _)]
      have HAK := Lib.hid hak
      clear hak
      by_cases hkn : k < n
      · have hkm' : ¬ k < mo := fun h => hlt ⟨hkn, h⟩
        have d1 : decide ((k : Int) < (mo : Int)) = false := decide_eq_false (by omega)
        have d2 : decide ((k : Int) < (n : Int)) = true := decide_eq_true (by omega)
        have d3 : decide (k < mo) = false := decide_eq_false (by omega)
        have d4 : decide (k < n) = true := decide_eq_true hkn
        clear hlt
        go_wp2_with fail
        go_ret
        rw [HAK.out]
        exact ⟨A', k, c', rfl, HO.out, HL.out⟩
      · have d2 : decide ((k : Int) < (n : Int)) = false := decide_eq_false (by omega)
        have d4 : decide (k < n) = false := decide_eq_false hkn
        clear hlt
        go_wp2_with fail
        go_ret
        rw [HAK.out]
        exact ⟨A', k, c', rfl, HO.out, HL.out⟩
end Go.Proofs.YtniomgngiiiklabDoor
