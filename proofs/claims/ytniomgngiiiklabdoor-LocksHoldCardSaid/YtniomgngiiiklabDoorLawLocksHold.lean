/- LocksHold: a lock is exclusive until its transaction is committed or undone: the law's walk, then its row and its card. Conditions: none. -/
import Derived.Test.YtniomgngiiiklabDoorKeepFacts
import Derived.Test.YtniomgngiiiklabDoorLateKeep
import Derived.Deep.RegionLaw
import Derived.Deep.DeepCutAuto
import Derived.Outline
namespace Go.Proofs.YtniomgngiiiklabDoor
open Go.RowKit

def keyBs : ByteArray := ⟨#[98]⟩
def mineBs : ByteArray := ⟨#[109, 105, 110, 101]⟩
def otherBs : ByteArray := ⟨#[111, 116, 104, 101, 114]⟩

set_option maxRecDepth 100000 in
set_option maxHeartbeats 4000000 in
theorem locksHold_walk (l : List MRaw) (A : Option Addr) (n c : Nat) (start more : Int) (w : World) (h : RawsOk w w.heap.size A n c l) (hst : InI64 start) (hmo : InI64 more) :
    Calls Tryd.prog 5 #[.slice A n c, .int .i64 start, .int .i64 more] w fun e w' => e = .returned (.bool true) ∧ Below w.heap.size w w' := by
  have HR := Lib.hid h
  have HST := Lib.hid hst
  have HMO := Lib.hid hmo
  clear h hst hmo
  have HG := Lib.hid (rowK_good l)
  have HE := Lib.hid (rowK_early l)
  obtain ⟨R, hRe⟩ : ∃ R, R = rowK l := ⟨_, rfl⟩
  rw [← hRe] at HG HE
  have HRE := Lib.hid hRe
  obtain ⟨s, hs⟩ : ∃ s, s = 1 + pickF start 60 := ⟨_, rfl⟩
  obtain ⟨t, ht⟩ : ∃ t, t = 100 + pickF more 50 := ⟨_, rfl⟩
  have hs1 := pickF_lt start (m := 60) (by omega)
  have ht1 := pickF_lt more (m := 50) (by omega)
  have hsb : 1 ≤ s ∧ s ≤ 60 := by omega
  have htb : 100 ≤ t ∧ t ≤ 149 := by omega
  have HTS : Hid (timeB s = true) := timeB_of (by omega) (by omega)
  have HS := Lib.hid hs
  have HT := Lib.hid ht
  clear hRe hs ht
  go_enter Tryd.func5, Tryd.ntmps5
  go_wp2_with fail
  refine (keepRow_ok l A n c _ HR.out).mono ?_
  rintro e w1 ⟨A1, m1, c1, rfl, ok1, hb⟩
  rw [← HRE.out] at ok1 ⊢
  have HL := Lib.hid hb
  have HR1 := Lib.hid ok1
  clear hb ok1
  obtain ⟨v1, hv1⟩ : ∃ v1, v1 = w1.alloc (.cells #[.string R.key, .int .i64 R.ls, .string R.lp, .string R.value, .slice A1 m1 c1] 27) := ⟨_, rfl⟩
  have hold : Old w1 v1 := by rw [hv1]; exact old_alloc w1 _
  have HB1 : Hid (v1.heap[w1.heap.size]? = some (.cells #[.string R.key, .int .i64 R.ls, .string R.lp, .string R.value, .slice A1 m1 c1] 27 (0, 0))) := by show _ = _; rw [hv1]; exact blk_new w1 _ _
  replace HR1 := hold.rowOk HR1
  replace HL := belowNew HL hv1
  clear hold
  go_wp2_with fail
  rw [← hv1]
  clear hv1
  refine (picked_any start 60 _ HST.out (by omega) (by omega)).mono ?_
  rintro e w2 ⟨rfl, rfl⟩
  try clear hc1 hf1
  obtain ⟨hc1, hf1⟩ := blk_read HB1.out
  try clear hzb1
  have hzb1 := blk_lt HB1.out
  obtain ⟨v2, hv2⟩ : ∃ v2, v2 = v1.alloc (.cells #[.int .i64 s] 3) := ⟨_, rfl⟩
  have hold : Old v1 v2 := by rw [hv2]; exact old_alloc v1 _
  replace HB1 := hold.blk HB1
  have HB2 : Hid (v2.heap[v1.heap.size]? = some (.cells #[.int .i64 s] 3 (0, 0))) := by show _ = _; rw [hv2]; exact blk_new v1 _ _
  replace HR1 := hold.rowOk HR1
  replace HL := belowNew HL hv2
  clear hold
  go_wp2_with fail
  rw [← HS.out]
  rw [← hv2]
  clear hv2
  refine (lockFor_ok R s keyBs mineBs A1 m1 c1 _ HR1.out).mono ?_
  rintro e w2 ⟨A2, m2, c2, rfl, ok2, hb⟩
  first | have hold := old0 HL hb (by first | exact Nat.le_refl _ | (simp; done) | (simp; omega)) | have hold := old1 HL hb (by first | exact Nat.le_refl _ | (simp; done) | (simp; omega)) | have hold := old2 HL hb (by first | exact Nat.le_refl _ | (simp; done) | (simp; omega)) | have hold := old3 HL hb (by first | exact Nat.le_refl _ | (simp; done) | (simp; omega))
  replace HB1 := hold.blk HB1
  replace HB2 := hold.blk HB2
  replace HR1 := hold.rowOk HR1
  first | replace HL := keepL0 HL hb (by first | exact Nat.le_refl _ | (have := HL.out.size; omega) | (have := HL.out.size; simp at this; omega)) (by first | exact Nat.le_refl _ | (simp; done) | (simp; omega)) | replace HL := keepL1 HL hb (by first | exact Nat.le_refl _ | (have := HL.out.size; omega) | (have := HL.out.size; simp at this; omega)) (by first | exact Nat.le_refl _ | (simp; done) | (simp; omega)) | replace HL := keepL2 HL hb (by first | exact Nat.le_refl _ | (have := HL.out.size; omega) | (have := HL.out.size; simp at this; omega)) (by first | exact Nat.le_refl _ | (simp; done) | (simp; omega)) | replace HL := keepL3 HL hb (by first | exact Nat.le_refl _ | (have := HL.out.size; omega) | (have := HL.out.size; simp at this; omega)) (by first | exact Nat.le_refl _ | (simp; done) | (simp; omega))
  clear hb hold
  try clear hc1 hf1
  obtain ⟨hc1, hf1⟩ := blk_read HB1.out
  try clear hzb1
  have hzb1 := blk_lt HB1.out
  try clear hc2 hf2
  obtain ⟨hc2, hf2⟩ := blk_read HB2.out
  try clear hzb2
  have hzb2 := blk_lt HB2.out
  have HR2 := Lib.hid ok2
  clear ok2
  by_cases h0 : lockCode R s keyBs mineBs = 0
  · rw [h0]
    have E1 := Lib.hid (locked_again (q := keyBs) (u := otherBs) HE.out h0 htb.1 (by omega) hsb.2 (by rfl) (by decide))
    have E2 := Lib.hid (locked_status h0)
    have E3 := Lib.hid (locked_commit (cm := s + 5) h0 (by omega) (by omega))
    have E4 := Lib.hid (locked_undo h0)
    have E5 := Lib.hid (committed_now (cm := s + 5) h0 (by omega) (by omega))
    have E6 := Lib.hid (committed_undo (cm := s + 5) h0 (by omega) (by omega))
    have E7 := Lib.hid (undone_lock (q := keyBs) (u := mineBs) E4.out (by rfl) (by decide))
    have E8 := Lib.hid (undone_commit (cm := s + 5) E4.out (by omega) (by omega))
    clear h0
    obtain ⟨a, ha⟩ : ∃ a, a = lockRow R s keyBs mineBs := ⟨_, rfl⟩
    rw [← ha] at E1 E2 E3 E4 E5 E6 E7 E8 HR2 ⊢
    clear ha
    obtain ⟨v3, hv3⟩ : ∃ v3, v3 = w2.alloc (.cells #[.string a.key, .int .i64 a.ls, .string a.lp, .string a.value, .slice A2 m2 c2] 27) := ⟨_, rfl⟩
    have hold : Old w2 v3 := by rw [hv3]; exact old_alloc w2 _
    replace HB1 := hold.blk HB1
    replace HB2 := hold.blk HB2
    have HB3 : Hid (v3.heap[w2.heap.size]? = some (.cells #[.string a.key, .int .i64 a.ls, .string a.lp, .string a.value, .slice A2 m2 c2] 27 (0, 0))) := by show _ = _; rw [hv3]; exact blk_new w2 _ _
    replace HR1 := hold.rowOk HR1
    replace HR2 := hold.rowOk HR2
    replace HL := belowNew HL hv3
    clear hold
    go_upto_region 8 with (fail)
    rw [← hv3]
    clear hv3
    try clear hc1 hf1
    obtain ⟨hc1, hf1⟩ := blk_read HB1.out
    try clear hzb1
    have hzb1 := blk_lt HB1.out
    try clear hc2 hf2
    obtain ⟨hc2, hf2⟩ := blk_read HB2.out
    try clear hzb2
    have hzb2 := blk_lt HB2.out
    try clear hc3 hf3
    obtain ⟨hc3, hf3⟩ := blk_read HB3.out
    try clear hzb3
    have hzb3 := blk_lt HB3.out
    go_cut [16] (fun v wx => v = .int .i64 7 ∧ Below v3.heap.size v3 wx)
    case first =>
      go_wp2_with fail
      have RA : Hid (RowOk v3.drew v3.drew.heap.size a A2 m2 c2) := Old.rowOk (W := v3) (w1 := v3.drew) ⟨Nat.le_refl _, fun g hg => rfl⟩ HR2
      have RB : Hid (∀ o : Obj, RowOk (v3.alloc o).drew (v3.alloc o).drew.heap.size a A2 m2 c2) := fun o => (Old.rowOk (W := v3) (w1 := (v3.alloc o).drew) ⟨(old_alloc v3 o).size, (old_alloc v3 o).block⟩ HR2).out
      have BA : Hid (∀ w4 : World, Below v3.drew.heap.size v3.drew w4 → Below v3.heap.size v3 w4) := fun w4 hb => ((Below.refl _ v3).drew).trans (hb.mono (Nat.le_refl _))
      have BB : Hid (∀ (o : Obj) (w4 : World), Below (v3.alloc o).drew.heap.size (v3.alloc o).drew w4 → Below v3.heap.size v3 w4) := fun o w4 hb => (((Below.refl _ v3).alloc (Nat.le_refl _) o).drew).trans (hb.mono (old_alloc v3 o).size)
      have BN : Hid (∀ w4 : World, Below (v3.alloc (.cells #[.string ⟨#[]⟩, .int .i64 0, .string ⟨#[]⟩, .string ⟨#[]⟩, .slice none 0 0] 27)).drew.heap.size (v3.alloc (.cells #[.string ⟨#[]⟩, .int .i64 0, .string ⟨#[]⟩, .string ⟨#[]⟩, .slice none 0 0] 27)).drew w4 →
          w4.heap[v3.heap.size]? = some (.cells #[.string ⟨#[]⟩, .int .i64 0, .string ⟨#[]⟩, .string ⟨#[]⟩, .slice none 0 0] 27 (0, 0))) := fun w4 hb => (hb.block v3.heap.size (show v3.heap.size < (v3.alloc (.cells #[.string ⟨#[]⟩, .int .i64 0, .string ⟨#[]⟩, .string ⟨#[]⟩, .slice none 0 0] 27)).heap.size by rw [World.size_alloc]; omega)).trans (blk_new v3 _ _)
      have hwt : IntKind.i64.wrap (100 + pickF more 50) = 100 + pickF more 50 := wrap_in (by omega) (by omega)
      go_region_law (first | (go_simp; go_at_call 17; refine (picked_any more 50 _ (by exact HMO.out) (by omega) (by omega)).mono ?_; rintro e w4 ⟨rfl, rfl⟩) | (go_simp; go_at_call 18; refine (lockFor_ok a (100 + pickF more 50) keyBs otherBs A2 m2 c2 _ (by with_reducible exact RA.out)).mono ?_; rintro e w4 ⟨A3, m3, c3, rfl, ok3, hb⟩; have hbA := BA.out _ hb) | (go_simp; go_at_call 18; refine (lockFor_ok a (100 + pickF more 50) keyBs otherBs A2 m2 c2 _ (by with_reducible exact RB.out _)).mono ?_; rintro e w4 ⟨A3, m3, c3, rfl, ok3, hb⟩; have hbA := BB.out _ _ hb; obtain ⟨hcN, hfN⟩ := blk_read (BN.out _ hb)))
      all_goals
        rw [← HT.out, E1.out]
        go_wp2_with fail
        go_meet
        first | exact ⟨rfl, hbA.alloc hbA.size _⟩ | exact ⟨rfl, below_row5 hbA (Nat.le_refl _) _ _ _ _ _⟩
    case rest =>
      obtain ⟨rfl, hb⟩ := hcut
      first | have hold := old0 HL hb (by first | exact Nat.le_refl _ | (simp; done) | (simp; omega)) | have hold := old1 HL hb (by first | exact Nat.le_refl _ | (simp; done) | (simp; omega)) | have hold := old2 HL hb (by first | exact Nat.le_refl _ | (simp; done) | (simp; omega)) | have hold := old3 HL hb (by first | exact Nat.le_refl _ | (simp; done) | (simp; omega))
      replace HB1 := hold.blk HB1
      replace HB2 := hold.blk HB2
      replace HB3 := hold.blk HB3
      replace HR1 := hold.rowOk HR1
      replace HR2 := hold.rowOk HR2
      first | replace HL := keepL0 HL hb (by first | exact Nat.le_refl _ | (have := HL.out.size; omega) | (have := HL.out.size; simp at this; omega)) (by first | exact Nat.le_refl _ | (simp; done) | (simp; omega)) | replace HL := keepL1 HL hb (by first | exact Nat.le_refl _ | (have := HL.out.size; omega) | (have := HL.out.size; simp at this; omega)) (by first | exact Nat.le_refl _ | (simp; done) | (simp; omega)) | replace HL := keepL2 HL hb (by first | exact Nat.le_refl _ | (have := HL.out.size; omega) | (have := HL.out.size; simp at this; omega)) (by first | exact Nat.le_refl _ | (simp; done) | (simp; omega)) | replace HL := keepL3 HL hb (by first | exact Nat.le_refl _ | (have := HL.out.size; omega) | (have := HL.out.size; simp at this; omega)) (by first | exact Nat.le_refl _ | (simp; done) | (simp; omega))
      clear hb hold
      try clear hc1 hf1
      obtain ⟨hc1, hf1⟩ := blk_read HB1.out
      try clear hzb1
      have hzb1 := blk_lt HB1.out
      try clear hc2 hf2
      obtain ⟨hc2, hf2⟩ := blk_read HB2.out
      try clear hzb2
      have hzb2 := blk_lt HB2.out
      try clear hc3 hf3
      obtain ⟨hc3, hf3⟩ := blk_read HB3.out
      try clear hzb3
      have hzb3 := blk_lt HB3.out
      go_wp2_with fail
      refine (status_ok a s A2 m2 c2 _ HR2.out).mono ?_
      rintro e w4 ⟨rfl, hb⟩
      rw [E2.out]
      first | have hold := old0 HL hb (by first | exact Nat.le_refl _ | (simp; done) | (simp; omega)) | have hold := old1 HL hb (by first | exact Nat.le_refl _ | (simp; done) | (simp; omega)) | have hold := old2 HL hb (by first | exact Nat.le_refl _ | (simp; done) | (simp; omega)) | have hold := old3 HL hb (by first | exact Nat.le_refl _ | (simp; done) | (simp; omega))
      replace HB1 := hold.blk HB1
      replace HB2 := hold.blk HB2
      replace HB3 := hold.blk HB3
      replace HR1 := hold.rowOk HR1
      replace HR2 := hold.rowOk HR2
      first | replace HL := keepL0 HL hb (by first | exact Nat.le_refl _ | (have := HL.out.size; omega) | (have := HL.out.size; simp at this; omega)) (by first | exact Nat.le_refl _ | (simp; done) | (simp; omega)) | replace HL := keepL1 HL hb (by first | exact Nat.le_refl _ | (have := HL.out.size; omega) | (have := HL.out.size; simp at this; omega)) (by first | exact Nat.le_refl _ | (simp; done) | (simp; omega)) | replace HL := keepL2 HL hb (by first | exact Nat.le_refl _ | (have := HL.out.size; omega) | (have := HL.out.size; simp at this; omega)) (by first | exact Nat.le_refl _ | (simp; done) | (simp; omega)) | replace HL := keepL3 HL hb (by first | exact Nat.le_refl _ | (have := HL.out.size; omega) | (have := HL.out.size; simp at this; omega)) (by first | exact Nat.le_refl _ | (simp; done) | (simp; omega))
      clear hb hold
      try clear hc1 hf1
      obtain ⟨hc1, hf1⟩ := blk_read HB1.out
      try clear hzb1
      have hzb1 := blk_lt HB1.out
      try clear hc2 hf2
      obtain ⟨hc2, hf2⟩ := blk_read HB2.out
      try clear hzb2
      have hzb2 := blk_lt HB2.out
      try clear hc3 hf3
      obtain ⟨hc3, hf3⟩ := blk_read HB3.out
      try clear hzb3
      have hzb3 := blk_lt HB3.out
      have hw5 : IntKind.i64.wrap (s + 5) = s + 5 := wrap_in (by omega) (by omega)
      go_wp2_with fail
      refine (commit_ok a s (s + 5) A2 m2 c2 _ HR2.out).mono ?_
      rintro e w5 ⟨A3, m3, c3, rfl, ok3, hb⟩
      rw [E3.out]
      obtain ⟨b, hbb⟩ : ∃ b, b = commitRow a s (s + 5) := ⟨_, rfl⟩
      rw [← hbb] at E5 E6 ok3 ⊢
      clear hbb
      first | have hold := old0 HL hb (by first | exact Nat.le_refl _ | (simp; done) | (simp; omega)) | have hold := old1 HL hb (by first | exact Nat.le_refl _ | (simp; done) | (simp; omega)) | have hold := old2 HL hb (by first | exact Nat.le_refl _ | (simp; done) | (simp; omega)) | have hold := old3 HL hb (by first | exact Nat.le_refl _ | (simp; done) | (simp; omega))
      replace HB1 := hold.blk HB1
      replace HB2 := hold.blk HB2
      replace HB3 := hold.blk HB3
      replace HR1 := hold.rowOk HR1
      replace HR2 := hold.rowOk HR2
      first | replace HL := keepL0 HL hb (by first | exact Nat.le_refl _ | (have := HL.out.size; omega) | (have := HL.out.size; simp at this; omega)) (by first | exact Nat.le_refl _ | (simp; done) | (simp; omega)) | replace HL := keepL1 HL hb (by first | exact Nat.le_refl _ | (have := HL.out.size; omega) | (have := HL.out.size; simp at this; omega)) (by first | exact Nat.le_refl _ | (simp; done) | (simp; omega)) | replace HL := keepL2 HL hb (by first | exact Nat.le_refl _ | (have := HL.out.size; omega) | (have := HL.out.size; simp at this; omega)) (by first | exact Nat.le_refl _ | (simp; done) | (simp; omega)) | replace HL := keepL3 HL hb (by first | exact Nat.le_refl _ | (have := HL.out.size; omega) | (have := HL.out.size; simp at this; omega)) (by first | exact Nat.le_refl _ | (simp; done) | (simp; omega))
      clear hb hold
      try clear hc1 hf1
      obtain ⟨hc1, hf1⟩ := blk_read HB1.out
      try clear hzb1
      have hzb1 := blk_lt HB1.out
      try clear hc2 hf2
      obtain ⟨hc2, hf2⟩ := blk_read HB2.out
      try clear hzb2
      have hzb2 := blk_lt HB2.out
      try clear hc3 hf3
      obtain ⟨hc3, hf3⟩ := blk_read HB3.out
      try clear hzb3
      have hzb3 := blk_lt HB3.out
      have HR3 := Lib.hid ok3
      clear ok3
      obtain ⟨v5, hv5⟩ : ∃ v5, v5 = w5.alloc (.cells #[.string b.key, .int .i64 b.ls, .string b.lp, .string b.value, .slice A3 m3 c3] 27) := ⟨_, rfl⟩
      have hold : Old w5 v5 := by rw [hv5]; exact old_alloc w5 _
      replace HB1 := hold.blk HB1
      replace HB2 := hold.blk HB2
      replace HB3 := hold.blk HB3
      have HB4 : Hid (v5.heap[w5.heap.size]? = some (.cells #[.string b.key, .int .i64 b.ls, .string b.lp, .string b.value, .slice A3 m3 c3] 27 (0, 0))) := by show _ = _; rw [hv5]; exact blk_new w5 _ _
      replace HR1 := hold.rowOk HR1
      replace HR2 := hold.rowOk HR2
      replace HR3 := hold.rowOk HR3
      replace HL := belowNew HL hv5
      clear hold
      go_wp2_with fail
      rw [← hv5]
      clear hv5
      refine (undo_ok a s A2 m2 c2 _ HR2.out).mono ?_
      rintro e w6 ⟨A4, m4, c4, rfl, ok4, hb⟩
      rw [E4.out]
      obtain ⟨d, hdd⟩ : ∃ d, d = undoRow a s := ⟨_, rfl⟩
      rw [← hdd] at E7 E8 ok4 ⊢
      clear hdd
      first | have hold := old0 HL hb (by first | exact Nat.le_refl _ | (simp; done) | (simp; omega)) | have hold := old1 HL hb (by first | exact Nat.le_refl _ | (simp; done) | (simp; omega)) | have hold := old2 HL hb (by first | exact Nat.le_refl _ | (simp; done) | (simp; omega)) | have hold := old3 HL hb (by first | exact Nat.le_refl _ | (simp; done) | (simp; omega))
      replace HB1 := hold.blk HB1
      replace HB2 := hold.blk HB2
      replace HB3 := hold.blk HB3
      replace HB4 := hold.blk HB4
      replace HR1 := hold.rowOk HR1
      replace HR2 := hold.rowOk HR2
      replace HR3 := hold.rowOk HR3
      first | replace HL := keepL0 HL hb (by first | exact Nat.le_refl _ | (have := HL.out.size; omega) | (have := HL.out.size; simp at this; omega)) (by first | exact Nat.le_refl _ | (simp; done) | (simp; omega)) | replace HL := keepL1 HL hb (by first | exact Nat.le_refl _ | (have := HL.out.size; omega) | (have := HL.out.size; simp at this; omega)) (by first | exact Nat.le_refl _ | (simp; done) | (simp; omega)) | replace HL := keepL2 HL hb (by first | exact Nat.le_refl _ | (have := HL.out.size; omega) | (have := HL.out.size; simp at this; omega)) (by first | exact Nat.le_refl _ | (simp; done) | (simp; omega)) | replace HL := keepL3 HL hb (by first | exact Nat.le_refl _ | (have := HL.out.size; omega) | (have := HL.out.size; simp at this; omega)) (by first | exact Nat.le_refl _ | (simp; done) | (simp; omega))
      clear hb hold
      try clear hc1 hf1
      obtain ⟨hc1, hf1⟩ := blk_read HB1.out
      try clear hzb1
      have hzb1 := blk_lt HB1.out
      try clear hc2 hf2
      obtain ⟨hc2, hf2⟩ := blk_read HB2.out
      try clear hzb2
      have hzb2 := blk_lt HB2.out
      try clear hc3 hf3
      obtain ⟨hc3, hf3⟩ := blk_read HB3.out
      try clear hzb3
      have hzb3 := blk_lt HB3.out
      try clear hc4 hf4
      obtain ⟨hc4, hf4⟩ := blk_read HB4.out
      try clear hzb4
      have hzb4 := blk_lt HB4.out
      have HR4 := Lib.hid ok4
      clear ok4
      obtain ⟨v6, hv6⟩ : ∃ v6, v6 = w6.alloc (.cells #[.string d.key, .int .i64 d.ls, .string d.lp, .string d.value, .slice A4 m4 c4] 27) := ⟨_, rfl⟩
      have hold : Old w6 v6 := by rw [hv6]; exact old_alloc w6 _
      replace HB1 := hold.blk HB1
      replace HB2 := hold.blk HB2
      replace HB3 := hold.blk HB3
      replace HB4 := hold.blk HB4
      have HB5 : Hid (v6.heap[w6.heap.size]? = some (.cells #[.string d.key, .int .i64 d.ls, .string d.lp, .string d.value, .slice A4 m4 c4] 27 (0, 0))) := by show _ = _; rw [hv6]; exact blk_new w6 _ _
      replace HR1 := hold.rowOk HR1
      replace HR2 := hold.rowOk HR2
      replace HR3 := hold.rowOk HR3
      replace HR4 := hold.rowOk HR4
      replace HL := belowNew HL hv6
      clear hold
      go_wp2_with fail
      rw [← hv6]
      clear hv6
      refine (read_ok b (s + 5) A3 m3 c3 _ HR3.out).mono ?_
      rintro e w7 ⟨rfl, hb⟩
      rw [E5.out, show mineBs = ⟨#[109, 105, 110, 101]⟩ from rfl]
      first | have hold := old0 HL hb (by first | exact Nat.le_refl _ | (simp; done) | (simp; omega)) | have hold := old1 HL hb (by first | exact Nat.le_refl _ | (simp; done) | (simp; omega)) | have hold := old2 HL hb (by first | exact Nat.le_refl _ | (simp; done) | (simp; omega)) | have hold := old3 HL hb (by first | exact Nat.le_refl _ | (simp; done) | (simp; omega))
      replace HB1 := hold.blk HB1
      replace HB2 := hold.blk HB2
      replace HB3 := hold.blk HB3
      replace HB4 := hold.blk HB4
      replace HB5 := hold.blk HB5
      replace HR1 := hold.rowOk HR1
      replace HR2 := hold.rowOk HR2
      replace HR3 := hold.rowOk HR3
      replace HR4 := hold.rowOk HR4
      first | replace HL := keepL0 HL hb (by first | exact Nat.le_refl _ | (have := HL.out.size; omega) | (have := HL.out.size; simp at this; omega)) (by first | exact Nat.le_refl _ | (simp; done) | (simp; omega)) | replace HL := keepL1 HL hb (by first | exact Nat.le_refl _ | (have := HL.out.size; omega) | (have := HL.out.size; simp at this; omega)) (by first | exact Nat.le_refl _ | (simp; done) | (simp; omega)) | replace HL := keepL2 HL hb (by first | exact Nat.le_refl _ | (have := HL.out.size; omega) | (have := HL.out.size; simp at this; omega)) (by first | exact Nat.le_refl _ | (simp; done) | (simp; omega)) | replace HL := keepL3 HL hb (by first | exact Nat.le_refl _ | (have := HL.out.size; omega) | (have := HL.out.size; simp at this; omega)) (by first | exact Nat.le_refl _ | (simp; done) | (simp; omega))
      clear hb hold
      try clear hc1 hf1
      obtain ⟨hc1, hf1⟩ := blk_read HB1.out
      try clear hzb1
      have hzb1 := blk_lt HB1.out
      try clear hc2 hf2
      obtain ⟨hc2, hf2⟩ := blk_read HB2.out
      try clear hzb2
      have hzb2 := blk_lt HB2.out
      try clear hc3 hf3
      obtain ⟨hc3, hf3⟩ := blk_read HB3.out
      try clear hzb3
      have hzb3 := blk_lt HB3.out
      try clear hc4 hf4
      obtain ⟨hc4, hf4⟩ := blk_read HB4.out
      try clear hzb4
      have hzb4 := blk_lt HB4.out
      try clear hc5 hf5
      obtain ⟨hc5, hf5⟩ := blk_read HB5.out
      try clear hzb5
      have hzb5 := blk_lt HB5.out
      go_wp2_with fail
      refine (undo_ok b s A3 m3 c3 _ HR3.out).mono ?_
      rintro e w8 ⟨A5, m5, c5, rfl, ok5, hb⟩
      rw [E6.out]
      first | have hold := old0 HL hb (by first | exact Nat.le_refl _ | (simp; done) | (simp; omega)) | have hold := old1 HL hb (by first | exact Nat.le_refl _ | (simp; done) | (simp; omega)) | have hold := old2 HL hb (by first | exact Nat.le_refl _ | (simp; done) | (simp; omega)) | have hold := old3 HL hb (by first | exact Nat.le_refl _ | (simp; done) | (simp; omega))
      replace HB1 := hold.blk HB1
      replace HB2 := hold.blk HB2
      replace HB3 := hold.blk HB3
      replace HB4 := hold.blk HB4
      replace HB5 := hold.blk HB5
      replace HR1 := hold.rowOk HR1
      replace HR2 := hold.rowOk HR2
      replace HR3 := hold.rowOk HR3
      replace HR4 := hold.rowOk HR4
      first | replace HL := keepL0 HL hb (by first | exact Nat.le_refl _ | (have := HL.out.size; omega) | (have := HL.out.size; simp at this; omega)) (by first | exact Nat.le_refl _ | (simp; done) | (simp; omega)) | replace HL := keepL1 HL hb (by first | exact Nat.le_refl _ | (have := HL.out.size; omega) | (have := HL.out.size; simp at this; omega)) (by first | exact Nat.le_refl _ | (simp; done) | (simp; omega)) | replace HL := keepL2 HL hb (by first | exact Nat.le_refl _ | (have := HL.out.size; omega) | (have := HL.out.size; simp at this; omega)) (by first | exact Nat.le_refl _ | (simp; done) | (simp; omega)) | replace HL := keepL3 HL hb (by first | exact Nat.le_refl _ | (have := HL.out.size; omega) | (have := HL.out.size; simp at this; omega)) (by first | exact Nat.le_refl _ | (simp; done) | (simp; omega))
      clear hb hold
      try clear hc1 hf1
      obtain ⟨hc1, hf1⟩ := blk_read HB1.out
      try clear hzb1
      have hzb1 := blk_lt HB1.out
      try clear hc2 hf2
      obtain ⟨hc2, hf2⟩ := blk_read HB2.out
      try clear hzb2
      have hzb2 := blk_lt HB2.out
      try clear hc3 hf3
      obtain ⟨hc3, hf3⟩ := blk_read HB3.out
      try clear hzb3
      have hzb3 := blk_lt HB3.out
      try clear hc4 hf4
      obtain ⟨hc4, hf4⟩ := blk_read HB4.out
      try clear hzb4
      have hzb4 := blk_lt HB4.out
      try clear hc5 hf5
      obtain ⟨hc5, hf5⟩ := blk_read HB5.out
      try clear hzb5
      have hzb5 := blk_lt HB5.out
      obtain ⟨v8, hv8⟩ : ∃ v8, v8 = w8.alloc (.cells #[.string (undoRow b s).key, .int .i64 (undoRow b s).ls, .string (undoRow b s).lp, .string (undoRow b s).value, .slice A5 m5 c5] 27) := ⟨_, rfl⟩
      have hold : Old w8 v8 := by rw [hv8]; exact old_alloc w8 _
      replace HB1 := hold.blk HB1
      replace HB2 := hold.blk HB2
      replace HB3 := hold.blk HB3
      replace HB4 := hold.blk HB4
      replace HB5 := hold.blk HB5
      have HB6 : Hid (v8.heap[w8.heap.size]? = some (.cells #[.string (undoRow b s).key, .int .i64 (undoRow b s).ls, .string (undoRow b s).lp, .string (undoRow b s).value, .slice A5 m5 c5] 27 (0, 0))) := by show _ = _; rw [hv8]; exact blk_new w8 _ _
      replace HR1 := hold.rowOk HR1
      replace HR2 := hold.rowOk HR2
      replace HR3 := hold.rowOk HR3
      replace HR4 := hold.rowOk HR4
      replace HL := belowNew HL hv8
      clear hold
      go_wp2_with fail
      rw [← hv8]
      clear hv8
      refine (lockFor_ok d s keyBs mineBs A4 m4 c4 _ HR4.out).mono ?_
      rintro e w9 ⟨A6, m6, c6, rfl, ok6, hb⟩
      rw [E7.out]
      first | have hold := old0 HL hb (by first | exact Nat.le_refl _ | (simp; done) | (simp; omega)) | have hold := old1 HL hb (by first | exact Nat.le_refl _ | (simp; done) | (simp; omega)) | have hold := old2 HL hb (by first | exact Nat.le_refl _ | (simp; done) | (simp; omega)) | have hold := old3 HL hb (by first | exact Nat.le_refl _ | (simp; done) | (simp; omega))
      replace HB1 := hold.blk HB1
      replace HB2 := hold.blk HB2
      replace HB3 := hold.blk HB3
      replace HB4 := hold.blk HB4
      replace HB5 := hold.blk HB5
      replace HB6 := hold.blk HB6
      replace HR1 := hold.rowOk HR1
      replace HR2 := hold.rowOk HR2
      replace HR3 := hold.rowOk HR3
      replace HR4 := hold.rowOk HR4
      first | replace HL := keepL0 HL hb (by first | exact Nat.le_refl _ | (have := HL.out.size; omega) | (have := HL.out.size; simp at this; omega)) (by first | exact Nat.le_refl _ | (simp; done) | (simp; omega)) | replace HL := keepL1 HL hb (by first | exact Nat.le_refl _ | (have := HL.out.size; omega) | (have := HL.out.size; simp at this; omega)) (by first | exact Nat.le_refl _ | (simp; done) | (simp; omega)) | replace HL := keepL2 HL hb (by first | exact Nat.le_refl _ | (have := HL.out.size; omega) | (have := HL.out.size; simp at this; omega)) (by first | exact Nat.le_refl _ | (simp; done) | (simp; omega)) | replace HL := keepL3 HL hb (by first | exact Nat.le_refl _ | (have := HL.out.size; omega) | (have := HL.out.size; simp at this; omega)) (by first | exact Nat.le_refl _ | (simp; done) | (simp; omega))
      clear hb hold
      try clear hc1 hf1
      obtain ⟨hc1, hf1⟩ := blk_read HB1.out
      try clear hzb1
      have hzb1 := blk_lt HB1.out
      try clear hc2 hf2
      obtain ⟨hc2, hf2⟩ := blk_read HB2.out
      try clear hzb2
      have hzb2 := blk_lt HB2.out
      try clear hc3 hf3
      obtain ⟨hc3, hf3⟩ := blk_read HB3.out
      try clear hzb3
      have hzb3 := blk_lt HB3.out
      try clear hc4 hf4
      obtain ⟨hc4, hf4⟩ := blk_read HB4.out
      try clear hzb4
      have hzb4 := blk_lt HB4.out
      try clear hc5 hf5
      obtain ⟨hc5, hf5⟩ := blk_read HB5.out
      try clear hzb5
      have hzb5 := blk_lt HB5.out
      try clear hc6 hf6
      obtain ⟨hc6, hf6⟩ := blk_read HB6.out
      try clear hzb6
      have hzb6 := blk_lt HB6.out
      obtain ⟨v9, hv9⟩ : ∃ v9, v9 = w9.alloc (.cells #[.string (lockRow d s keyBs mineBs).key, .int .i64 (lockRow d s keyBs mineBs).ls, .string (lockRow d s keyBs mineBs).lp, .string (lockRow d s keyBs mineBs).value, .slice A6 m6 c6] 27) := ⟨_, rfl⟩
      have hold : Old w9 v9 := by rw [hv9]; exact old_alloc w9 _
      replace HB1 := hold.blk HB1
      replace HB2 := hold.blk HB2
      replace HB3 := hold.blk HB3
      replace HB4 := hold.blk HB4
      replace HB5 := hold.blk HB5
      replace HB6 := hold.blk HB6
      have HB7 : Hid (v9.heap[w9.heap.size]? = some (.cells #[.string (lockRow d s keyBs mineBs).key, .int .i64 (lockRow d s keyBs mineBs).ls, .string (lockRow d s keyBs mineBs).lp, .string (lockRow d s keyBs mineBs).value, .slice A6 m6 c6] 27 (0, 0))) := by show _ = _; rw [hv9]; exact blk_new w9 _ _
      replace HR1 := hold.rowOk HR1
      replace HR2 := hold.rowOk HR2
      replace HR3 := hold.rowOk HR3
      replace HR4 := hold.rowOk HR4
      replace HL := belowNew HL hv9
      clear hold
      go_wp2_with fail
      rw [← hv9]
      clear hv9
      refine (commit_ok d s (s + 5) A4 m4 c4 _ HR4.out).mono ?_
      rintro e w10 ⟨A7, m7, c7, rfl, ok7, hb⟩
      rw [E8.out]
      first | have hold := old0 HL hb (by first | exact Nat.le_refl _ | (simp; done) | (simp; omega)) | have hold := old1 HL hb (by first | exact Nat.le_refl _ | (simp; done) | (simp; omega)) | have hold := old2 HL hb (by first | exact Nat.le_refl _ | (simp; done) | (simp; omega)) | have hold := old3 HL hb (by first | exact Nat.le_refl _ | (simp; done) | (simp; omega))
      replace HB1 := hold.blk HB1
      replace HB2 := hold.blk HB2
      first | replace HL := keepL0 HL hb (by first | exact Nat.le_refl _ | (have := HL.out.size; omega) | (have := HL.out.size; simp at this; omega)) (by first | exact Nat.le_refl _ | (simp; done) | (simp; omega)) | replace HL := keepL1 HL hb (by first | exact Nat.le_refl _ | (have := HL.out.size; omega) | (have := HL.out.size; simp at this; omega)) (by first | exact Nat.le_refl _ | (simp; done) | (simp; omega)) | replace HL := keepL2 HL hb (by first | exact Nat.le_refl _ | (have := HL.out.size; omega) | (have := HL.out.size; simp at this; omega)) (by first | exact Nat.le_refl _ | (simp; done) | (simp; omega)) | replace HL := keepL3 HL hb (by first | exact Nat.le_refl _ | (have := HL.out.size; omega) | (have := HL.out.size; simp at this; omega)) (by first | exact Nat.le_refl _ | (simp; done) | (simp; omega))
      clear hb hold
      try clear hc1 hf1
      obtain ⟨hc1, hf1⟩ := blk_read HB1.out
      try clear hzb1
      have hzb1 := blk_lt HB1.out
      try clear hc2 hf2
      obtain ⟨hc2, hf2⟩ := blk_read HB2.out
      try clear hzb2
      have hzb2 := blk_lt HB2.out
      go_wp2_with fail
      go_ret
      exact ⟨rfl, HL.out.alloc HL.out.size _⟩
  · obtain ⟨f1, f2⟩ := lock_fail HG.out HE.out HTS.out (p := keyBs) (v := mineBs) (by rfl) (by decide) h0
    have F2 := Lib.hid f2
    clear f2
    have h1 : (lockCode R s keyBs mineBs != 0) = true := by simpa using h0
    clear h0
    obtain ⟨v3, hv3⟩ : ∃ v3, v3 = w2.alloc (.cells #[.string (lockRow R s keyBs mineBs).key, .int .i64 (lockRow R s keyBs mineBs).ls, .string (lockRow R s keyBs mineBs).lp, .string (lockRow R s keyBs mineBs).value, .slice A2 m2 c2] 27) := ⟨_, rfl⟩
    have hold : Old w2 v3 := by rw [hv3]; exact old_alloc w2 _
    replace HB1 := hold.blk HB1
    replace HB2 := hold.blk HB2
    have HB3 : Hid (v3.heap[w2.heap.size]? = some (.cells #[.string (lockRow R s keyBs mineBs).key, .int .i64 (lockRow R s keyBs mineBs).ls, .string (lockRow R s keyBs mineBs).lp, .string (lockRow R s keyBs mineBs).value, .slice A2 m2 c2] 27 (0, 0))) := by show _ = _; rw [hv3]; exact blk_new w2 _ _
    replace HR1 := hold.rowOk HR1
    replace HR2 := hold.rowOk HR2
    replace HL := belowNew HL hv3
    clear hold
    go_wp2_with fail
    rw [← hv3]
    clear hv3
    refine (status_ok R s A1 m1 c1 _ HR1.out).mono ?_
    rintro e w3 ⟨rfl, hb⟩
    rw [f1]
    first | have hold := old0 HL hb (by first | exact Nat.le_refl _ | (simp; done) | (simp; omega)) | have hold := old1 HL hb (by first | exact Nat.le_refl _ | (simp; done) | (simp; omega)) | have hold := old2 HL hb (by first | exact Nat.le_refl _ | (simp; done) | (simp; omega)) | have hold := old3 HL hb (by first | exact Nat.le_refl _ | (simp; done) | (simp; omega))
    replace HB1 := hold.blk HB1
    replace HB2 := hold.blk HB2
    replace HB3 := hold.blk HB3
    replace HR1 := hold.rowOk HR1
    replace HR2 := hold.rowOk HR2
    first | replace HL := keepL0 HL hb (by first | exact Nat.le_refl _ | (have := HL.out.size; omega) | (have := HL.out.size; simp at this; omega)) (by first | exact Nat.le_refl _ | (simp; done) | (simp; omega)) | replace HL := keepL1 HL hb (by first | exact Nat.le_refl _ | (have := HL.out.size; omega) | (have := HL.out.size; simp at this; omega)) (by first | exact Nat.le_refl _ | (simp; done) | (simp; omega)) | replace HL := keepL2 HL hb (by first | exact Nat.le_refl _ | (have := HL.out.size; omega) | (have := HL.out.size; simp at this; omega)) (by first | exact Nat.le_refl _ | (simp; done) | (simp; omega)) | replace HL := keepL3 HL hb (by first | exact Nat.le_refl _ | (have := HL.out.size; omega) | (have := HL.out.size; simp at this; omega)) (by first | exact Nat.le_refl _ | (simp; done) | (simp; omega))
    clear hb hold
    try clear hc1 hf1
    obtain ⟨hc1, hf1⟩ := blk_read HB1.out
    try clear hzb1
    have hzb1 := blk_lt HB1.out
    try clear hc2 hf2
    obtain ⟨hc2, hf2⟩ := blk_read HB2.out
    try clear hzb2
    have hzb2 := blk_lt HB2.out
    try clear hc3 hf3
    obtain ⟨hc3, hf3⟩ := blk_read HB3.out
    try clear hzb3
    have hzb3 := blk_lt HB3.out
    go_wp2_with fail
    refine (hasK_any v1.heap.size s A1 m1 c1 R.recs _ HR1.out.recs.at_ (by have := HR1.out.recs.small; unfold maxLen; omega) hzb2 (by simpa using hc2 0)).mono ?_
    rintro e w4 ⟨rfl, hb⟩
    first | have hold := old0 HL hb (by first | exact Nat.le_refl _ | (simp; done) | (simp; omega)) | have hold := old1 HL hb (by first | exact Nat.le_refl _ | (simp; done) | (simp; omega)) | have hold := old2 HL hb (by first | exact Nat.le_refl _ | (simp; done) | (simp; omega)) | have hold := old3 HL hb (by first | exact Nat.le_refl _ | (simp; done) | (simp; omega))
    replace HB1 := hold.blk HB1
    replace HB2 := hold.blk HB2
    replace HB3 := hold.blk HB3
    replace HR1 := hold.rowOk HR1
    replace HR2 := hold.rowOk HR2
    first | replace HL := keepL0 HL hb (by first | exact Nat.le_refl _ | (have := HL.out.size; omega) | (have := HL.out.size; simp at this; omega)) (by first | exact Nat.le_refl _ | (simp; done) | (simp; omega)) | replace HL := keepL1 HL hb (by first | exact Nat.le_refl _ | (have := HL.out.size; omega) | (have := HL.out.size; simp at this; omega)) (by first | exact Nat.le_refl _ | (simp; done) | (simp; omega)) | replace HL := keepL2 HL hb (by first | exact Nat.le_refl _ | (have := HL.out.size; omega) | (have := HL.out.size; simp at this; omega)) (by first | exact Nat.le_refl _ | (simp; done) | (simp; omega)) | replace HL := keepL3 HL hb (by first | exact Nat.le_refl _ | (have := HL.out.size; omega) | (have := HL.out.size; simp at this; omega)) (by first | exact Nat.le_refl _ | (simp; done) | (simp; omega))
    clear hb hold
    try clear hc1 hf1
    obtain ⟨hc1, hf1⟩ := blk_read HB1.out
    try clear hzb1
    have hzb1 := blk_lt HB1.out
    try clear hc2 hf2
    obtain ⟨hc2, hf2⟩ := blk_read HB2.out
    try clear hzb2
    have hzb2 := blk_lt HB2.out
    try clear hc3 hf3
    obtain ⟨hc3, hf3⟩ := blk_read HB3.out
    try clear hzb3
    have hzb3 := blk_lt HB3.out
    generalize (R.recs.any fun r => decide (s < r.commit)) = late at F2 ⊢
    generalize (statusF R s).1 = stt at F2 ⊢
    generalize lockCode R s keyBs mineBs = code at F2 h1 ⊢
    have hcase : (stt = 3 ∧ code = 9) ∨ (stt ≠ 3 ∧ code = 9 ∧ False) ∨ (stt = 3 ∧ late = true ∧ code = 8) ∨ (stt ≠ 3 ∧ late = true ∧ code = 8) ∨ (stt = 3 ∧ late = true ∧ R.ls ≠ 0 ∧ code = 7) ∨ (stt ≠ 3 ∧ late = true ∧ R.ls ≠ 0 ∧ code = 7) ∨
        (stt = 3 ∧ late = false ∧ R.ls ≠ 0 ∧ code = 7) ∨ (stt ≠ 3 ∧ late = false ∧ R.ls ≠ 0 ∧ code = 7) := by
      rcases F2.out with ⟨a1, a2⟩ | ⟨a1, a2⟩ | ⟨a1, a2⟩
      · exact .inl ⟨a1, a2⟩
      · by_cases b1 : stt = 3
        · exact .inr (.inr (.inl ⟨b1, a1, a2⟩))
        · exact .inr (.inr (.inr (.inl ⟨b1, a1, a2⟩)))
      · by_cases b1 : stt = 3 <;> cases late
        · exact .inr (.inr (.inr (.inr (.inr (.inr (.inl ⟨b1, rfl, a1, a2⟩))))))
        · exact .inr (.inr (.inr (.inr (.inl ⟨b1, rfl, a1, a2⟩))))
        · exact .inr (.inr (.inr (.inr (.inr (.inr (.inr ⟨b1, rfl, a1, a2⟩))))))
        · exact .inr (.inr (.inr (.inr (.inr (.inl ⟨b1, rfl, a1, a2⟩)))))
    clear F2 h1
    rcases hcase with ⟨b1, b2⟩ | ⟨_, _, b2⟩ | ⟨b1, rfl, b2⟩ | ⟨b1, rfl, b2⟩ | ⟨b1, rfl, b3, b2⟩ | ⟨b1, rfl, b3, b2⟩ | ⟨b1, rfl, b3, b2⟩ | ⟨b1, rfl, b3, b2⟩
    case inr.inl => exact b2.elim
    all_goals
      subst b2
      first | subst b1 | (have b1' : (stt == 3) = false := by simpa using b1)
      try (have b3' : (R.ls != 0) = true := by simpa using b3)
      try clear b3
      try clear b1
      go_wp2_with fail
      go_ret
      exact ⟨rfl, HL.out⟩
open Go.ChangeShapes Go.WideShapes Go.ChangeAt
open Go.ChangeMaps (open_string shut_string)
set_option maxRecDepth 100000 in
theorem locksHold_lifted (os : Os) (started : os.Started) (H : Type) (enc : TypeId × Value → H) :
    ReturnsInHanded {} Tryd.checked os 5 .any (fun w args => (Rows.locksHoldSpec.pre enc Tryd.prog Tryd.f5 [] false w args ∧ laidMetH Tryd.prog laidL w) ∧ sizedMet enc Tryd.prog Tryd.f5 (OpenSpec.ofChange Rows.locksHoldSpec) false w args)
      (Rows.locksHoldSpec.post enc Tryd.prog Tryd.f5 false true false false) := by
  refine returnsInHanded_of_change_and (C := Tryd.checked) (X := fun w _ => laidMetH Tryd.prog laidL w) (fun _ _ _ hh h => h.of_heap hh) own started (by kernel_rfl) Tryd.func5
    (ChangeSpec.witness_shaped (enc := enc) (C := Tryd.checked) (os := os) (X := fun w _ => laidMetH Tryd.prog laidL w) false (World.doorLaid Tryd.prog doorN os) #[.slice none 0 0, .int .i64 0, .int .i64 0] 8 rfl (World.shaped_of_RefB (by kernel_rfl) (by kernel_rfl)) (by kernel_rfl) (by kernel_rfl) (by kernel_rfl) (door_met os _)) ?_
  intro W base args ds gs before hval0 hW hcnd hsz0 _ _
  have hval : ∀ (j : Nat) t v, Tryd.f5.params[j]? = some t → args[j]? = some v → Value.okWide Tryd.prog W .any base t v := hval0
  have hsz : (DataW.weightsEach Tryd.prog (Tryd.f5.params.toList ++ Rows.locksHoldSpec.plain.varTypes Tryd.prog) (ds ++ gs)).all (· ≤ reachBytes) = true := hsz0
  clear hsz0
  have hW' := hW
  obtain ⟨p, q, hA0, hV, rfl, hfz, hnd⟩ := hW
  have hA : DataW.TrodAll enc Tryd.prog W 0 (fun _ => true) true Tryd.f5.params.toList args.toList ds p := hA0
  rw [Tryd.params5] at hA hval hsz
  obtain ⟨v0, vs0, d0, ds0, p0, q0, hargs, rfl, rfl, h0, r0⟩ := trodAll_cons hA
  obtain ⟨v1, vs1, d1, ds1, p1, q1, rfl, rfl, rfl, h1, r1⟩ := trodAll_cons r0
  obtain ⟨v2, vs2, d2, ds2, p2, q2, rfl, rfl, rfl, h2, r2⟩ := trodAll_cons r1
  obtain ⟨rfl, rfl, rfl⟩ := trodAll_nil r2
  obtain rfl : args = #[v0, v1, v2] := by cases args; simp_all
  obtain ⟨rfl, rfl⟩ := trodVars_none hV
  have k0 := h0
  have lt0 : ∀ x ∈ p0, x.block < W.heap.size := by obtain ⟨m, hm⟩ := k0; exact DataW.trod_lt m _ _ _ hm
  have k1 := h1
  have lt1 : ∀ x ∈ p1, x.block < W.heap.size := by obtain ⟨m, hm⟩ := k1; exact DataW.trod_lt m _ _ _ hm
  have k2 := h2
  have lt2 : ∀ x ∈ p2, x.block < W.heap.size := by obtain ⟨m, hm⟩ := k2; exact DataW.trod_lt m _ _ _ hm
  obtain ⟨A0, n0, c0, l0, rfl, ok0⟩ := open_raws_arg (hval 0 22 v0 rfl rfl) h0 (weights_of hsz (j := 0) rfl rfl)
  obtain ⟨a1, rfl, rfl, rfl, w1⟩ := open_int Tryd.underlying3 (hval 1 3 v1 rfl rfl) h1
  obtain ⟨a2, rfl, rfl, rfl, w2⟩ := open_int Tryd.underlying3 (hval 2 3 v2 rfl rfl) h2
  clear hA0 hval0 hsz
  refine (locksHold_walk l0 A0 n0 c0 a1 a2 W ok0 (inI64_of w1) (inI64_of w2)).mono fun e W' ⟨he, bel⟩ => ?_
  subst he
  exact ⟨_, rfl, _, _, _, [], _, [], hW', trodAll_mk1 (shut_bool Tryd.underlying4 _), (trodAll_cons_mk (Below.trod laidOut (by kernel_rfl) (of_decide_eq_true (by kernel_rfl)) k0 bel lt0) (trodAll_cons_mk (shut_int Tryd.underlying3 w1) (trodAll_cons_mk (shut_int Tryd.underlying3 w2) trodAll_mk0))), rfl, bel.frame _, fun h => by cases h⟩

theorem locksHold_holds : Rows.LocksHoldSaid :=
  OpenClaim.holds_of_wide 5 Tryd.f5 rfl rfl rfl rfl rfl rfl rfl ⟨rfl, rfl, rfl, rfl, rfl⟩ rfl rfl rfl rfl rfl (by kernel_rfl) Tryd.func5 (by kernel_rfl)
    (of_decide_eq_true (by kernel_rfl)) (by unfold Func.isWrapper; first | (rw [if_pos (by decide +kernel)]; kernel_rfl) | (rw [if_neg (by decide +kernel)]; exact ⟨rfl, rfl⟩))
    (fun os started H enc _ => locksHold_lifted os started H enc)
theorem locksHold_card_holds : Rows.LocksHoldCardSaid :=
  Claim7.holds_tied_plain_at .later [] [.data, .data, .data] true (true, "e44c9e840b0f46bef65dfb98f0a7588797efde6505a8a41f96fe595c4c41513d") false
    locksHold_holds (fun _ h => by cases h) (by kernel_rfl) (fun _ h => by cases h) locksHold_row_tie rfl ⟨rfl, rfl⟩ (by kernel_rfl) rfl
    (fun f fn hf hfn => by
      obtain rfl : f = 5 := Option.some.inj ((show Tryd.prog.funcNamed "rickyard/rickyardkeep.LocksHold" = some 5 by kernel_rfl).symm.trans hf) |>.symm
      obtain rfl : fn = Tryd.f5 := (Option.some.inj (Tryd.func5.symm.trans hfn)).symm
      exact ⟨by kernel_rfl, fun j t ht => by
        rw [Tryd.params5] at ht
        have hm : t ∈ ([22, 3, 3] : List TypeId) := by simpa using Array.mem_of_getElem? ht
        have hall : (([22, 3, 3] : List TypeId).all fun u => !Tryd.prog.wantsStandIn u) = true := by kernel_rfl
        exact (show Tryd.prog.wantsStandIn t = false by simpa using List.all_eq_true.1 hall t hm)⟩)
    (by kernel_rfl)
#print axioms locksHold_card_holds
end Go.Proofs.YtniomgngiiiklabDoor
