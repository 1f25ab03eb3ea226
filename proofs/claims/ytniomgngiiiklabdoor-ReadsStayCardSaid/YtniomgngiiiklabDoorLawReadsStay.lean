/- ReadsStay: what is read at a time does not change by transactions with a later start: the law's walk, then its row and its card. Conditions: none. -/
import Derived.Test.YtniomgngiiiklabDoorKeepFacts
namespace Go.Proofs.YtniomgngiiiklabDoor
open Go.RowKit

def keyBs : ByteArray := ⟨#[98]⟩
def newBs : ByteArray := ⟨#[110, 101, 119]⟩

set_option maxRecDepth 100000 in
set_option maxHeartbeats 4000000 in
theorem readsStay_walk (l : List MRaw) (A : Option Addr) (n c : Nat) (at' start : Int) (w : World) (h : RawsOk w w.heap.size A n c l) (hat : InI64 at') (hst : InI64 start) :
    Calls Tryd.prog 6 #[.slice A n c, .int .i64 at', .int .i64 start] w fun e w' => e = .returned (.bool true) ∧ Below w.heap.size w w' := by
  have HR := Lib.hid h
  have HST := Lib.hid hst
  have HAT := Lib.hid hat
  clear h hst hat
  obtain ⟨R, hRe⟩ : ∃ R, R = rowK l := ⟨_, rfl⟩
  have HRE := Lib.hid hRe
  obtain ⟨t, ht⟩ : ∃ t, t = 1 + pickF at' 40 := ⟨_, rfl⟩
  obtain ⟨s, hs⟩ : ∃ s, s = t + 1 + pickF start 40 := ⟨_, rfl⟩
  have ht1 := pickF_lt at' (m := 40) (by omega)
  have hs1 := pickF_lt start (m := 40) (by omega)
  have htb : 1 ≤ t ∧ t ≤ 40 := by omega
  have hsb : t < s ∧ s ≤ 80 := by omega
  have HTT : Hid (timeB t = true) := timeB_of (by omega) (by omega)
  have HTS : Hid (timeB s = true) := timeB_of (by omega) (by omega)
  have HS := Lib.hid hs
  have HT := Lib.hid ht
  have hsp : s + 1 = s + 1 := rfl
  clear hRe hs ht hsp
  go_enter Tryd.func6, Tryd.ntmps6
  go_wp2_with fail
  refine (keepRow_ok l A n c _ HR.out).mono ?_
  rintro e w1 ⟨A1, m1, c1, rfl, ok1, hb⟩
  rw [← HRE.out] at ok1 ⊢
  have HL := Lib.hid hb
  have HR1 := Lib.hid ok1
  clear hb ok1
  obtain ⟨v1, hv1⟩ : ∃ v1, v1 = w1.alloc (.cells #[.string R.key, .int .i64 R.ls, .string R.lp, .string R.value, .slice A1 m1 c1] 27) := ⟨_, rfl⟩
  have hold : Old w1 v1 := by rw [hv1]; exact old_alloc w1 _
  have HB1 : Hid (v1.heap[w1.heap.size]? = some (.cells #[.string R.key, .int .i64 R.ls, .string R.lp, .string R.value, .slice A1 m1 c1] 27 (0, 0))) := by show _ = _; rw [hv1]; exact blk_new w1 _ _
  replace HR1 := hold.rowOk HR1
  replace HL := belowNew HL hv1
  clear hold
  go_wp2_with fail
  rw [← hv1]
  clear hv1
  refine (picked_any at' 40 _ HAT.out (by omega) (by omega)).mono ?_
  rintro e w2 ⟨rfl, rfl⟩
  try clear hc1 hf1
  obtain ⟨hc1, hf1⟩ := blk_read HB1.out
  try clear hzb1
  have hzb1 := blk_lt HB1.out
  go_wp2_with fail
  rw [← HT.out]
  refine (read_ok R t A1 m1 c1 _ HR1.out).mono ?_
  rintro e w2 ⟨rfl, hb⟩
  first | have hold := old0 HL hb (by first | exact Nat.le_refl _ | (simp; done) | (simp; omega)) | have hold := old1 HL hb (by first | exact Nat.le_refl _ | (simp; done) | (simp; omega)) | have hold := old2 HL hb (by first | exact Nat.le_refl _ | (simp; done) | (simp; omega)) | have hold := old3 HL hb (by first | exact Nat.le_refl _ | (simp; done) | (simp; omega))
  replace HB1 := hold.blk HB1
  replace HR1 := hold.rowOk HR1
  first | replace HL := keepL0 HL hb (by first | exact Nat.le_refl _ | (have := HL.out.size; omega) | (have := HL.out.size; simp at this; omega)) (by first | exact Nat.le_refl _ | (simp; done) | (simp; omega)) | replace HL := keepL1 HL hb (by first | exact Nat.le_refl _ | (have := HL.out.size; omega) | (have := HL.out.size; simp at this; omega)) (by first | exact Nat.le_refl _ | (simp; done) | (simp; omega)) | replace HL := keepL2 HL hb (by first | exact Nat.le_refl _ | (have := HL.out.size; omega) | (have := HL.out.size; simp at this; omega)) (by first | exact Nat.le_refl _ | (simp; done) | (simp; omega)) | replace HL := keepL3 HL hb (by first | exact Nat.le_refl _ | (have := HL.out.size; omega) | (have := HL.out.size; simp at this; omega)) (by first | exact Nat.le_refl _ | (simp; done) | (simp; omega))
  clear hb hold
  try clear hc1 hf1
  obtain ⟨hc1, hf1⟩ := blk_read HB1.out
  try clear hzb1
  have hzb1 := blk_lt HB1.out
  go_wp2_with fail
  refine (picked_any start 40 _ HST.out (by omega) (by omega)).mono ?_
  rintro e w3 ⟨rfl, rfl⟩
  go_wp2_with fail
  rw [← HS.out]
  refine (lockFor_ok R s keyBs newBs A1 m1 c1 _ HR1.out).mono ?_
  rintro e w3 ⟨A2, m2, c2, rfl, ok2, hb⟩
  first | have hold := old0 HL hb (by first | exact Nat.le_refl _ | (simp; done) | (simp; omega)) | have hold := old1 HL hb (by first | exact Nat.le_refl _ | (simp; done) | (simp; omega)) | have hold := old2 HL hb (by first | exact Nat.le_refl _ | (simp; done) | (simp; omega)) | have hold := old3 HL hb (by first | exact Nat.le_refl _ | (simp; done) | (simp; omega))
  replace HB1 := hold.blk HB1
  replace HR1 := hold.rowOk HR1
  first | replace HL := keepL0 HL hb (by first | exact Nat.le_refl _ | (have := HL.out.size; omega) | (have := HL.out.size; simp at this; omega)) (by first | exact Nat.le_refl _ | (simp; done) | (simp; omega)) | replace HL := keepL1 HL hb (by first | exact Nat.le_refl _ | (have := HL.out.size; omega) | (have := HL.out.size; simp at this; omega)) (by first | exact Nat.le_refl _ | (simp; done) | (simp; omega)) | replace HL := keepL2 HL hb (by first | exact Nat.le_refl _ | (have := HL.out.size; omega) | (have := HL.out.size; simp at this; omega)) (by first | exact Nat.le_refl _ | (simp; done) | (simp; omega)) | replace HL := keepL3 HL hb (by first | exact Nat.le_refl _ | (have := HL.out.size; omega) | (have := HL.out.size; simp at this; omega)) (by first | exact Nat.le_refl _ | (simp; done) | (simp; omega))
  clear hb hold
  try clear hc1 hf1
  obtain ⟨hc1, hf1⟩ := blk_read HB1.out
  try clear hzb1
  have hzb1 := blk_lt HB1.out
  have HR2 := Lib.hid ok2
  clear ok2
  by_cases h0 : (readF R t).2.2 = 0 ∧ lockCode R s keyBs newBs = 0
  · obtain ⟨h0, h1⟩ := h0
    have e1 : ((readF R t).2.2 != 0) = false := by simp [h0]
    rw [h1]
    have E1 := Lib.hid (locked_commit (cm := s + 1) h1 (by omega) (by omega))
    have E2 := Lib.hid (locked_read h1 HTT.out hsb.1)
    have E3 := Lib.hid (committed_read (cm := s + 1) h1 (by omega) (by omega) HTT.out hsb.1)
    have E4 := Lib.hid (committed_now (cm := s + 1) h1 (by omega) (by omega))
    have E5 := Lib.hid (locked_busy h1 HTS.out (Int.le_refl s))
    have H0 := Lib.hid h0
    clear h0 h1
    obtain ⟨a, ha⟩ : ∃ a, a = lockRow R s keyBs newBs := ⟨_, rfl⟩
    rw [← ha] at E1 E2 E3 E4 E5 HR2 ⊢
    clear ha
    obtain ⟨v2, hv2⟩ : ∃ v2, v2 = w3.alloc (.cells #[.string a.key, .int .i64 a.ls, .string a.lp, .string a.value, .slice A2 m2 c2] 27) := ⟨_, rfl⟩
    have hold : Old w3 v2 := by rw [hv2]; exact old_alloc w3 _
    replace HB1 := hold.blk HB1
    have HB2 : Hid (v2.heap[w3.heap.size]? = some (.cells #[.string a.key, .int .i64 a.ls, .string a.lp, .string a.value, .slice A2 m2 c2] 27 (0, 0))) := by show _ = _; rw [hv2]; exact blk_new w3 _ _
    replace HR1 := hold.rowOk HR1
    replace HR2 := hold.rowOk HR2
    replace HL := belowNew HL hv2
    clear hold
    go_wp2_with fail
    rw [← hv2]
    clear hv2
    refine (commit_ok a s (s + 1) A2 m2 c2 _ HR2.out).mono ?_
    rintro e w4 ⟨A3, m3, c3, rfl, ok3, hb⟩
    rw [E1.out]
    obtain ⟨b, hbb⟩ : ∃ b, b = commitRow a s (s + 1) := ⟨_, rfl⟩
    rw [← hbb] at E3 E4 ok3 ⊢
    clear hbb
    first | have hold := old0 HL hb (by first | exact Nat.le_refl _ | (simp; done) | (simp; omega)) | have hold := old1 HL hb (by first | exact Nat.le_refl _ | (simp; done) | (simp; omega)) | have hold := old2 HL hb (by first | exact Nat.le_refl _ | (simp; done) | (simp; omega)) | have hold := old3 HL hb (by first | exact Nat.le_refl _ | (simp; done) | (simp; omega))
    replace HB1 := hold.blk HB1
    replace HB2 := hold.blk HB2
    replace HR1 := hold.rowOk HR1
    replace HR2 := hold.rowOk HR2
    first | replace HL := keepL0 HL hb (by first | exact Nat.le_refl _ | (have := HL.out.size; omega) | (have := HL.out.size; simp at this; omega)) (by first | exact Nat.le_refl _ | (simp; done) | (simp; omega)) | replace HL := keepL1 HL hb (by first | exact Nat.le_refl _ | (have := HL.out.size; omega) | (have := HL.out.size; simp at this; omega)) (by first | exact Nat.le_refl _ | (simp; done) | (simp; omega)) | replace HL := keepL2 HL hb (by first | exact Nat.le_refl _ | (have := HL.out.size; omega) | (have := HL.out.size; simp at this; omega)) (by first | exact Nat.le_refl _ | (simp; done) | (simp; omega)) | replace HL := keepL3 HL hb (by first | exact Nat.le_refl _ | (have := HL.out.size; omega) | (have := HL.out.size; simp at this; omega)) (by first | exact Nat.le_refl _ | (simp; done) | (simp; omega))
    clear hb hold
    try clear hc1 hf1
    obtain ⟨hc1, hf1⟩ := blk_read HB1.out
    try clear hzb1
    have hzb1 := blk_lt HB1.out
    try clear hc2 hf2
    obtain ⟨hc2, hf2⟩ := blk_read HB2.out
    try clear hzb2
    have hzb2 := blk_lt HB2.out
    have HR3 := Lib.hid ok3
    clear ok3
    obtain ⟨v3, hv3⟩ : ∃ v3, v3 = w4.alloc (.cells #[.string b.key, .int .i64 b.ls, .string b.lp, .string b.value, .slice A3 m3 c3] 27) := ⟨_, rfl⟩
    have hold : Old w4 v3 := by rw [hv3]; exact old_alloc w4 _
    replace HB1 := hold.blk HB1
    replace HB2 := hold.blk HB2
    have HB3 : Hid (v3.heap[w4.heap.size]? = some (.cells #[.string b.key, .int .i64 b.ls, .string b.lp, .string b.value, .slice A3 m3 c3] 27 (0, 0))) := by show _ = _; rw [hv3]; exact blk_new w4 _ _
    replace HR1 := hold.rowOk HR1
    replace HR2 := hold.rowOk HR2
    replace HR3 := hold.rowOk HR3
    replace HL := belowNew HL hv3
    clear hold
    go_wp2_with fail
    rw [← hv3]
    clear hv3
    refine (read_ok a t A2 m2 c2 _ HR2.out).mono ?_
    rintro e w5 ⟨rfl, hb⟩
    rw [E2.out]
    first | have hold := old0 HL hb (by first | exact Nat.le_refl _ | (simp; done) | (simp; omega)) | have hold := old1 HL hb (by first | exact Nat.le_refl _ | (simp; done) | (simp; omega)) | have hold := old2 HL hb (by first | exact Nat.le_refl _ | (simp; done) | (simp; omega)) | have hold := old3 HL hb (by first | exact Nat.le_refl _ | (simp; done) | (simp; omega))
    replace HB1 := hold.blk HB1
    replace HB2 := hold.blk HB2
    replace HB3 := hold.blk HB3
    replace HR1 := hold.rowOk HR1
    replace HR2 := hold.rowOk HR2
    replace HR3 := hold.rowOk HR3
    first | replace HL := keepL0 HL hb (by first | exact Nat.le_refl _ | (have := HL.out.size; omega) | (have := HL.out.size; simp at this; omega)) (by first | exact Nat.le_refl _ | (simp; done) | (simp; omega)) | replace HL := keepL1 HL hb (by first | exact Nat.le_refl _ | (have := HL.out.size; omega) | (have := HL.out.size; simp at this; omega)) (by first | exact Nat.le_refl _ | (simp; done) | (simp; omega)) | replace HL := keepL2 HL hb (by first | exact Nat.le_refl _ | (have := HL.out.size; omega) | (have := HL.out.size; simp at this; omega)) (by first | exact Nat.le_refl _ | (simp; done) | (simp; omega)) | replace HL := keepL3 HL hb (by first | exact Nat.le_refl _ | (have := HL.out.size; omega) | (have := HL.out.size; simp at this; omega)) (by first | exact Nat.le_refl _ | (simp; done) | (simp; omega))
    clear hb hold
    try clear hc1 hf1
    obtain ⟨hc1, hf1⟩ := blk_read HB1.out
    try clear hzb1
    have hzb1 := blk_lt HB1.out
    try clear hc2 hf2
    obtain ⟨hc2, hf2⟩ := blk_read HB2.out
    try clear hzb2
    have hzb2 := blk_lt HB2.out
    try clear hc3 hf3
    obtain ⟨hc3, hf3⟩ := blk_read HB3.out
    try clear hzb3
    have hzb3 := blk_lt HB3.out
    go_wp2_with fail
    refine (read_ok b t A3 m3 c3 _ HR3.out).mono ?_
    rintro e w6 ⟨rfl, hb⟩
    rw [E3.out]
    first | have hold := old0 HL hb (by first | exact Nat.le_refl _ | (simp; done) | (simp; omega)) | have hold := old1 HL hb (by first | exact Nat.le_refl _ | (simp; done) | (simp; omega)) | have hold := old2 HL hb (by first | exact Nat.le_refl _ | (simp; done) | (simp; omega)) | have hold := old3 HL hb (by first | exact Nat.le_refl _ | (simp; done) | (simp; omega))
    replace HB1 := hold.blk HB1
    replace HB2 := hold.blk HB2
    replace HB3 := hold.blk HB3
    replace HR1 := hold.rowOk HR1
    replace HR2 := hold.rowOk HR2
    replace HR3 := hold.rowOk HR3
    first | replace HL := keepL0 HL hb (by first | exact Nat.le_refl _ | (have := HL.out.size; omega) | (have := HL.out.size; simp at this; omega)) (by first | exact Nat.le_refl _ | (simp; done) | (simp; omega)) | replace HL := keepL1 HL hb (by first | exact Nat.le_refl _ | (have := HL.out.size; omega) | (have := HL.out.size; simp at this; omega)) (by first | exact Nat.le_refl _ | (simp; done) | (simp; omega)) | replace HL := keepL2 HL hb (by first | exact Nat.le_refl _ | (have := HL.out.size; omega) | (have := HL.out.size; simp at this; omega)) (by first | exact Nat.le_refl _ | (simp; done) | (simp; omega)) | replace HL := keepL3 HL hb (by first | exact Nat.le_refl _ | (have := HL.out.size; omega) | (have := HL.out.size; simp at this; omega)) (by first | exact Nat.le_refl _ | (simp; done) | (simp; omega))
    clear hb hold
    try clear hc1 hf1
    obtain ⟨hc1, hf1⟩ := blk_read HB1.out
    try clear hzb1
    have hzb1 := blk_lt HB1.out
    try clear hc2 hf2
    obtain ⟨hc2, hf2⟩ := blk_read HB2.out
    try clear hzb2
    have hzb2 := blk_lt HB2.out
    try clear hc3 hf3
    obtain ⟨hc3, hf3⟩ := blk_read HB3.out
    try clear hzb3
    have hzb3 := blk_lt HB3.out
    go_wp2_with fail
    refine (read_ok b (s + 1) A3 m3 c3 _ HR3.out).mono ?_
    rintro e w7 ⟨rfl, hb⟩
    rw [E4.out, show newBs = ⟨#[110, 101, 119]⟩ from rfl]
    first | have hold := old0 HL hb (by first | exact Nat.le_refl _ | (simp; done) | (simp; omega)) | have hold := old1 HL hb (by first | exact Nat.le_refl _ | (simp; done) | (simp; omega)) | have hold := old2 HL hb (by first | exact Nat.le_refl _ | (simp; done) | (simp; omega)) | have hold := old3 HL hb (by first | exact Nat.le_refl _ | (simp; done) | (simp; omega))
    replace HB1 := hold.blk HB1
    replace HB2 := hold.blk HB2
    replace HB3 := hold.blk HB3
    replace HR1 := hold.rowOk HR1
    replace HR2 := hold.rowOk HR2
    replace HR3 := hold.rowOk HR3
    first | replace HL := keepL0 HL hb (by first | exact Nat.le_refl _ | (have := HL.out.size; omega) | (have := HL.out.size; simp at this; omega)) (by first | exact Nat.le_refl _ | (simp; done) | (simp; omega)) | replace HL := keepL1 HL hb (by first | exact Nat.le_refl _ | (have := HL.out.size; omega) | (have := HL.out.size; simp at this; omega)) (by first | exact Nat.le_refl _ | (simp; done) | (simp; omega)) | replace HL := keepL2 HL hb (by first | exact Nat.le_refl _ | (have := HL.out.size; omega) | (have := HL.out.size; simp at this; omega)) (by first | exact Nat.le_refl _ | (simp; done) | (simp; omega)) | replace HL := keepL3 HL hb (by first | exact Nat.le_refl _ | (have := HL.out.size; omega) | (have := HL.out.size; simp at this; omega)) (by first | exact Nat.le_refl _ | (simp; done) | (simp; omega))
    clear hb hold
    try clear hc1 hf1
    obtain ⟨hc1, hf1⟩ := blk_read HB1.out
    try clear hzb1
    have hzb1 := blk_lt HB1.out
    try clear hc2 hf2
    obtain ⟨hc2, hf2⟩ := blk_read HB2.out
    try clear hzb2
    have hzb2 := blk_lt HB2.out
    try clear hc3 hf3
    obtain ⟨hc3, hf3⟩ := blk_read HB3.out
    try clear hzb3
    have hzb3 := blk_lt HB3.out
    go_wp2_with fail
    refine (read_ok a s A2 m2 c2 _ HR2.out).mono ?_
    rintro e w8 ⟨rfl, hb⟩
    rw [E5.out]
    first | have hold := old0 HL hb (by first | exact Nat.le_refl _ | (simp; done) | (simp; omega)) | have hold := old1 HL hb (by first | exact Nat.le_refl _ | (simp; done) | (simp; omega)) | have hold := old2 HL hb (by first | exact Nat.le_refl _ | (simp; done) | (simp; omega)) | have hold := old3 HL hb (by first | exact Nat.le_refl _ | (simp; done) | (simp; omega))
    replace HB1 := hold.blk HB1
    replace HB2 := hold.blk HB2
    replace HB3 := hold.blk HB3
    replace HR1 := hold.rowOk HR1
    replace HR2 := hold.rowOk HR2
    replace HR3 := hold.rowOk HR3
    first | replace HL := keepL0 HL hb (by first | exact Nat.le_refl _ | (have := HL.out.size; omega) | (have := HL.out.size; simp at this; omega)) (by first | exact Nat.le_refl _ | (simp; done) | (simp; omega)) | replace HL := keepL1 HL hb (by first | exact Nat.le_refl _ | (have := HL.out.size; omega) | (have := HL.out.size; simp at this; omega)) (by first | exact Nat.le_refl _ | (simp; done) | (simp; omega)) | replace HL := keepL2 HL hb (by first | exact Nat.le_refl _ | (have := HL.out.size; omega) | (have := HL.out.size; simp at this; omega)) (by first | exact Nat.le_refl _ | (simp; done) | (simp; omega)) | replace HL := keepL3 HL hb (by first | exact Nat.le_refl _ | (have := HL.out.size; omega) | (have := HL.out.size; simp at this; omega)) (by first | exact Nat.le_refl _ | (simp; done) | (simp; omega))
    clear hb hold
    try clear hc1 hf1
    obtain ⟨hc1, hf1⟩ := blk_read HB1.out
    try clear hzb1
    have hzb1 := blk_lt HB1.out
    try clear hc2 hf2
    obtain ⟨hc2, hf2⟩ := blk_read HB2.out
    try clear hzb2
    have hzb2 := blk_lt HB2.out
    try clear hc3 hf3
    obtain ⟨hc3, hf3⟩ := blk_read HB3.out
    try clear hzb3
    have hzb3 := blk_lt HB3.out
    have h0 := H0.out
    go_wp2_with fail
    go_ret
    exact ⟨rfl, HL.out⟩
  · have hd : ((readF R t).2.2 != 0) = true ∨ (((readF R t).2.2 != 0) = false ∧ (lockCode R s keyBs newBs != 0) = true) := by
      by_cases h1 : (readF R t).2.2 = 0
      · refine .inr ⟨by simp [h1], ?_⟩
        have : lockCode R s keyBs newBs ≠ 0 := fun h2 => h0 ⟨h1, h2⟩
        simpa using this
      · exact .inl (by simpa using h1)
    clear h0
    rcases hd with h1 | ⟨h1, h2⟩
    all_goals
      go_wp2_with fail
      go_ret
      exact ⟨rfl, HL.out.alloc HL.out.size _⟩
open Go.ChangeShapes Go.WideShapes Go.ChangeAt
open Go.ChangeMaps (open_string shut_string)
set_option maxRecDepth 100000 in
theorem readsStay_lifted (os : Os) (started : os.Started) (H : Type) (enc : TypeId × Value → H) :
    ReturnsInHanded {} Tryd.checked os 6 .any (fun w args => (Rows.readsStaySpec.pre enc Tryd.prog Tryd.f6 [] false w args ∧ laidMetH Tryd.prog laidL w) ∧ sizedMet enc Tryd.prog Tryd.f6 (OpenSpec.ofChange Rows.readsStaySpec) false w args)
      (Rows.readsStaySpec.post enc Tryd.prog Tryd.f6 false true false false) := by
  refine returnsInHanded_of_change_and (C := Tryd.checked) (X := fun w _ => laidMetH Tryd.prog laidL w) (fun _ _ _ hh h => h.of_heap hh) own started (by kernel_rfl) Tryd.func6
    (ChangeSpec.witness_shaped (enc := enc) (C := Tryd.checked) (os := os) (X := fun w _ => laidMetH Tryd.prog laidL w) false (World.doorLaid Tryd.prog doorN os) #[.slice none 0 0, .int .i64 0, .int .i64 0] 8 rfl (World.shaped_of_RefB (by kernel_rfl) (by kernel_rfl)) (by kernel_rfl) (by kernel_rfl) (by kernel_rfl) (door_met os _)) ?_
  intro W base args ds gs before hval0 hW hcnd hsz0 _ _
  have hval : ∀ (j : Nat) t v, Tryd.f6.params[j]? = some t → args[j]? = some v → Value.okWide Tryd.prog W .any base t v := hval0
  have hsz : (DataW.weightsEach Tryd.prog (Tryd.f6.params.toList ++ Rows.readsStaySpec.plain.varTypes Tryd.prog) (ds ++ gs)).all (· ≤ reachBytes) = true := hsz0
  clear hsz0
  have hW' := hW
  obtain ⟨p, q, hA0, hV, rfl, hfz, hnd⟩ := hW
  have hA : DataW.TrodAll enc Tryd.prog W 0 (fun _ => true) true Tryd.f6.params.toList args.toList ds p := hA0
  rw [Tryd.params6] at hA hval hsz
  obtain ⟨v0, vs0, d0, ds0, p0, q0, hargs, rfl, rfl, h0, r0⟩ := trodAll_cons hA
  obtain ⟨v1, vs1, d1, ds1, p1, q1, rfl, rfl, rfl, h1, r1⟩ := trodAll_cons r0
  obtain ⟨v2, vs2, d2, ds2, p2, q2, rfl, rfl, rfl, h2, r2⟩ := trodAll_cons r1
  obtain ⟨rfl, rfl, rfl⟩ := trodAll_nil r2
  obtain rfl : args = #[v0, v1, v2] := by cases args; simp_all
  obtain ⟨rfl, rfl⟩ := trodVars_none hV
  have k0 := h0
  have lt0 : ∀ x ∈ p0, x.block < W.heap.size := by obtain ⟨m, hm⟩ := k0; exact DataW.trod_lt m _ _ _ hm
  have k1 := h1
  have lt1 : ∀ x ∈ p1, x.block < W.heap.size := by obtain ⟨m, hm⟩ := k1; exact DataW.trod_lt m _ _ _ hm
  have k2 := h2
  have lt2 : ∀ x ∈ p2, x.block < W.heap.size := by obtain ⟨m, hm⟩ := k2; exact DataW.trod_lt m _ _ _ hm
  obtain ⟨A0, n0, c0, l0, rfl, ok0⟩ := open_raws_arg (hval 0 22 v0 rfl rfl) h0 (weights_of hsz (j := 0) rfl rfl)
  obtain ⟨a1, rfl, rfl, rfl, w1⟩ := open_int Tryd.underlying3 (hval 1 3 v1 rfl rfl) h1
  obtain ⟨a2, rfl, rfl, rfl, w2⟩ := open_int Tryd.underlying3 (hval 2 3 v2 rfl rfl) h2
  clear hA0 hval0 hsz
  refine (readsStay_walk l0 A0 n0 c0 a1 a2 W ok0 (inI64_of w1) (inI64_of w2)).mono fun e W' ⟨he, bel⟩ => ?_
  subst he
  exact ⟨_, rfl, _, _, _, [], _, [], hW', trodAll_mk1 (shut_bool Tryd.underlying4 _), (trodAll_cons_mk (Below.trod laidOut (by kernel_rfl) (of_decide_eq_true (by kernel_rfl)) k0 bel lt0) (trodAll_cons_mk (shut_int Tryd.underlying3 w1) (trodAll_cons_mk (shut_int Tryd.underlying3 w2) trodAll_mk0))), rfl, bel.frame _, fun h => by cases h⟩

theorem readsStay_holds : Rows.ReadsStaySaid :=
  OpenClaim.holds_of_wide 6 Tryd.f6 rfl rfl rfl rfl rfl rfl rfl ⟨rfl, rfl, rfl, rfl, rfl⟩ rfl rfl rfl rfl rfl (by kernel_rfl) Tryd.func6 (by kernel_rfl)
    (of_decide_eq_true (by kernel_rfl)) (by unfold Func.isWrapper; first | (rw [if_pos (by decide +kernel)]; kernel_rfl) | (rw [if_neg (by decide +kernel)]; exact ⟨rfl, rfl⟩))
    (fun os started H enc _ => readsStay_lifted os started H enc)
theorem readsStay_card_holds : Rows.ReadsStayCardSaid :=
  Claim7.holds_tied_plain_at .later [] [.data, .data, .data] true (true, "e44c9e840b0f46bef65dfb98f0a7588797efde6505a8a41f96fe595c4c41513d") false
    readsStay_holds (fun _ h => by cases h) (by kernel_rfl) (fun _ h => by cases h) readsStay_row_tie rfl ⟨rfl, rfl⟩ (by kernel_rfl) rfl
    (fun f fn hf hfn => by
      obtain rfl : f = 6 := Option.some.inj ((show Tryd.prog.funcNamed "rickyard/rickyardkeep.ReadsStay" = some 6 by kernel_rfl).symm.trans hf) |>.symm
      obtain rfl : fn = Tryd.f6 := (Option.some.inj (Tryd.func6.symm.trans hfn)).symm
      exact ⟨by kernel_rfl, fun j t ht => by
        rw [Tryd.params6] at ht
        have hm : t ∈ ([22, 3, 3] : List TypeId) := by simpa using Array.mem_of_getElem? ht
        have hall : (([22, 3, 3] : List TypeId).all fun u => !Tryd.prog.wantsStandIn u) = true := by kernel_rfl
        exact (show Tryd.prog.wantsStandIn t = false by simpa using List.all_eq_true.1 hall t hm)⟩)
    (by kernel_rfl)
#print axioms readsStay_card_holds
end Go.Proofs.YtniomgngiiiklabDoor
