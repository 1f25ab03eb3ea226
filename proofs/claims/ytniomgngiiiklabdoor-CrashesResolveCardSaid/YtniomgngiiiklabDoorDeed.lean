/- The walks of keep's deed and look. -/
import Derived.Test.YtniomgngiiiklabDoorActsApp
import Derived.Test.YtniomgngiiiklabDoorAnsOk
import Derived.Test.YtniomgngiiiklabDoorScripts
import Derived.Deep.CutBlock
import Derived.Deep.DeepCutAuto
import Derived.LoopTactic
namespace Go.Proofs.YtniomgngiiiklabDoor
open Go.RowKit

/-! ### the keys of a deed, in memory -/
abbrev KeysOk (w : World) (B : Nat) (A : Option Addr) (n : Nat) (l : List ByteArray) : Prop := Reads (fun s : ByteArray => [Value.string s]) 1 w B A n l
theorem KeysOk.key {w : World} {B n : Nat} {A : Option Addr} {l : List ByteArray} (h : KeysOk w B A n l) {k : Nat} (hk : k < n) : ∃ x b off, l[k]? = some x ∧ A = some ⟨b, off, none⟩ ∧ b < B ∧ w.cell? ⟨b, off + k, none⟩ = some (.string x) := by
  obtain ⟨x, b, off, h1, h2, h3, hc⟩ := h.get hk
  exact ⟨x, b, off, h1, h2, h3, by simpa using hc 0 _ rfl⟩
theorem KeysOk.of_blk {w : World} {g : Nat} {l : List ByteArray} {t : TypeId} (h : w.heap[g]? = some (.cells (l.map Value.string).toArray t (0, 0))) : KeysOk w w.heap.size (some ⟨g, 0, none⟩) l.length l :=
  ⟨rfl, fun k x hx => ⟨g, 0, rfl, blk_lt h, fun i u hu => by
    have : i = 0 := by
      have := (List.getElem?_eq_some_iff.1 hu).1
      simp at this; omega
    subst this
    simp at hu
    subst hu
    rw [(blk_read h).1]
    simp [hx]⟩⟩
theorem own_acts_blk {w : World} {g base n : Nat} {l : List MAct} (h : w.heap[g]? = some (.cells (actCells l).toArray 62 (0, 0))) (hb : base ≤ g) (hl : l.length = n) (hn : n ≤ 500) : w.ownsRow base 62 4 (.slice (some ⟨g, 0, none⟩) n n) n (actCells l) := by
  subst hl
  exact ⟨actCells_length l, .inr ⟨g, _, _, rfl, hb, h, Nat.le_refl _, by unfold maxLen; omega, by rw [List.size_toArray, actCells_length], by rw [← actCells_length, List.toList_toArray, List.take_length]⟩⟩
theorem Reads.of_blk {α : Type} {f : α → List Value} {s : Nat} (hf : ∀ x, (f x).length = s) {w : World} {g : Nat} {t : TypeId} {l : List α} (h : w.heap[g]? = some (.cells (l.flatMap f).toArray t (0, 0))) : Reads f s w w.heap.size (some ⟨g, 0, none⟩) l.length l :=
  ⟨rfl, fun k x hx => ⟨g, 0, rfl, blk_lt h, fun i u hu => by
    rw [(blk_read h).1, List.getElem?_toArray, Nat.zero_add]
    exact flat_at hf hx hu⟩⟩
/-- An answer's cells by number. -/
theorem ans_no {w : World} {B n : Nat} {A : Option Addr} {l : List MAns} (h : AnsOk w B A n l) {k : Nat} (hk : k < n) : ∃ b off, A = some ⟨b, off, none⟩ ∧ b < B ∧ w.cell? ⟨b, off + k * 5, none⟩ = some (.int .i64 (ansAt l k).code) ∧ w.cell? ⟨b, off + k * 5 + 1, none⟩ = some (.bool (ansAt l k).is) ∧
    w.cell? ⟨b, off + k * 5 + 2, none⟩ = some (.string (ansAt l k).value) ∧ w.cell? ⟨b, off + k * 5 + 3, none⟩ = some (.int .i64 (ansAt l k).phase) ∧ w.cell? ⟨b, off + k * 5 + 4, none⟩ = some (.int .i64 (ansAt l k).time) := by
  obtain ⟨a, b, off, hx, e, hb, q0, q1, q2, q3, q4⟩ := AnsOk.ans h hk
  have ha : a = ansAt l k := by unfold ansAt; rw [hx]; rfl
  subst ha
  exact ⟨b, off, e, hb, q0, q1, q2, q3, q4⟩
def beginC (c : Nat) : MAct := ⟨1, c, ⟨#[]⟩, ⟨#[]⟩⟩
def putC (c : Nat) (k : ByteArray) : MAct := ⟨3, c, k, ofK k c⟩
def stepC (c : Nat) : MAct := ⟨4, c, ⟨#[]⟩, ⟨#[]⟩⟩
def getC (c : Nat) (k : ByteArray) : MAct := ⟨2, c, k, ⟨#[]⟩⟩
theorem map_take_more {α β : Type} (f : α → β) {l : List α} {k : Nat} {x : α} (h : l[k]? = some x) : (l.take k).map f ++ [f x] = (l.take (k + 1)).map f := by
  obtain ⟨hk, rfl⟩ := List.getElem?_eq_some_iff.1 h
  rw [List.take_succ_eq_append_getElem hk, List.map_append]; rfl

/-- Acts, and then one for each of the first k keys. -/
def keysTo (f : ByteArray → MAct) (l : List MAct) (keys : List ByteArray) (k : Nat) : List MAct := l ++ (keys.take k).map f
theorem keysTo_zero (f : ByteArray → MAct) (l : List MAct) (keys : List ByteArray) : keysTo f l keys 0 = l := by unfold keysTo; simp
theorem keysTo_more (f : ByteArray → MAct) {l : List MAct} {keys : List ByteArray} {k : Nat} {x : ByteArray} (h : keys[k]? = some x) : keysTo f l keys k ++ [f x] = keysTo f l keys (k + 1) := by
  unfold keysTo
  rw [← map_take_more f h, List.append_assoc]
theorem keysTo_all (f : ByteArray → MAct) (l : List MAct) {keys : List ByteArray} {k : Nat} (h : keys.length ≤ k) : keysTo f l keys k = l ++ keys.map f := by unfold keysTo; rw [List.take_of_length_le h]
/-- Acts, and then so many of one. -/
def timesTo (a : MAct) (l : List MAct) (k : Nat) : List MAct := l ++ List.replicate k a
theorem timesTo_zero (a : MAct) (l : List MAct) : timesTo a l 0 = l := by unfold timesTo; simp
theorem timesTo_more (a : MAct) (l : List MAct) (k : Nat) : timesTo a l k ++ [a] = timesTo a l (k + 1) := by
  unfold timesTo
  rw [List.replicate_succ', List.append_assoc]

set_option maxRecDepth 100000 in
set_option maxHeartbeats 4000000 in
theorem look_any (cc : Nat) (keys : List ByteArray) (A : Option Addr) (n c : Nat) (w : World) (h : KeysOk w w.heap.size A n keys) (hn : n ≤ 5) :
    Calls Tryd.prog 33 #[.int .i64 (cc : Int), .slice A n c] w fun e w' => ∃ A' c', e = .returned (.slice A' (1 + n) c') ∧ w'.ownsRow w.heap.size 62 4 (.slice A' (1 + n) c') (1 + n) (actCells (lookA cc keys)) ∧ Below w.heap.size w w' := by
  have HK := Lib.hid h
  have HLEN := Lib.hid h.len
  clear h
  obtain ⟨bl, hbl⟩ : ∃ bl, bl = [beginC cc] := ⟨_, rfl⟩
  have HBL := Lib.hid hbl
  clear hbl
  go_enter Tryd.func33, Tryd.ntmps33
  go_upto_region 2 with (fail)
  obtain ⟨v, hv⟩ : ∃ v, v = w.alloc (.cells #[.int .i64 1, .int .i64 cc, .string ⟨#[]⟩, .string ⟨#[]⟩] 62) := ⟨_, rfl⟩
  rw [← hv]
  have HO : Hid (v.ownsRow w.heap.size 62 4 (.slice (some ⟨w.heap.size, 0, none⟩) 1 1) 1 (actCells bl)) := by
    show World.ownsRow _ _ _ _ _ _ _
    rw [hv, HBL.out]; exact own_acts_blk (blk_new w _ _) (Nat.le_refl _) rfl (by decide)
  have HB : Hid (Below w.heap.size w v) := by show Below _ _ _; rw [hv]; exact (Below.refl _ w).alloc (Nat.le_refl _) _
  clear hv
  go_wp2_with fail
  go_loopw [5, 13] (fun s i wr => (∃ k : Nat, k ≤ n ∧ i = .int .i64 k ∧ ∃ A' c', s = .slice A' (1 + k) c' ∧ wr.ownsRow w.heap.size 62 4 (.slice A' (1 + k) c') (1 + k) (actCells (keysTo (getC cc) bl keys k))) ∧ Below w.heap.size w wr) (fun _ i _ => n - (intOf i).toNat)
  case atStart => exact ⟨⟨0, Nat.zero_le _, rfl, _, _, rfl, by rw [keysTo_zero]; exact HO.out⟩, HB.out⟩
  case round =>
    obtain ⟨⟨k, hk, rfl, A', c', rfl, ho⟩, hbel⟩ := hrel
    have HOr := Lib.hid ho
    have HL := Lib.hid hbel
    clear ho hbel HO HB
    have hzw := HL.out.size
    by_cases hlt : k < n
    · obtain ⟨x, b, off, hx, rfl, hbb, q0⟩ := KeysOk.key (HK.out.below HL.out (Nat.le_refl _)) hlt
      have HX := Lib.hid hx
      obtain ⟨nl, hnl⟩ : ∃ nl, nl = [getC cc x] := ⟨_, rfl⟩
      have HNL := Lib.hid hnl
      clear hx hnl
      go_wp2_with (at_builtin; refine wpList_append_acts _ rfl _ _ rfl w.heap.size A' c' (1 + k) (keysTo (getC cc) bl keys k) nl rfl (HOr.out.alloc _) wr.heap.size 1 rfl (by rw [HNL.out]; rfl) (by rw [HNL.out]; exact blk_new wr _ _) (by omega) (by decide) (by simp; omega) ?_)
      intro A6 c6 w6 ho hg
      have HO6 := Lib.hid ho
      have HL6 := Lib.hid ((HL.out.alloc hzw _).grown hg (by simp; omega) (fun j hj => own_base HOr.out j hj))
      clear ho hg
      go_wp2_with fail
      go_roundw
      case rel =>
        refine ⟨⟨k + 1, by omega, by go_num, A6, c6, rfl, ?_⟩, HL6.out⟩
        rw [← keysTo_more (getC cc) HX.out, ← HNL.out]
        exact HO6.out
      case measure => simp [intOf]; omega
    · have HN : Hid (k = n) := by show _ = _; omega
      have he : keysTo (getC cc) bl keys k = lookA cc keys := by
        rw [keysTo_all _ _ (by rw [HLEN.out]; omega), HBL.out]; rfl
      have ho := HOr.out
      rw [he] at ho
      have HOE := Lib.hid ho
      clear he ho hlt hk
      have hkn := HN.out
      go_wp2_with fail
      go_ret
      have e := HN.out
      subst e
      exact ⟨A', c', rfl, HOE.out, HL.out⟩

set_option maxRecDepth 100000 in
set_option maxHeartbeats 4000000 in
theorem deed_any (cc st : Nat) (keys : List ByteArray) (A : Option Addr) (n c : Nat) (w : World) (h : KeysOk w w.heap.size A n keys) (hn : n ≤ 5) (hst : st ≤ 20) (hcc : cc < 10) (hsz : ∀ k ∈ keys, k.size ≤ 6) :
    Calls Tryd.prog 32 #[.int .i64 (cc : Int), .int .i64 (st : Int), .slice A n c] w fun e w' => ∃ A' c', e = .returned (.slice A' (1 + n + st) c') ∧ w'.ownsRow w.heap.size 62 4 (.slice A' (1 + n + st) c') (1 + n + st) (actCells (deedA cc st keys)) ∧ Below w.heap.size w w' := by
  have HK := Lib.hid h
  have HLEN := Lib.hid h.len
  have HSZ := Lib.hid hsz
  clear h hsz
  obtain ⟨bl, hbl⟩ : ∃ bl, bl = [beginC cc] := ⟨_, rfl⟩
  have HBL := Lib.hid hbl
  clear hbl
  go_enter Tryd.func32, Tryd.ntmps32
  go_upto_region 2 with (fail)
  obtain ⟨v, hv⟩ : ∃ v, v = w.alloc (.cells #[.int .i64 1, .int .i64 cc, .string ⟨#[]⟩, .string ⟨#[]⟩] 62) := ⟨_, rfl⟩
  rw [← hv]
  have HO : Hid (v.ownsRow w.heap.size 62 4 (.slice (some ⟨w.heap.size, 0, none⟩) 1 1) 1 (actCells bl)) := by
    show World.ownsRow _ _ _ _ _ _ _
    rw [hv, HBL.out]; exact own_acts_blk (blk_new w _ _) (Nat.le_refl _) rfl (by decide)
  have HB : Hid (Below w.heap.size w v) := by show Below _ _ _; rw [hv]; exact (Below.refl _ w).alloc (Nat.le_refl _) _
  clear hv
  go_upto_block 0 with (fail)
  go_cut [7] (fun s wx => ∃ A' c', s = .slice A' (1 + n) c' ∧ wx.ownsRow w.heap.size 62 4 (.slice A' (1 + n) c') (1 + n) (actCells (keysTo (putC cc) bl keys n)) ∧ Below w.heap.size w wx)
  case first =>
    go_wp2_with fail
    go_loopw [7, 15] (fun s i wr => (∃ k : Nat, k ≤ n ∧ i = .int .i64 k ∧ ∃ A' c', s = .slice A' (1 + k) c' ∧ wr.ownsRow w.heap.size 62 4 (.slice A' (1 + k) c') (1 + k) (actCells (keysTo (putC cc) bl keys k))) ∧ Below w.heap.size w wr) (fun _ i _ => n - (intOf i).toNat)
    case atStart => exact ⟨⟨0, Nat.zero_le _, rfl, _, _, rfl, by rw [keysTo_zero]; exact HO.out⟩, HB.out⟩
    case round =>
      obtain ⟨⟨k, hk, rfl, A', c', rfl, ho⟩, hbel⟩ := hrel
      have HOr := Lib.hid ho
      have HL := Lib.hid hbel
      clear ho hbel HO HB
      have hzw := HL.out.size
      by_cases hlt : k < n
      · obtain ⟨x, b, off, hx, rfl, hbb, q0⟩ := KeysOk.key (HK.out.below HL.out (Nat.le_refl _)) hlt
        have HX := Lib.hid hx
        have hxs := HSZ.out x (List.mem_of_getElem? hx)
        obtain ⟨nl, hnl⟩ : ∃ nl, nl = [putC cc x] := ⟨_, rfl⟩
        have HNL := Lib.hid hnl
        clear hx hnl
        have hc1 : ¬ 9223372036854775807 < 3 + x.size := by omega
        have hc2 : ¬ 9223372036854775807 < 3 + x.size + 1 := by omega
        go_wp2_with fail
        refine (itoa_small (cc : Int) _ (by omega) (by omega)).mono ?_
        rintro e wk ⟨rfl, rfl⟩
        go_wp2_with (at_builtin; refine wpList_append_acts _ rfl _ _ rfl w.heap.size A' c' (1 + k) (keysTo (putC cc) bl keys k) nl rfl (HOr.out.alloc _) wr.heap.size 1 rfl (by rw [HNL.out]; rfl) (by rw [HNL.out]; exact blk_new wr _ _) (by omega) (by decide) (by simp; omega) ?_)
        intro A6 c6 w6 ho hg
        have HO6 := Lib.hid ho
        have HL6 := Lib.hid ((HL.out.alloc hzw _).grown hg (by simp; omega) (fun j hj => own_base HOr.out j hj))
        clear ho hg
        go_wp2_with fail
        go_roundw
        case rel =>
          refine ⟨⟨k + 1, by omega, by go_num, A6, c6, rfl, ?_⟩, HL6.out⟩
          rw [← keysTo_more (putC cc) HX.out, ← HNL.out]
          exact HO6.out
        case measure => simp [intOf]; omega
      · have HN : Hid (k = n) := by show _ = _; omega
        clear hk
        go_wp2_with fail
        go_meet
        have e := HN.out
        subst e
        exact ⟨A', c', rfl, HOr.out, HL.out⟩
  case rest =>
    obtain ⟨A1, c1, rfl, ho, hb⟩ := hcut
    have HO1 := Lib.hid ho
    have HB1 := Lib.hid hb
    obtain ⟨sa, hsa⟩ : ∃ sa, sa = stepC cc := ⟨_, rfl⟩
    have HSA := Lib.hid hsa
    obtain ⟨l1, hl1⟩ : ∃ l1, l1 = keysTo (putC cc) bl keys n := ⟨_, rfl⟩
    rw [← hl1] at HO1
    have HL1 := Lib.hid hl1
    clear ho hb HO HB hsa hl1
    go_wp2_with fail
    go_loopw [7, 32] (fun s i wr => (∃ k : Nat, k ≤ st ∧ i = .int .i64 k ∧ ∃ A' c', s = .slice A' (1 + n + k) c' ∧ wr.ownsRow w.heap.size 62 4 (.slice A' (1 + n + k) c') (1 + n + k) (actCells (timesTo sa l1 k))) ∧ Below w.heap.size w wr) (fun _ i _ => st - (intOf i).toNat)
    case atStart => exact ⟨⟨0, Nat.zero_le _, rfl, A1, c1, rfl, by rw [timesTo_zero]; exact HO1.out⟩, HB1.out⟩
    case round =>
      obtain ⟨⟨k, hk, rfl, A', c', rfl, ho⟩, hbel⟩ := hrel
      have HOr := Lib.hid ho
      have HL := Lib.hid hbel
      clear ho hbel
      have hzw := HL.out.size
      by_cases hlt : k < st
      · obtain ⟨nl, hnl⟩ : ∃ nl, nl = [sa] := ⟨_, rfl⟩
        have HNL := Lib.hid hnl
        clear hnl
        go_wp2_with (at_builtin; refine wpList_append_acts _ rfl _ _ rfl w.heap.size A' c' (1 + n + k) (timesTo sa l1 k) nl rfl (HOr.out.alloc _) wr.heap.size 1 rfl (by rw [HNL.out]; rfl) (by rw [HNL.out, HSA.out]; exact blk_new wr _ _) (by omega) (by decide) (by simp; omega) ?_)
        intro A6 c6 w6 ho hg
        have HO6 := Lib.hid ho
        have HL6 := Lib.hid ((HL.out.alloc hzw _).grown hg (by simp; omega) (fun j hj => own_base HOr.out j hj))
        clear ho hg
        go_wp2_with fail
        go_roundw
        case rel =>
          refine ⟨⟨k + 1, by omega, by go_num, A6, c6, rfl, ?_⟩, HL6.out⟩
          rw [← timesTo_more, ← HNL.out]
          exact HO6.out
        case measure => simp [intOf]; omega
      · have HN : Hid (k = st) := by show _ = _; omega
        have he : timesTo sa l1 st = deedA cc st keys := by
          rw [HSA.out, HL1.out, keysTo_all _ _ (by rw [HLEN.out]; omega), HBL.out]; rfl
        have HE := Lib.hid he
        clear he hk
        go_wp2_with fail
        go_ret
        have e := HN.out
        subst e
        have ho := HOr.out
        rw [HE.out] at ho
        exact ⟨A', c', rfl, ho, HL.out⟩
end Go.Proofs.YtniomgngiiiklabDoor
