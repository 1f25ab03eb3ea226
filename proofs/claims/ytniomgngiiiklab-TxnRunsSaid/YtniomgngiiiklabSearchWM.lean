/- The walks of strings.Compare and of the closures that compare a row's or a write's key; the order of keys that they show. -/
import Derived.Test.YtniomgngiiiklabPlainM
import Derived.Lib.Bytealg
import Derived.Lib.Walk
import Derived.Outline
import Derived.Test.YtniomgngiiiklabOwnsM
namespace Go.Proofs.Ytniomgngiiiklab
open Go.RowKit

/-- What strings.Compare says. -/
def cmpS (a b : ByteArray) : Int := Lib.compareBytes a.data.toList b.data.toList
theorem cmp_list : ∀ x y : List UInt8, (Lib.compareBytes x y < 0 ↔ Op.bytesLess x y = true) ∧ (Lib.compareBytes x y = 0 ↔ x = y)
  | [], [] => by simp [Lib.compareBytes, Op.bytesLess]
  | [], _ :: _ => by simp [Lib.compareBytes, Op.bytesLess]
  | _ :: _, [] => by simp [Lib.compareBytes, Op.bytesLess]
  | a :: x, b :: y => by
    obtain ⟨h1, h2⟩ := cmp_list x y
    unfold Lib.compareBytes
    by_cases hab : a < b
    · rw [if_pos hab, bytesLess_lt]
      refine ⟨⟨fun _ => decide_eq_true (List.cons_lt_cons_iff.2 (.inl hab)), fun _ => by omega⟩, ⟨fun h => by omega, fun h => ?_⟩⟩
      injection h with e _
      rw [e] at hab; exact absurd hab (UInt8.lt_irrefl b)
    · rw [if_neg hab]
      by_cases hba : b < a
      · rw [if_pos hba, bytesLess_lt]
        refine ⟨⟨fun h => by omega, fun h => ?_⟩, ⟨fun h => by omega, fun h => ?_⟩⟩
        · rcases List.cons_lt_cons_iff.1 (of_decide_eq_true h) with h | ⟨e, _⟩
          · exact absurd h hab
          · rw [e] at hba; exact absurd hba (UInt8.lt_irrefl b)
        · injection h with e _
          rw [e] at hba; exact absurd hba (UInt8.lt_irrefl b)
      · rw [if_neg hba]
        have e : a = b := UInt8.le_antisymm (UInt8.not_lt.1 hba) (UInt8.not_lt.1 hab)
        subst e
        rw [h1, h2, bytesLess_lt, bytesLess_lt]
        simp
theorem cmpS_lt {a b : ByteArray} : cmpS a b < 0 ↔ ltK a b = true := by
  unfold cmpS ltK
  rw [ByteArray.toList_eq, ByteArray.toList_eq]
  exact (cmp_list _ _).1
theorem cmpS_eq {a b : ByteArray} : cmpS a b = 0 ↔ a = b := by
  unfold cmpS
  rw [(cmp_list _ _).2]
  constructor
  · intro h; obtain ⟨x⟩ := a; obtain ⟨y⟩ := b
    have : x = y := Array.toList_inj.1 h
    rw [this]
  · rintro rfl; rfl

set_option maxHeartbeats 1000000 in
set_option maxRecDepth 100000 in
theorem cmpString_any (a b : ByteArray) (w : World) :
    Calls Try.prog 76 #[.string a, .string b] w fun e w' => e = .returned (.int .i64 (cmpS a b)) ∧ w = w' := by
  go_enter Try.func76, Try.ntmps76
  go_wp2
  rw [run_callFunc_extern Try.func91 (by kernel_rfl) (by kernel_rfl) (by kernel_rfl) (e := Extern.BytealgCompare.compare) (by kernel_rfl), Lib.run_compareString]
  simp only [Result.andThen]
  rw [Oper.upon_value]
  go_wp2
  go_ret
  exact ⟨rfl, rfl⟩
theorem compare_any (a b : ByteArray) (w : World) :
    Calls Try.prog 53 #[.string a, .string b] w fun e w' => e = .returned (.int .i64 (cmpS a b)) ∧ w = w' := by
  go_enter Try.func53, Try.ntmps53
  go_wp2_with fail
  refine (cmpString_any a b w).mono ?_
  rintro e w1 ⟨rfl, rfl⟩
  go_wp2
  go_ret
  exact ⟨rfl, rfl⟩

theorem cmpRow_any (r : MRow) (A : Option Addr) (n c : Nat) (key : ByteArray) (w : World) :
    Calls Try.prog 78 #[.agg #[.string r.key, .int .i64 r.ls, .string r.lp, .string r.value, .slice A n c], .string key] w
      fun e w' => e = .returned (.int .i64 (cmpS r.key key)) ∧ Below w.heap.size w w' := by
  go_enter Try.func78, Try.ntmps78
  go_wp2_with fail
  refine (compare_any r.key key _).mono ?_
  rintro e w1 ⟨rfl, rfl⟩
  go_wp2
  go_ret
  exact ⟨rfl, (Below.refl _ _).alloc (Nat.le_refl _) _⟩
theorem cmpGet_any (x : MWrite) (key : ByteArray) (w : World) :
    Calls Try.prog 52 #[.agg #[.string x.key, .string x.value], .string key] w
      fun e w' => e = .returned (.int .i64 (cmpS x.key key)) ∧ Below w.heap.size w w' := by
  go_enter Try.func52, Try.ntmps52
  go_wp2_with fail
  refine (compare_any x.key key _).mono ?_
  rintro e w1 ⟨rfl, rfl⟩
  go_wp2
  go_ret
  exact ⟨rfl, (Below.refl _ _).alloc (Nat.le_refl _) _⟩
theorem cmpPut_any (x : MWrite) (key : ByteArray) (w : World) :
    Calls Try.prog 56 #[.agg #[.string x.key, .string x.value], .string key] w
      fun e w' => e = .returned (.int .i64 (cmpS x.key key)) ∧ Below w.heap.size w w' := by
  go_enter Try.func56, Try.ntmps56
  go_wp2_with fail
  refine (compare_any x.key key _).mono ?_
  rintro e w1 ⟨rfl, rfl⟩
  go_wp2
  go_ret
  exact ⟨rfl, (Below.refl _ _).alloc (Nat.le_refl _) _⟩
end Go.Proofs.Ytniomgngiiiklab

/- The walks of slices.BinarySearchFunc at rows and at writes, and of txn.find. -/
namespace Go.Proofs.Ytniomgngiiiklab
open Go.RowKit

theorem cmpS_dec (a b : ByteArray) : (cmpS a b == 0) = decide (a = b) := by
  rw [Bool.eq_iff_iff]; simp [cmpS_eq]

set_option maxRecDepth 100000 in
set_option maxHeartbeats 2000000 in
theorem bsRows_any (l : List MRow) (key : ByteArray) (A : Option Addr) (n c : Nat) (w : World) (h : RowsOk w w.heap.size A n c l) (hs : SortedBy MRow.key l) :
    Calls Try.prog 77 #[.slice A n c, .string key, .func (.func 78) #[] #[]] w
      fun e w' => e = .returned (.tuple #[.int .i64 (bsI MRow.key l key), .bool (bsB MRow.key l key)]) ∧ Below w.heap.size w w' := by
  have hsm := h.small
  have hn := h.len
  have H := Lib.hid h
  have HS := Lib.hid hs
  clear h hs
  go_enter Try.func77, Try.ntmps77
  go_wp2_with fail
  go_loopw [9, 10] (fun i j wr => (∃ a b : Nat, a ≤ b ∧ b ≤ n ∧ i = .int .i64 a ∧ j = .int .i64 b ∧ Hid (∀ (k : Nat) x, l[k]? = some x → k < a → ltK x.key key = true) ∧ Hid (∀ (k : Nat) x, l[k]? = some x → b ≤ k → ltK x.key key = false)) ∧ Below w.heap.size w wr) (fun i j _ => (intOf j).toNat - (intOf i).toNat)
  case atStart => exact ⟨⟨0, n, Nat.zero_le _, Nat.le_refl _, rfl, rfl, (by intro k x _ hk; omega), (by intro k x hx hk; have := (List.getElem?_eq_some_iff.1 hx).1; omega)⟩, Below.refl _ _⟩
  case round =>
    obtain ⟨⟨a, b, hab, hbn, rfl, rfl, hlo, hhi⟩, hbel⟩ := hrel
    have HL := Lib.hid hbel
    clear hbel
    by_cases hlt : a < b
    · obtain ⟨m, hm⟩ : ∃ m : Nat, m = (a + b) / 2 := ⟨_, rfl⟩
      have hmi : ((a : Int) + (b : Int)) / 2 = (m : Int) := by omega
      have hma : a ≤ m := by omega
      have hmb : m < b := by omega
      clear hm
      obtain ⟨x, blk, off, A', n', c', hx, rfl, hbb, hok, g0, g1, g2, g3, g4⟩ := (H.out.below HL.out (Nat.le_refl _)).row (k := m) (by omega)
      have HX := Lib.hid hx
      clear hx hok
      cases hlt' : ltK x.key key
      · have hd : decide (cmpS x.key key < 0) = false := by rw [decide_eq_false_iff_not, cmpS_lt, hlt']; decide
        go_wp2_with fail
        refine (cmpRow_any x A' n' c' key wr).mono ?_
        rintro e w1 ⟨rfl, hb1⟩
        have HL1 := Lib.hid (HL.out.trans (hb1.mono HL.out.size))
        clear hb1
        go_wp2_with fail
        go_roundw
        case rel => exact ⟨⟨a, m, hma, by omega, rfl, rfl, hlo, high_more HS.out HX.out hlt'⟩, HL1.out⟩
        case measure => simp [intOf]; omega
      · have hd : decide (cmpS x.key key < 0) = true := by rw [decide_eq_true_eq, cmpS_lt, hlt']
        go_wp2_with fail
        refine (cmpRow_any x A' n' c' key wr).mono ?_
        rintro e w1 ⟨rfl, hb1⟩
        have HL1 := Lib.hid (HL.out.trans (hb1.mono HL.out.size))
        clear hb1
        go_wp2_with fail
        go_roundw
        case rel => exact ⟨⟨m + 1, b, by omega, hbn, by go_num, rfl, low_more HS.out HX.out hlt', hhi⟩, HL1.out⟩
        case measure => simp [intOf]; omega
    · obtain rfl : a = b := by omega
      have hbs : bsI MRow.key l key = a := bsI_of (by omega) (fun j x hx hj => hlo.out j x hx hj) (fun j x hx hj => hhi.out j x hx hj)
      have HBS := Lib.hid hbs
      clear hbs hlt
      by_cases han : a < n
      · obtain ⟨x, blk, off, A', n', c', hx, rfl, hbb, hok, g0, g1, g2, g3, g4⟩ := (H.out.below HL.out (Nat.le_refl _)).row (k := a) han
        have HB : Hid (bsB MRow.key l key = decide (x.key = key)) := by show _ = _; unfold bsB; rw [HBS.out, hx]
        clear hx hok
        have hd : decide ((a : Int) < (n : Int)) = true := by simpa using han
        go_wp2_with fail
        refine (cmpRow_any x A' n' c' key wr).mono ?_
        rintro e w1 ⟨rfl, hb1⟩
        have HL1 := Lib.hid (HL.out.trans (hb1.mono HL.out.size))
        clear hb1
        go_wp2_with fail
        go_ret2
        rw [HB.out, HBS.out]
        exact ⟨by rw [cmpS_dec]; rfl, HL1.out⟩
      · have HB : Hid (bsB MRow.key l key = false) := by show _ = _; unfold bsB; rw [HBS.out, List.getElem?_eq_none (by omega)]
        have hd : decide ((a : Int) < (n : Int)) = false := by simpa using han
        go_wp2_with fail
        go_ret2
        rw [HB.out, HBS.out]
        exact ⟨rfl, HL.out⟩
set_option maxRecDepth 100000 in
set_option maxHeartbeats 2000000 in
theorem bsWrites_any (f : FuncId) (hf : f = 52 ∨ f = 56) (l : List MWrite) (key : ByteArray) (A : Option Addr) (n c : Nat) (w : World) (h : WritesOk w w.heap.size A n c l) (hs : SortedBy MWrite.key l) :
    Calls Try.prog 51 #[.slice A n c, .string key, .func (.func f) #[] #[]] w
      fun e w' => e = .returned (.tuple #[.int .i64 (bsI MWrite.key l key), .bool (bsB MWrite.key l key)]) ∧ Below w.heap.size w w' := by
  have hsm := h.small
  have hn := h.at_.1
  have H := Lib.hid h
  have HS := Lib.hid hs
  clear h hs
  rcases hf with rfl | rfl
  all_goals
    go_enter Try.func51, Try.ntmps51
    go_wp2_with fail
    go_loopw [9, 10] (fun i j wr => (∃ a b : Nat, a ≤ b ∧ b ≤ n ∧ i = .int .i64 a ∧ j = .int .i64 b ∧ Hid (∀ (k : Nat) x, l[k]? = some x → k < a → ltK x.key key = true) ∧ Hid (∀ (k : Nat) x, l[k]? = some x → b ≤ k → ltK x.key key = false)) ∧ Below w.heap.size w wr) (fun i j _ => (intOf j).toNat - (intOf i).toNat)
    case atStart => exact ⟨⟨0, n, Nat.zero_le _, Nat.le_refl _, rfl, rfl, (by intro k x _ hk; omega), (by intro k x hx hk; have := (List.getElem?_eq_some_iff.1 hx).1; omega)⟩, Below.refl _ _⟩
    case round =>
      obtain ⟨⟨a, b, hab, hbn, rfl, rfl, hlo, hhi⟩, hbel⟩ := hrel
      have HL := Lib.hid hbel
      clear hbel
      by_cases hlt : a < b
      · obtain ⟨m, hm⟩ : ∃ m : Nat, m = (a + b) / 2 := ⟨_, rfl⟩
        have hmi : ((a : Int) + (b : Int)) / 2 = (m : Int) := by omega
        have hma : a ≤ m := by omega
        have hmb : m < b := by omega
        clear hm
        obtain ⟨x, blk, off, hx, rfl, hbb, g0, g1⟩ := (H.out.at_.below HL.out (Nat.le_refl _)).at_ (k := m) (by omega)
        have HX := Lib.hid hx
        clear hx
        cases hlt' : ltK x.key key
        · have hd : decide (cmpS x.key key < 0) = false := by rw [decide_eq_false_iff_not, cmpS_lt, hlt']; decide
          go_wp2_with fail
          first | refine (cmpGet_any x key wr).mono ?_ | refine (cmpPut_any x key wr).mono ?_
          rintro e w1 ⟨rfl, hb1⟩
          have HL1 := Lib.hid (HL.out.trans (hb1.mono HL.out.size))
          clear hb1
          go_wp2_with fail
          go_roundw
          case rel => exact ⟨⟨a, m, hma, by omega, rfl, rfl, hlo, high_more HS.out HX.out hlt'⟩, HL1.out⟩
          case measure => simp [intOf]; omega
        · have hd : decide (cmpS x.key key < 0) = true := by rw [decide_eq_true_eq, cmpS_lt, hlt']
          go_wp2_with fail
          first | refine (cmpGet_any x key wr).mono ?_ | refine (cmpPut_any x key wr).mono ?_
          rintro e w1 ⟨rfl, hb1⟩
          have HL1 := Lib.hid (HL.out.trans (hb1.mono HL.out.size))
          clear hb1
          go_wp2_with fail
          go_roundw
          case rel => exact ⟨⟨m + 1, b, by omega, hbn, by go_num, rfl, low_more HS.out HX.out hlt', hhi⟩, HL1.out⟩
          case measure => simp [intOf]; omega
      · obtain rfl : a = b := by omega
        have hbs : bsI MWrite.key l key = a := bsI_of (by omega) (fun j x hx hj => hlo.out j x hx hj) (fun j x hx hj => hhi.out j x hx hj)
        have HBS := Lib.hid hbs
        clear hbs hlt
        by_cases han : a < n
        · obtain ⟨x, blk, off, hx, rfl, hbb, g0, g1⟩ := (H.out.at_.below HL.out (Nat.le_refl _)).at_ (k := a) han
          have HB : Hid (bsB MWrite.key l key = decide (x.key = key)) := by show _ = _; unfold bsB; rw [HBS.out, hx]
          clear hx
          have hd : decide ((a : Int) < (n : Int)) = true := by simpa using han
          go_wp2_with fail
          first | refine (cmpGet_any x key wr).mono ?_ | refine (cmpPut_any x key wr).mono ?_
          rintro e w1 ⟨rfl, hb1⟩
          have HL1 := Lib.hid (HL.out.trans (hb1.mono HL.out.size))
          clear hb1
          go_wp2_with fail
          go_ret2
          rw [HB.out, HBS.out]
          exact ⟨by rw [cmpS_dec]; rfl, HL1.out⟩
        · have HB : Hid (bsB MWrite.key l key = false) := by show _ = _; unfold bsB; rw [HBS.out, List.getElem?_eq_none (by omega)]
          have hd : decide ((a : Int) < (n : Int)) = false := by simpa using han
          go_wp2_with fail
          go_ret2
          rw [HB.out, HBS.out]
          exact ⟨rfl, HL.out⟩

theorem find_rows_any (l : List MRow) (key : ByteArray) (A : Option Addr) (n c : Nat) (w : World) (h : RowsOk w w.heap.size A n c l) (hs : SortedBy MRow.key l) :
    Calls Try.prog 54 #[.slice A n c, .string key] w
      fun e w' => e = .returned (.tuple #[.int .i64 (bsI MRow.key l key), .bool (bsB MRow.key l key)]) ∧ Below w.heap.size w w' := by
  have H := Lib.hid (bsRows_any l key A n c w h hs)
  clear h hs
  go_enter Try.func54, Try.ntmps54
  go_wp2_with fail
  refine H.out.mono ?_
  rintro e w1 ⟨rfl, hb1⟩
  go_wp2
  go_ret2
  exact ⟨rfl, hb1⟩
end Go.Proofs.Ytniomgngiiiklab
