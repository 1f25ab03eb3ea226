/- The walk of the reference's recordOf. -/
import Derived.Test.YtniomgngiiiklaaFind
import Derived.Test.YtniomgngiiiklaaRefKey
import Derived.Test.YtniomgngiiiklaaCopy
import Derived.Test.YtniomgngiiiklaaRep
namespace Go.Proofs.Ytniomgngiiiklaa
open Go.RowKit

def recVal (o : Option MRec) : Value := match o with | some x => x.val | none => MRec.zero.val

set_option maxHeartbeats 1000000 in
theorem recOf_any (r : MRow) (st : Int) (A : Option Addr) (n c : Nat) (w : World) (h : RecsAt w w.heap.size A n r.recs) (hm : n ≤ maxLen) :
    Calls Try.prog 40 #[.agg #[.string r.key, .int .i64 r.ls, .string r.lp, .string r.value, .slice A n c], .int .i64 st] w
      fun e w' => e = .returned (.tuple #[recVal (recFind r.recs st), .bool (recFind r.recs st).isSome]) ∧ Below w.heap.size w w' := by
  unfold maxLen at hm
  have H := Lib.hid h
  have Hn := Lib.hid h.1
  clear h
  go_enter Try.func40, Try.ntmps40
  go_wp2_with fail
  go_loopw [6] (fun i wr => (∃ k : Nat, k ≤ n ∧ i = .int .i64 k ∧ ∀ (j : Nat) (y : MRec), j < k → r.recs[j]? = some y → (y.start == st) = false) ∧ Below w.heap.size w wr ∧ wr.heap[w.heap.size]? = some (.cells #[.string r.key, .int .i64 r.ls, .string r.lp, .string r.value, .slice A n c] 30 (0, 0)) ∧ wr.heap[w.heap.size + 1]? = some (.cells #[.int .i64 0, .int .i64 0, .string ⟨#[]⟩] 56 (0, 0))) (fun i _ => n - (intOf i).toNat)
  case atStart => exact ⟨⟨0, Nat.zero_le _, rfl, by intro j y h; omega⟩, ((Below.refl _ _).alloc (Nat.le_refl _) _).alloc (by simp) _, blk_old (blk_new w _ _) _, by simpa using blk_new (w.alloc _) _ _⟩
  case round =>
    obtain ⟨⟨k, hk, rfl, hb⟩, hbel, hblk, hblk1⟩ := hrel
    have HT := Lib.hid hb
    have HL := Lib.hid hbel
    have HB := Lib.hid hblk
    have HB1 := Lib.hid hblk1
    clear hb hbel hblk hblk1
    obtain ⟨hc0, hf0⟩ := blk_read HB.out
    obtain ⟨hc1, hf1⟩ := blk_read HB1.out
    have hz := blk_lt HB1.out
    by_cases hlt : k < n
    · obtain ⟨x, b, off, hx, rfl, hbb, g0, g1, g2⟩ := (H.out.below HL.out (Nat.le_refl _)).at_ hlt
      have HX := Lib.hid hx
      have hbz : b < wr.heap.size := by have := HL.out.size; omega
      clear hx
      cases he : (x.start == st)
      · go_wp2_with fail
        go_roundw
        case rel => exact ⟨⟨k + 1, by omega, by go_num, none_snoc (p := fun y : MRec => y.start == st) HX.out he HT.out⟩, HL.out, HB.out, HB1.out⟩
        case measure => simp [intOf]; omega
      · have hst : x.start = st := by simpa using he
        have HF := Lib.hid (recFind_hit HX.out hst HT.out)
        clear hst
        go_wp2_with fail
        refine bodyPost_ret (v := .tuple #[.agg #[.int .i64 x.start, .int .i64 x.commit, .string x.value], .bool true]) (by simp [results, Try.results40, go_sem, hc1]) rfl ⟨?_, ?_⟩
        · rw [HF.out]; rfl
        · have hb0 := HL.out
          repeat (refine Below.setCell ?_ (by first | (simp; done) | (simp; omega)) _)
          exact hb0
    · have HF := Lib.hid (recFind_miss (none_all (p := fun y : MRec => y.start == st) (k := k) (by have := Hn.out; omega) HT.out))
      go_wp2_with fail
      refine bodyPost_ret (v := .tuple #[.agg #[.int .i64 0, .int .i64 0, .string ⟨#[]⟩], .bool false]) (by simp [results, Try.results40, go_sem, hc1]) rfl ⟨?_, ?_⟩
      · rw [HF.out]; rfl
      · have hb0 := HL.out
        repeat (refine Below.setCell ?_ (by first | (simp; done) | (simp; omega)) _)
        exact hb0
end Go.Proofs.Ytniomgngiiiklaa
