/- The walk of txn.Run. -/
import Derived.Test.YtniomgngiiiklabDoWM
import Derived.Test.YtniomgngiiiklabOwnsM
import Derived.Test.YtniomgngiiiklabPlainM
namespace Go.Proofs.Ytniomgngiiiklab
open Go.RowKit

theorem info_ans : (Try.prog.info? 41).map (fun i => (i.zero, i.size, i.bytes)) = some (some (.agg #[.int .i64 0, .bool false, .string ⟨#[]⟩, .int .i64 0, .int .i64 0]), 5, 48) := by kernel_rfl
/-- What Run hands back: answers, a world, an error number. -/
def RunRet (w : World) (p : List MAns × MWorld × Int) (e : Ending) (w' : World) : Prop :=
  ∃ A n c B m d hs B' m' d' hs', e = .returned (.tuple #[.slice A n c, .agg #[.slice B m d, .int .i64 p.2.1.clock, .slice B' m' d'], .int .i64 p.2.2]) ∧
    w'.ownsRow w.heap.size 41 5 (.slice A n c) n (ansList p.1) ∧ OwnRows w' w.heap.size B m d p.2.1.rows hs ∧ OwnClients w' w.heap.size B' m' d' p.2.1.clients hs' ∧ Below w.heap.size w w'
theorem runRet_bad {w w' : World} {n : Int} {l : List MAct} {c : Int} (h : runCode n l = c) (h0 : c ≠ 0) (hb : Below w.heap.size w w') :
    RunRet w (runAll n l) (.returned (.tuple #[.slice none 0 0, .agg #[.slice none 0 0, .int .i64 0, .slice none 0 0], .int .i64 c])) w' := by
  rw [runAll_bad h h0]
  exact ⟨none, 0, 0, none, 0, 0, [], none, 0, 0, [], rfl, World.ownsRow_nil _ _ _ _, OwnRows.nil _ _, OwnClients.nil _ _, hb⟩
theorem clients_made (n : Nat) (h1 : 1 ≤ n) (h5 : n ≤ 5) : (madeCells (Value.agg #[.int .i64 0, .int .i64 0, .int .i64 0, .slice none 0 0, .int .i64 0]).cells (n * 5)).toList = clientsCells (List.replicate n zeroClient) (List.replicate n (none, 0)) := by
  have hn : n = 1 ∨ n = 2 ∨ n = 3 ∨ n = 4 ∨ n = 5 := by omega
  rcases hn with rfl | rfl | rfl | rfl | rfl <;> (clear h1 h5; show _ = _; kernel_rfl)
theorem own_start {w : World} {base n c : Nat} {A : Option Addr} (h1 : 1 ≤ n) (h5 : n ≤ 5) (h : w.ownsRow base 58 5 (.slice A n c) n (madeCells (Value.agg #[.int .i64 0, .int .i64 0, .int .i64 0, .slice none 0 0, .int .i64 0]).cells (n * 5)).toList) :
    OwnClients w base A n c (startW n).clients (List.replicate n (none, 0)) := by
  rw [clients_made n h1 h5] at h
  refine ⟨by simp [startW], by simp, h, fun k x hd hx hh => ?_, fun i j g q hij hi hj hn => ?_⟩
  · have hx' : x = zeroClient := by
      unfold startW at hx; rw [List.getElem?_replicate] at hx
      split at hx
      · exact (Option.some.inj hx).symm
      · cases hx
    have hh' : hd = (none, 0) := by
      rw [List.getElem?_replicate] at hh
      split at hh
      · exact (Option.some.inj hh).symm
      · cases hh
    subst hx' hh'
    exact World.ownsRow_nil _ _ _ _
  · rw [List.getElem?_replicate] at hi
    split at hi
    · have := Option.some.inj hi
      subst this
      exact absurd rfl hn
    · cases hi
theorem run_take {n : Nat} {l : List MAct} {k : Nat} {a : MAct} (h : l[k]? = some a) : runM n (l.take (k + 1)) = runStep (runM n (l.take k)) a := by
  obtain ⟨hk, rfl⟩ := List.getElem?_eq_some_iff.1 h
  rw [List.take_succ_eq_append_getElem hk]
  unfold runM
  rw [List.foldl_append]
  rfl
theorem runStep_ok {p : List MAns × MWorld} {a : MAct} (h : (doM p.2 a).2.2 = 0) : runStep p a = (p.1 ++ [(doM p.2 a).2.1], (doM p.2 a).1) := if_pos h
theorem runStep_bad {p : List MAns × MWorld} {a : MAct} (h : (doM p.2 a).2.2 ≠ 0) : runStep p a = (p.1 ++ [{ zeroAns with code := (doM p.2 a).2.2 }], p.2) := if_neg h
theorem doM_code {w : MWorld} {a : MAct} : (doM w a).2.2 = doCode w a := by
  unfold doM
  by_cases h : doCode w a = 0
  · rw [if_pos h]; exact h.symm
  · rw [if_neg h]
/-- The answer to an act that is not done. -/
def failAns (c : Int) : MAns := { zeroAns with code := c }
theorem ansList_snoc {l : List MAns} {x : MAns} : ansList (l ++ [x]) = ansList l ++ x.cells := flat_snoc

set_option maxRecDepth 100000 in
set_option maxHeartbeats 8000000 in
theorem txnRun_any (n : Int) (l : List MAct) (A : Option Addr) (m c : Nat) (w : World) (h : ActsOk w w.heap.size A m l) (hm : m ≤ maxLen) :
    Calls Try.prog 14 #[.int .i64 n, .slice A m c] w (RunRet w (runAll n l)) := by
  unfold maxLen at hm
  obtain ⟨i0, hi0, hz0, hz1, hz2⟩ := info_parts info_ans
  obtain ⟨j0, hj0, hy0, hy1, hy2⟩ := info_parts info_client
  have HA := Lib.hid h
  have HM := Lib.hid h.len
  clear h
  by_cases hn : n < 1 ∨ 5 < n
  · have HC : Hid (runCode n l = 2) := by show _ = _; unfold runCode; rw [if_pos hn]
    rcases hn with hn | hn
    · have d1 : decide (n < 1) = true := decide_eq_true hn
      go_enter Try.func14, Try.ntmps14
      go_wp2_with fail
      refine bodyPost_ret (v := .tuple #[.slice none 0 0, .agg #[.slice none 0 0, .int .i64 0, .slice none 0 0], .int .i64 2]) (by simp [results, Try.results14, go_sem]) rfl ?_
      exact runRet_bad HC.out (by decide) ((Below.refl _ w).alloc (Nat.le_refl _) _)
    · have d1 : decide (n < 1) = false := decide_eq_false (by omega)
      have d2 : decide (5 < n) = true := decide_eq_true hn
      go_enter Try.func14, Try.ntmps14
      go_wp2_with fail
      refine bodyPost_ret (v := .tuple #[.slice none 0 0, .agg #[.slice none 0 0, .int .i64 0, .slice none 0 0], .int .i64 2]) (by simp [results, Try.results14, go_sem]) rfl ?_
      exact runRet_bad HC.out (by decide) ((Below.refl _ w).alloc (Nat.le_refl _) _)
  obtain ⟨N, rfl⟩ : ∃ N : Nat, n = N := ⟨n.toNat, by omega⟩
  have hN1 : 1 ≤ N := by omega
  have hN5 : N ≤ 5 := by omega
  have d1 : decide ((N : Int) < 1) = false := decide_eq_false (by omega)
  have d2 : decide (5 < (N : Int)) = false := decide_eq_false (by omega)
  by_cases hl : 400 < m
  · have HC : Hid (runCode N l = 1) := by show _ = _; unfold runCode; rw [if_neg hn, if_pos (by rw [HM.out]; exact hl)]
    have d3 : decide ((400 : Int) < (m : Int)) = true := decide_eq_true (by omega)
    clear hn
    go_enter Try.func14, Try.ntmps14
    go_wp2_with fail
    refine bodyPost_ret (v := .tuple #[.slice none 0 0, .agg #[.slice none 0 0, .int .i64 0, .slice none 0 0], .int .i64 1]) (by simp [results, Try.results14, go_sem]) rfl ?_
    exact runRet_bad HC.out (by decide) ((Below.refl _ w).alloc (Nat.le_refl _) _)
  have HRA : Hid (runAll N l = ((runM N l).1, (runM N l).2, 0)) := runAll_ok hN1 hN5 (by rw [HM.out]; omega)
  have d3 : decide ((400 : Int) < (m : Int)) = false := decide_eq_false (by omega)
  clear hn
  go_enter Try.func14, Try.ntmps14
  go_wp2_with (refine wpList_make_full _ rfl _ _ 34 rfl w.heap.size 58 j0 _ 5 Try.underlying34 hj0 hy0 hy1 .i64 .i64 N N N rfl rfl rfl rfl ?c1 ?c2 ?c3 ?_)
  case c1 => rw [hy2]; omega
  case c2 => unfold maxLen; omega
  case c3 => simp
  intro w1 hown hg1
  have HOC1 := Lib.hid (own_start hN1 hN5 hown)
  have HB1 := Lib.hid (blk_grown (blk_new w #[.slice none 0 0, .int .i64 0, .slice none 0 0] 36) hg1 (by simp))
  have HL1 := Lib.hid ((((Below.refl w.heap.size w).alloc (Nat.le_refl _) _)).grown hg1 (by simp) (fun j hj => by cases hj))
  clear hown hg1
  obtain ⟨gl, hgl⟩ : ∃ gl, gl = w.heap.size + 1 := ⟨_, rfl⟩
  rw [← hgl] at HOC1 ⊢
  clear hgl
  obtain ⟨g5, hg5⟩ : ∃ g5, g5 = w.heap.size := ⟨_, rfl⟩
  rw [← hg5] at HB1 ⊢
  have HG5 : Hid (g5 = w.heap.size) := hg5
  clear hg5
  obtain ⟨hc5, hf5⟩ := blk_read HB1.out
  have hz1 := HL1.out.size
  go_upto_region 6 with (fail)
  obtain ⟨v, hv⟩ : ∃ v, v = w1.alloc (.cells #[.slice none 0 0, .int .i64 0, .slice (some ⟨gl, 0, none⟩) N N] 36) := ⟨_, rfl⟩
  rw [← hv]
  obtain ⟨g7, hg7⟩ : ∃ g7, g7 = w1.heap.size := ⟨_, rfl⟩
  rw [← hg7]
  have HB7 : Hid (v.heap[g7]? = some (.cells #[.slice none 0 0, .int .i64 0, .slice (some ⟨gl, 0, none⟩) N N] 36 (0, 0))) := by show _ = _; rw [hv, hg7]; exact blk_new _ _ _
  have HB5 : Hid (v.heap[g5]? = some (.cells #[.slice none 0 0, .int .i64 0, .slice none 0 0] 36 (0, 0))) := by show _ = _; rw [hv]; exact blk_old HB1.out _
  have HOCv : Hid (OwnClients v w.heap.size (some ⟨gl, 0, none⟩) N N (startW N).clients (List.replicate N (none, 0))) := by
    show OwnClients _ _ _ _ _ _ _; rw [hv]; exact HOC1.out.below ((Below.refl w1.heap.size w1).alloc (Nat.le_refl _) _) (Nat.le_refl _)
  have HLv : Hid (Below w.heap.size w v) := by show Below _ _ _; rw [hv]; exact HL1.out.alloc hz1 _
  have HG57 : Hid (g5 < g7 ∧ w.heap.size ≤ g7) := by show _ ∧ _; exact ⟨by rw [hg7]; exact blk_lt HB1.out, by rw [hg7]; exact hz1⟩
  clear hv hg7 hz1 hc5 hf5 HB1 HOC1 HL1
  go_wp2_with fail
  go_loopw [8, 30] (fun out i wr => (∃ k : Nat, k ≤ m ∧ i = .int .i64 k ∧ ∃ R : List MAns × MWorld, R = runM N (l.take k) ∧ ∃ A1 c1 B1 n1 d1 hs B2 n2 d2 hs', out = .slice A1 k c1 ∧ wr.ownsRow w.heap.size 41 5 (.slice A1 k c1) k (ansList R.1) ∧
      OwnRows wr w.heap.size B1 n1 d1 R.2.rows hs ∧ OwnClients wr w.heap.size B2 n2 d2 R.2.clients hs' ∧ wr.heap[g7]? = some (.cells #[.slice B1 n1 d1, .int .i64 R.2.clock, .slice B2 n2 d2] 36 (0, 0)) ∧ WorldGood R.2) ∧
    Below w.heap.size w wr ∧ wr.heap[g5]? = some (.cells #[.slice none 0 0, .int .i64 0, .slice none 0 0] 36 (0, 0))) (fun _ i _ => m - (intOf i).toNat)
  case atStart => exact ⟨⟨0, Nat.zero_le _, rfl, ([], startW N), rfl, none, 0, none, 0, 0, [], _, N, N, _, rfl, World.ownsRow_nil _ _ _ _, OwnRows.nil _ _, HOCv.out, HB7.out, startW_good hN5⟩, HLv.out, HB5.out⟩
  case round =>
    clear HB7 HB5 HOCv HLv
    obtain ⟨⟨k, hk, rfl, R, hR, A1, c1, B1, n1, e1, hs, B2, n2, e2, hs', rfl, ho, hor, hoc, hb7, hgood⟩, hbel, hb5⟩ := hrel
    have HRR := Lib.hid hR
    have HO := Lib.hid ho
    have HOR := Lib.hid hor
    have HOC := Lib.hid hoc
    have HB7 := Lib.hid hb7
    have HGOOD := Lib.hid hgood
    have HL := Lib.hid hbel
    have HB5 := Lib.hid hb5
    clear hR ho hor hoc hb7 hgood hbel hb5
    obtain ⟨hc7, hf7⟩ := blk_read HB7.out
    obtain ⟨hc5, hf5⟩ := blk_read HB5.out
    have hzw := HL.out.size
    by_cases hlt : k < m
    · obtain ⟨a, b, off, ha, rfl, hbb, g0, g1, g2, g3⟩ := (HA.out.below HL.out (Nat.le_refl _)).act hlt
      have HAK := Lib.hid ha
      clear ha
      have hd1 : decide ((k : Int) < (m : Int)) = true := decide_eq_true (by omega)
      have hd2 : decide (k < m) = true := decide_eq_true hlt
      have hz7 := blk_lt HB7.out
      have hA7 := fun (o : Obj) (i : Nat) => (World.cell?_alloc_past (w := wr) o g7 i hz7).trans (hc7 i)
      go_wp2_with fail
      obtain ⟨va, hva⟩ : ∃ va, va = wr.alloc (.cells #[.int .i64 a.kind, .int .i64 a.c, .string a.key, .string a.value] 38) := ⟨_, rfl⟩
      rw [← hva]
      have HKa : Hid (Old wr va) := by show Old _ _; rw [hva]; exact old_alloc wr _
      have HBa : Hid (va.heap[wr.heap.size]? = some (.cells #[.int .i64 a.kind, .int .i64 a.c, .string a.key, .string a.value] 38 (0, 0))) := by show _ = _; rw [hva]; exact blk_new wr _ _
      have HLa : Hid (Below w.heap.size w va) := by show Below _ _ _; rw [hva]; exact HL.out.alloc hzw _
      have HORa : Hid (OwnRows va w.heap.size B1 n1 e1 R.2.rows hs) := HOR.out.typed fun g cs t _ hg _ => HKa.out.block g (blk_lt hg)
      have HOCa : Hid (OwnClients va w.heap.size B2 n2 e2 R.2.clients hs') := HOC.out.typed fun g cs t _ hg _ => HKa.out.block g (blk_lt hg)
      clear hva hA7 hz7 hc7 hf7 hc5 hf5 g0 g1 g2 g3
      refine (txnDo_any R.2 a.kind a.c a.key a.value B1 B2 n1 e1 n2 e2 va (HORa.out.ok HGOOD.out.sized.1) (HOCa.out.ok HGOOD.out.sized.2)).mono ?_
      rintro e w2 hdo
      generalize hpp : doM R.2 ⟨a.kind, a.c, a.key, a.value⟩ = p at hdo
      have HPP : Hid (doM R.2 a = p) := hpp
      clear hpp
      obtain ⟨A3, n3, e3, h3, A4, n4, e4, h4, rfl, hor, hoc, hb⟩ := hdo
      obtain ⟨M', o, cd⟩ := p
      dsimp only at hor hoc
      dsimp only
      have HK2 : Hid (Old wr w2) := HKa.out.trans (old_below hb (Nat.le_refl _))
      have HL2 := Lib.hid (HLa.out.trans (hb.mono HLa.out.size))
      have HOR2 := Lib.hid (hor.more HLa.out.size)
      have HOC2 := Lib.hid (hoc.more HLa.out.size)
      clear hor hoc hb HORa HOCa HBa HLa HKa
      go_upto_region 11 with (fail)
      obtain ⟨v2, hv2⟩ : ∃ v2, v2 = (w2.alloc (.cells #[.slice A3 n3 e3, .int .i64 M'.clock, .slice A4 n4 e4] 36)).alloc (.cells #[.int .i64 o.code, .bool o.is, .string o.value, .int .i64 o.phase, .int .i64 o.time] 41) := ⟨_, rfl⟩
      rw [← hv2]
      obtain ⟨hbv, hB11, hB12⟩ : Below w2.heap.size w2 v2 ∧ v2.heap[w2.heap.size]? = some (.cells #[.slice A3 n3 e3, .int .i64 M'.clock, .slice A4 n4 e4] 36 (0, 0)) ∧ v2.heap[w2.heap.size + 1]? = some (.cells #[.int .i64 o.code, .bool o.is, .string o.value, .int .i64 o.phase, .int .i64 o.time] 41 (0, 0)) := by rw [hv2]; exact blk_new2 w2
      clear hv2
      have HKv : Hid (Old wr v2) := HK2.out.trans (old_below hbv (Nat.le_refl _))
      have HLv2 := Lib.hid (HL2.out.trans (hbv.mono HL2.out.size))
      have HORv := Lib.hid (HOR2.out.below hbv (Nat.le_refl _))
      have HOCv := Lib.hid (HOC2.out.below hbv (Nat.le_refl _))
      have HB11 := Lib.hid hB11
      have HB12 := Lib.hid hB12
      have HOv := Lib.hid (own_at HO.out HKv.out.block)
      have HB7v := Lib.hid ((HKv.out.block _ (blk_lt HB7.out)).trans HB7.out)
      have HB5v := Lib.hid ((HKv.out.block _ (blk_lt HB5.out)).trans HB5.out)
      have HG7 : Hid (g7 ≠ w2.heap.size ∧ g7 ≠ w2.heap.size + 1) := by show _ ∧ _; have := blk_lt HB7.out; have := HK2.out.size; omega
      have HLEN : Hid ((ansList R.1).length = k * 5) := HO.out.1
      clear hbv hB11 hB12 HOR2 HOC2 HL2
      obtain ⟨hc11, hf11⟩ := blk_read HB11.out
      obtain ⟨hc12, hf12⟩ := blk_read HB12.out
      have hzv := HLv2.out.size
      have HRS : Hid (runM N (l.take (k + 1)) = runStep R a) := by show _ = _; rw [run_take HAK.out, HRR.out]
      by_cases hcd : cd = 0
      · have HST : Hid (runStep R a = (R.1 ++ [o], M')) := by show _ = _; rw [runStep_ok (by rw [HPP.out]; exact hcd), HPP.out]
        have HGN : Hid (WorldGood M') := by
          have h0 : doCode R.2 a = 0 := by rw [← doM_code, HPP.out]; exact hcd
          have := doM_good h0
          rw [HPP.out] at this
          exact this
        subst hcd
        obtain ⟨hc7, hf7⟩ := blk_read HB7v.out
        go_upto_region 14 with (fail)
        obtain ⟨v3, hv3⟩ : ∃ v3, v3 = ((v2.setCell ⟨g7, 0, none⟩ (.slice A3 n3 e3)).setCell ⟨g7, 1, none⟩ (.int .i64 M'.clock)).setCell ⟨g7, 2, none⟩ (.slice A4 n4 e4) := ⟨_, rfl⟩
        rw [← hv3]
        have HK3 : Hid (Keeps [36] w.heap.size v2 v3) := by show Keeps _ _ _ _; rw [hv3]; exact Keeps.set3 HB7v.out (by simp) HG57.out.2 _ _ _ _ _ _
        have HB73 : Hid (v3.heap[g7]? = some (.cells #[.slice A3 n3 e3, .int .i64 M'.clock, .slice A4 n4 e4] 36 (0, 0))) := by show _ = _; rw [hv3]; exact blk_row3 HB7v.out _ _ _
        have HB53 : Hid (v3.heap[g5]? = some (.cells #[.slice none 0 0, .int .i64 0, .slice none 0 0] 36 (0, 0))) := by show _ = _; rw [hv3]; exact blk_row3_far HB5v.out (by have := HG57.out.1; omega) _ _ _
        have HB123 := Lib.hid (HK3.out.blk HB12.out (by decide))
        have HO3 := Lib.hid (HK3.out.own HOv.out (by decide))
        have HOR3 := Lib.hid (HK3.out.rows HORv.out (by decide) (by decide))
        have HOC3 := Lib.hid (HK3.out.clients HOCv.out (by decide) (by decide))
        have HL3 := Lib.hid (HLv2.out.trans HK3.out.below)
        clear hv3 hc11 hf11 hc12 hf12 hc7 hf7
        obtain ⟨hc12, hf12⟩ := blk_read HB123.out
        have hz3 := HL3.out.size
        go_wp2_with (at_builtin; refine wpList_append_own _ rfl _ _ 47 rfl w.heap.size 41 i0 _ 5 48 Try.underlying47 hi0 hz0 hz1 hz2 rfl (by decide) (.slice A1 k c1) k (ansList R.1) rfl (HO3.out.alloc _) ⟨v3.heap.size, 0, none⟩ 1 1 o.cells rfl rfl ?c1 ?c2 ?c3 ?c4 ?c5 ?_)
        case c1 => exact news5 (by exact blk_new _ _ _)
        case c2 => exact ans_one
        case c3 => unfold maxLen; omega
        case c4 => omega
        case c5 => simp; omega
        intro v' w4 hown4 hg4 _
        obtain ⟨A5, c5, hv⟩ := own_slice hown4
        rw [hv] at hown4 ⊢
        have hkw : ∀ (g : Nat) (cs : Array Value) (t : TypeId), v3.heap[g]? = some (.cells cs t (0, 0)) → t ≠ 41 → w4.heap[g]? = v3.heap[g]? := fun g cs t hgg ht =>
          (hg4.block g (by have := blk_lt hgg; simp; omega) (own_ne HO3.out hgg (fun e => ht e.symm))).trans (Below.heap_alloc _ _ g (blk_lt hgg))
        have HO4 := Lib.hid hown4
        have HL4 := Lib.hid ((HL3.out.alloc hz3 _).grown hg4 (by simp; omega) (fun j hj => own_base HO3.out j hj))
        have HOR4 := Lib.hid (HOR3.out.typed (w' := w4) fun g cs t _ hgg ht => hkw g cs t hgg (by rcases ht with rfl | rfl <;> decide))
        have HOC4 := Lib.hid (HOC3.out.typed (w' := w4) fun g cs t _ hgg ht => hkw g cs t hgg (by rcases ht with rfl | rfl <;> decide))
        have HB74 := Lib.hid ((hkw _ _ _ HB73.out (by decide)).trans HB73.out)
        have HB54 := Lib.hid ((hkw _ _ _ HB53.out (by decide)).trans HB53.out)
        clear hv hown4 hg4 hkw hc12 hf12
        go_wp2_with fail
        go_roundw
        case rel =>
          refine ⟨⟨k + 1, by omega, by go_num, (R.1 ++ [o], M'), ?_, A5, c5, A3, n3, e3, h3, A4, n4, e4, h4, rfl, ?_, HOR4.out, HOC4.out, HB74.out, HGN.out⟩, HL4.out, HB54.out⟩
          · rw [HRS.out, HST.out]
          · dsimp only; rw [ansList_snoc]; exact HO4.out
        case measure => simp [intOf]; omega
      · have HST : Hid (runStep R a = (R.1 ++ [{ zeroAns with code := cd }], R.2)) := by show _ = _; rw [runStep_bad (by rw [HPP.out]; exact hcd), HPP.out]
        have hd3 : (cd != 0) = true := by simpa using hcd
        have HORr : Hid (OwnRows v2 w.heap.size B1 n1 e1 R.2.rows hs) := HOR.out.typed fun g cs t _ hg _ => HKv.out.block g (blk_lt hg)
        have HOCr : Hid (OwnClients v2 w.heap.size B2 n2 e2 R.2.clients hs') := HOC.out.typed fun g cs t _ hg _ => HKv.out.block g (blk_lt hg)
        clear hcd
        go_wp2_with (at_builtin; refine wpList_append_own _ rfl _ _ 47 rfl w.heap.size 41 i0 _ 5 48 Try.underlying47 hi0 hz0 hz1 hz2 rfl (by decide) (.slice A1 k c1) k (ansList R.1) rfl (HOv.out.alloc _) ⟨v2.heap.size, 0, none⟩ 1 1 (failAns cd).cells rfl rfl ?k1 ?k2 ?k3 ?k4 ?k5 ?_)
        case k1 => exact fun j u h => h
        case k2 => exact ans_one
        case k3 => unfold maxLen; omega
        case k4 => omega
        case k5 => omega
        intro v' w4 hown4 hg4 _
        obtain ⟨A5, c5, hv⟩ := own_slice hown4
        rw [hv] at hown4 ⊢
        have hkw : ∀ (g : Nat) (cs : Array Value) (t : TypeId), v2.heap[g]? = some (.cells cs t (0, 0)) → t ≠ 41 → w4.heap[g]? = v2.heap[g]? := fun g cs t hgg ht =>
          (hg4.block g (by have := blk_lt hgg; simp; omega) (own_ne HOv.out hgg (fun e => ht e.symm))).trans (Below.heap_alloc _ _ g (blk_lt hgg))
        have HO4 := Lib.hid hown4
        have HL4 := Lib.hid ((HLv2.out.alloc hzv _).grown hg4 (by simp; omega) (fun j hj => own_base HOv.out j hj))
        have HOR4 := Lib.hid (HORr.out.typed (w' := w4) fun g cs t _ hgg ht => hkw g cs t hgg (by rcases ht with rfl | rfl <;> decide))
        have HOC4 := Lib.hid (HOCr.out.typed (w' := w4) fun g cs t _ hgg ht => hkw g cs t hgg (by rcases ht with rfl | rfl <;> decide))
        have HB74 := Lib.hid ((hkw _ _ _ HB7v.out (by decide)).trans HB7v.out)
        have HB54 := Lib.hid ((hkw _ _ _ HB5v.out (by decide)).trans HB5v.out)
        clear hv hown4 hg4 hkw hc11 hf11 hc12 hf12
        go_wp2_with fail
        go_roundw
        case rel =>
          refine ⟨⟨k + 1, by omega, by go_num, (R.1 ++ [{ zeroAns with code := cd }], R.2), ?_, A5, c5, B1, n1, e1, hs, B2, n2, e2, hs', rfl, ?_, HOR4.out, HOC4.out, HB74.out, HGOOD.out⟩, HL4.out, HB54.out⟩
          · rw [HRS.out, HST.out]
          · dsimp only; rw [ansList_snoc]; exact HO4.out
        case measure => simp [intOf]; omega
    · have hkm : l.take k = l := List.take_of_length_le (by rw [HM.out]; omega)
      have HRR' : Hid (R = runM N l) := by show _ = _; rw [HRR.out, hkm]
      have hd1 : decide ((k : Int) < (m : Int)) = false := decide_eq_false (by omega)
      have hd2 : decide (k < m) = false := decide_eq_false hlt
      have n1' : ¬ (g5 = g7) := by have := HG57.out.1; omega
      have n2' : ¬ (g7 = g5) := by have := HG57.out.1; omega
      clear hkm
      go_upto_region 16 with (fail)
      go_cut [4, 6] (fun a b wx => a = .slice A1 k c1 ∧ b = .int .i64 0 ∧ wx.heap[g5]? = some (.cells #[.slice B1 n1 e1, .int .i64 R.2.clock, .slice B2 n2 e2] 36 (0, 0)) ∧ Keeps [36] w.heap.size wr wx)
      case first =>
        go_region
        all_goals
          go_wp2_with fail
          go_meet
          exact ⟨rfl, rfl, blk_row3 HB5.out _ _ _, (Keeps.set3 (ts := [36]) HB5.out (by simp) (by rw [HG5.out]; exact Nat.le_refl _) _ _ _ _ _ _).drew⟩
      case rest =>
        obtain ⟨rfl, rfl, hb5, hk3⟩ := hcut
        have HO3 := Lib.hid (hk3.own HO.out (by decide))
        have HOR3 := Lib.hid (hk3.rows HOR.out (by decide) (by decide))
        have HOC3 := Lib.hid (hk3.clients HOC.out (by decide) (by decide))
        have HL3 := Lib.hid (HL.out.trans hk3.below)
        clear hk3 hc7 hf7 hc5 hf5
        obtain ⟨hc5, hf5⟩ := blk_read hb5
        clear hb5
        go_wp2_with fail
        refine bodyPost_ret (v := .tuple #[.slice A1 k c1, .agg #[.slice B1 n1 e1, .int .i64 R.2.clock, .slice B2 n2 e2], .int .i64 0]) (by simp [results, Try.results14, go_sem, hc5]) rfl ?_
        rw [HRA.out, ← HRR'.out]
        exact ⟨A1, k, c1, B1, n1, e1, hs, B2, n2, e2, hs', rfl, HO3.out, HOR3.out, HOC3.out, HL3.out⟩
end Go.Proofs.Ytniomgngiiiklab
