/- The walk of row.Read. -/
import Derived.Test.YtniomgngiiiklabCheckM
import Derived.Test.YtniomgngiiiklabRows1M
import Derived.Test.YtniomgngiiiklabGroundM
namespace Go.Proofs.Ytniomgngiiiklab
open Go.RowKit Go.Shelf
attribute [local go_sem] Oper.semAt_some

/-- What was committed up to a time, the last one first. -/
def hitB (t : Int) (x : MRec) : Bool := !decide (x.commit = 0) && decide (x.commit ≤ t)
def lastHit (rs : List MRec) (t : Int) : Option MRec := rs.reverse.find? (hitB t)
def hitRes (o : Option MRec) : ByteArray × Bool × Int := match o with | some x => (x.value, true, 0) | none => (⟨#[]⟩, false, 0)
/-- What row.Read answers. -/
def readF (r : MRow) (t : Int) : ByteArray × Bool × Int :=
  if rowB r then (if timeB t then (if r.ls ≠ 0 ∧ r.ls ≤ t then (⟨#[]⟩, false, 7) else hitRes (lastHit r.recs t)) else (⟨#[]⟩, false, 2)) else (⟨#[]⟩, false, 6)
def readVal (x : ByteArray × Bool × Int) : Value := .tuple #[.string x.1, .bool x.2.1, .int .i64 x.2.2]

set_option maxHeartbeats 1000000 in
set_option maxRecDepth 100000 in
theorem read_bad (r : MRow) (t : Int) (A : Option Addr) (n c : Nat) (w : World) (h : RecsAt w w.heap.size A n r.recs) (hm : n ≤ maxLen) (hbad : rowB r = false ∨ timeB t = false ∨ (r.ls ≠ 0 ∧ r.ls ≤ t)) :
    Calls Try.prog 55 #[.agg #[.string r.key, .int .i64 r.ls, .string r.lp, .string r.value, .slice A n c], .int .i64 t] w
      fun e w' => e = .returned (readVal (readF r t)) ∧ Below w.heap.size w w' := by
  have H := Lib.hid h
  have Hm := Lib.hid hm
  have Hb := Lib.hid hbad
  clear h hbad hm
  go_enter Try.func55, Try.ntmps55
  go_wp2_with fail
  have hb0 := ((((((Below.refl w.heap.size w).alloc (Nat.le_refl _) (.cells #[.string r.key, .int .i64 r.ls, .string r.lp, .string r.value, .slice A n c] 26)).alloc (by simp) (.cells #[.int .i64 t] 3)).alloc (by simp; omega) (.cells #[.string ⟨#[]⟩] 9)).alloc (by simp; omega) (.cells #[.bool false] 4)).alloc (by simp; omega) (.cells #[.int .i64 0] 28))
  refine (check_any r A n c _ ((H.out.below hb0 (Nat.le_refl _)).more (by simp; omega)) Hm.out).mono ?_
  rintro e w1 ⟨rfl, hb⟩
  have HL := Lib.hid (hb0.trans (hb.mono (by simp; omega)))
  have HB0 := Lib.hid (blk_keep hb (g := w.heap.size) (blk_old (blk_old (blk_old (blk_old (blk_new w _ _) _) _) _) _) (by simp; omega))
  have HB1 := Lib.hid (blk_keep hb (g := w.heap.size + 1) (blk_old (blk_old (blk_old (by simpa using blk_new (w.alloc _) _ _) _) _) _) (by first | (simp; done) | (simp; omega)))
  have HB2 := Lib.hid (blk_keep hb (g := w.heap.size + 1 + 1) (blk_old (blk_old (by simpa using blk_new ((w.alloc _).alloc _) _ _) _) _) (by first | (simp; done) | (simp; omega)))
  have HB3 := Lib.hid (blk_keep hb (g := w.heap.size + 1 + 1 + 1) (blk_old (by simpa using blk_new (((w.alloc _).alloc _).alloc _) _ _) _) (by first | (simp; done) | (simp; omega)))
  have HB4 := Lib.hid (blk_keep hb (g := w.heap.size + 1 + 1 + 1 + 1) (by simpa using blk_new ((((w.alloc _).alloc _).alloc _).alloc _) _ _) (by simp))
  obtain ⟨hc0, hf0⟩ := blk_read HB0.out
  obtain ⟨hc1, hf1⟩ := blk_read HB1.out
  obtain ⟨hc2, hf2⟩ := blk_read HB2.out
  obtain ⟨hc3, hf3⟩ := blk_read HB3.out
  obtain ⟨hc4, hf4⟩ := blk_read HB4.out
  clear hb hb0
  cases hr : rowB r <;> simp only [okCode, if_true, if_false, Bool.false_eq_true]
  · go_wp2_with fail
    refine bodyPost_ret (v := .tuple #[.string ⟨#[]⟩, .bool false, .int .i64 6]) (by simp [results, Try.results55, go_sem, hc2, hc3, hc4]) rfl ⟨?_, ?_⟩
    · simp [readVal, readF, hr]
    · have hb0 := HL.out
      repeat (refine Below.setCell ?_ (by first | (simp; done) | (simp; omega)) _)
      exact hb0
  cases ht : timeB t
  · go_wp2_with fail
    refine (time_any _ _).mono ?_
    rintro e w2 ⟨rfl, rfl⟩
    go_wp2_with fail
    refine bodyPost_ret (v := .tuple #[.string ⟨#[]⟩, .bool false, .int .i64 2]) (by simp [results, Try.results55, go_sem, hc2, hc3, hc4]) rfl ⟨?_, ?_⟩
    · simp [readVal, readF, hr, ht]
    · have hb0 := HL.out
      repeat (refine Below.setCell ?_ (by first | (simp; done) | (simp; omega)) _)
      exact hb0
  obtain ⟨hl, hle⟩ : r.ls ≠ 0 ∧ r.ls ≤ t := by
    rcases Hb.out with h | h | h
    · rw [hr] at h; cases h
    · rw [ht] at h; cases h
    · exact h
  have e0 : (r.ls != 0) = true := by simpa using hl
  have HF : Hid (readF r t = (⟨#[]⟩, false, 7)) := by show _ = _; simp [readF, hr, ht, hl, hle]
  clear hl
  go_wp2_with fail
  refine (time_any _ _).mono ?_
  rintro e w2 ⟨rfl, rfl⟩
  go_wp2_with fail
  refine bodyPost_ret (v := .tuple #[.string ⟨#[]⟩, .bool false, .int .i64 7]) (by simp [results, Try.results55, go_sem, hc2, hc3, hc4]) rfl ⟨?_, ?_⟩
  · rw [HF.out]; rfl
  · have hb0 := HL.out
    repeat (refine Below.setCell ?_ (by first | (simp; done) | (simp; omega)) _)
    exact hb0

theorem lastHit_none {rs : List MRec} {t : Int} {n : Nat} (h : ∀ p ∈ came rs n, hitB t p.2 = false) (hn : rs.length = n) : lastHit rs t = none := by
  unfold lastHit
  rw [List.find?_eq_none]
  intro x hx e
  rw [List.mem_reverse] at hx
  obtain ⟨j, hj, rfl⟩ := List.mem_iff_getElem.1 hx
  have hm : (((rs.length - 1 - (rs.length - 1 - j) : Nat) : Int), (rs[rs.length - 1 - (rs.length - 1 - j)]?).getD MRec.zero) ∈ came rs n := by
    unfold came
    exact List.mem_map.2 ⟨rs.length - 1 - j, List.mem_range.2 (by omega), rfl⟩
  have := h _ hm
  rw [show rs.length - 1 - (rs.length - 1 - j) = j from by omega, List.getElem?_eq_getElem hj] at this
  rw [show hitB t rs[j] = false from this] at e
  cases e

theorem lastHit_some {rs : List MRec} {t : Int} {n k : Nat} {ini : List (Int × MRec)} {last : Int × MRec} (h : came rs k = ini ++ [last]) (hi : ∀ p ∈ ini, hitB t p.2 = false) (hl : hitB t last.2 = true) (hk : k ≤ n) (hn : rs.length = n) : lastHit rs t = some last.2 := by
  match k, h with
  | 0, h => simp [came] at h
  | k + 1, h =>
    rw [came_succ] at h
    obtain ⟨rfl, e⟩ := List.append_inj' h rfl
    have hj : rs.length - 1 - k < rs.length := by omega
    rw [List.getElem?_eq_getElem hj] at e
    have e' : last = (((rs.length - 1 - k : Nat) : Int), rs[rs.length - 1 - k]) := by simpa using e.symm
    subst e'
    unfold lastHit
    rw [List.find?_eq_some_iff_getElem]
    have hk' : k < rs.reverse.length := by rw [List.length_reverse]; omega
    refine ⟨hl, k, hk', by rw [List.getElem_reverse], fun j hjk => ?_⟩
    have hm : (((rs.length - 1 - j : Nat) : Int), (rs[rs.length - 1 - j]?).getD MRec.zero) ∈ came rs k := List.mem_map.2 ⟨j, List.mem_range.2 hjk, rfl⟩
    have := hi _ hm
    rw [List.getElem?_eq_getElem (by omega)] at this
    rw [List.getElem_reverse]
    rw [show hitB t rs[rs.length - 1 - j] = false from this]
    rfl

set_option maxHeartbeats 2000000 in
set_option maxRecDepth 100000 in
theorem read_good (r : MRow) (t : Int) (A : Option Addr) (n c : Nat) (w : World) (h : RecsAt w w.heap.size A n r.recs) (hsm : n * 32 ≤ 140737488351232) (hr : rowB r = true) (ht : timeB t = true) (hok : ¬ (r.ls ≠ 0 ∧ r.ls ≤ t)) :
    Calls Try.prog 55 #[.agg #[.string r.key, .int .i64 r.ls, .string r.lp, .string r.value, .slice A n c], .int .i64 t] w
      fun e w' => e = .returned (readVal (readF r t)) ∧ Below w.heap.size w w' := by
  have H := Lib.hid h
  have Hok := Lib.hid hok
  have hm : n ≤ maxLen := by unfold maxLen; omega
  have Hm := Lib.hid hm
  clear h hok hm
  have hro : Fence.wide.round = none := rfl
  refine (callsIn_wide (n := 4)).1 ?_
  refine callsIn_of_wp_marks Try.func55 rfl trivial ?_ rfl
  simp only [Try.ntmps55, List.size_toArray, List.length_cons, List.length_nil, Nat.reduceAdd, Nat.reduceSub, Array.replicate_succ, Array.replicate_zero, List.push_toArray, List.append_toArray, List.nil_append, List.cons_append]
  have hb0 := ((((((Below.refl w.heap.size w).alloc (Nat.le_refl _) (.cells #[.string r.key, .int .i64 r.ls, .string r.lp, .string r.value, .slice A n c] 26)).alloc (by simp) (.cells #[.int .i64 t] 3)).alloc (by simp; omega) (.cells #[.string ⟨#[]⟩] 9)).alloc (by simp; omega) (.cells #[.bool false] 4)).alloc (by simp; omega) (.cells #[.int .i64 0] 28))
  have HB0' := Lib.hid hb0
  clear hb0
  gi_wp2_with fail
  have hb0 := HB0'.out
  refine ⟨trivial, (callsIn_wide.2 (check_any r A n c _ ((H.out.below hb0 (Nat.le_refl _)).more (by simp; omega)) Hm.out)).mono ?_⟩
  rintro e w1 ⟨rfl, hb⟩
  have HL := Lib.hid (hb0.trans (hb.mono (by simp; omega)))
  have HB0 := Lib.hid (blk_keep hb (g := w.heap.size) (blk_old (blk_old (blk_old (blk_old (blk_new w _ _) _) _) _) _) (by simp; omega))
  have HB1 := Lib.hid (blk_keep hb (g := w.heap.size + 1) (blk_old (blk_old (blk_old (by simpa using blk_new (w.alloc _) _ _) _) _) _) (by first | (simp; done) | (simp; omega)))
  have HB2 := Lib.hid (blk_keep hb (g := w.heap.size + 1 + 1) (blk_old (blk_old (by simpa using blk_new ((w.alloc _).alloc _) _ _) _) _) (by first | (simp; done) | (simp; omega)))
  have HB3 := Lib.hid (blk_keep hb (g := w.heap.size + 1 + 1 + 1) (blk_old (by simpa using blk_new (((w.alloc _).alloc _).alloc _) _ _) _) (by first | (simp; done) | (simp; omega)))
  have HB4 := Lib.hid (blk_keep hb (g := w.heap.size + 1 + 1 + 1 + 1) (by simpa using blk_new ((((w.alloc _).alloc _).alloc _).alloc _) _ _) (by simp))
  have hz := blk_lt HB4.out
  clear hb hb0 HB0'
  obtain ⟨hc0, hf0⟩ := blk_read HB0.out
  obtain ⟨hc1, hf1⟩ := blk_read HB1.out
  simp only [hr, okCode, if_true]
  gi_wp2_with fail
  refine ⟨trivial, (callsIn_wide.2 (time_any _ _)).mono ?_⟩
  rintro e w2 ⟨rfl, rfl⟩
  have HF : Hid (readF r t = hitRes (lastHit r.recs t)) := by show _ = _; simp only [readF, hr, ht, if_true]; rw [if_neg Hok.out]
  have hbusy : (r.ls != 0) = false ∨ ((r.ls != 0) = true ∧ decide (r.ls ≤ t) = false ∧ t < r.ls) := by
    have := Hok.out
    by_cases h0 : r.ls = 0
    · exact .inl (by simpa using h0)
    · have hlt : ¬ r.ls ≤ t := fun h => this ⟨h0, h⟩
      exact .inr ⟨by simpa using h0, decide_eq_false hlt, by omega⟩
  rcases hbusy with e0 | ⟨e0, e1, e2⟩
  · gi_wp2_with fail
    refine ⟨trivial, (back_in Fence.wide 3 trivial rfl _ _ _ _).mono ?_⟩
    rintro e w3 ⟨rfl, rfl⟩
    gi_wp2_with fail
    refine wpIn_rangeFunc_ownH (F := Fence.wide) rfl (by omega) (gf := 92) (lb := #[.pointer (some ⟨w1.heap.size, 0, none⟩)]) rfl trivial (enters_of Try.func92 (by kernel_rfl) rfl)
      (back_stops Fence.wide 3 trivial rfl (by omega) w1.heap.size w.heap.size A n c r.recs (by omega) H.out.1 (w1.alloc (.cells #[.slice A n c] 24)) (by have := HL.out.size; simp; omega) (blk_new w1 _ _) (H.out.below (HL.out.alloc HL.out.size _) (Nat.le_refl _)))
      kpAt_t (kpAt_b (by have := HL.out.size; simp; omega) (by simp)) (Below.refl _ _) (fun _ => rfl)
      (fun pre W => ((∀ p ∈ pre, hitB t p.2 = false) ∧ Boxed W (w.heap.size + 1) 3 (.int .i64 t) ∧ Boxed W (w.heap.size + 1 + 1) 9 (.string ⟨#[]⟩) ∧ Boxed W (w.heap.size + 1 + 1 + 1) 4 (.bool false) ∧ Boxed W (w.heap.size + 1 + 1 + 1 + 1) 28 (.int .i64 0)) ∧ w1.heap.size < W.heap.size ∧ Below w.heap.size w W)
      (fun c pre W => (c = .ret ∧ ∃ ini last, pre = ini ++ [last] ∧ (∀ p ∈ ini, hitB t p.2 = false) ∧ hitB t last.2 = true ∧ Boxed W (w.heap.size + 1 + 1) 9 (.string last.2.value) ∧ Boxed W (w.heap.size + 1 + 1 + 1) 4 (.bool true) ∧ Boxed W (w.heap.size + 1 + 1 + 1 + 1) 28 (.int .i64 0)) ∧ Below w.heap.size w W)
      (OwnFrom.and (fun s X Y row hs hg hr => ⟨hs.1, boxed_own _ _ (fun _ : Unit => _) () X Y row hs.2.1 hg (fun k e => (hr k e).2), boxed_own _ _ (fun _ : Unit => _) () X Y row hs.2.2.1 hg (fun k e => (hr k e).2), boxed_own _ _ (fun _ : Unit => _) () X Y row hs.2.2.2.1 hg (fun k e => (hr k e).2), boxed_own _ _ (fun _ : Unit => _) () X Y row hs.2.2.2.2 hg (fun k e => (hr k e).2)⟩)
        (OwnFrom.and (fun s X Y row hs hg hr => Nat.lt_of_lt_of_le hs hg.size) (ownFrom_below (Nat.le_refl _) (by have := HL.out.size; simp; omega))))
      (fun c => OwnFrom.and (fun s X Y row hs hg hr => by
          obtain ⟨q, ini, last, q1, q2, q3, q4, q5, q6⟩ := hs
          exact ⟨q, ini, last, q1, q2, q3, boxed_own _ _ (fun _ : Unit => _) () X Y row q4 hg (fun k e => (hr k e).2), boxed_own _ _ (fun _ : Unit => _) () X Y row q5 hg (fun k e => (hr k e).2), boxed_own _ _ (fun _ : Unit => _) () X Y row q6 hg (fun k e => (hr k e).2)⟩) (ownFrom_below (Nat.le_refl _) (by have := HL.out.size; simp; omega)))
      ⟨⟨by simp, blk_old HB1.out _, blk_old HB2.out _, blk_old HB3.out _, blk_old HB4.out _⟩, by simp, HL.out.alloc HL.out.size _⟩
      (fun x a' W => ∃ Bx, w1.heap.size < Bx ∧ W.heap[Bx]? = some (.cells #[.int .i64 x.2.start, .int .i64 x.2.commit, .string x.2.value] 55 (0, 0)) ∧ a' = { tmps := #[.agg #[.string r.key, .int .i64 r.ls, .string r.lp, .string r.value, .slice A n c], .int .i64 t, .pointer (some ⟨w.heap.size, 0, none⟩), .pointer (some ⟨w.heap.size + 1, 0, none⟩), .pointer (some ⟨w.heap.size + 1 + 1, 0, none⟩), .pointer (some ⟨w.heap.size + 1 + 1 + 1, 0, none⟩), .pointer (some ⟨w.heap.size + 1 + 1 + 1 + 1, 0, none⟩), .int .i64 0, undef, .pointer (some ⟨Bx, 0, none⟩), .agg #[.string r.key, .int .i64 r.ls, .string r.lp, .string r.value, .slice A n c], .int .i64 0, .int .i64 0, .bool false, undef, .int .i64 t, .bool true, .bool false, .pointer (some ⟨w.heap.size, 1, none⟩), .pointer (some ⟨w.heap.size, 1, none⟩), .int .i64 r.ls, .bool false, .bool false, undef, undef, undef, undef, undef, .bool false, .pointer (some ⟨w.heap.size, 4, none⟩), .slice A n c, .func (.func 92) #[] #[.pointer (some ⟨w1.heap.size, 0, none⟩)], .int .i64 x.1, .agg #[.int .i64 x.2.start, .int .i64 x.2.commit, .string x.2.value], undef, undef, undef, undef, undef, undef, undef, undef, undef, undef, undef], defers := [] })
      (fun x a' => fun s X Y row hs hg hr => by
        obtain ⟨Bx, q1, q2, q3⟩ := hs
        refine ⟨Bx, q1, (hg.block Bx (blk_lt q2) (fun e => ?_)).trans q2, q3⟩
        obtain ⟨_, o, ho, hoc⟩ := hr Bx e.symm
        rw [q2] at ho; cases ho; cases hoc) ?assign ?body ?done ?stop
    case assign =>
      rintro l pre x W K ⟨⟨p1, p2, p3, p4, p5⟩, p6, p7⟩ hK
      unfold recArgs
      gi_wp2
      exact hK _ _ ((KeepsOthers.alloc _ _).from _) ⟨(Below.refl _ W).alloc p7.size _, Below.heap_alloc W _ _ p6⟩ ⟨⟨p1, p2.alloc _, p3.alloc _, p4.alloc _, p5.alloc _⟩, by simp; omega, p7.alloc p7.size _⟩ ⟨W.heap.size, p6, blk_new W _ _, rfl⟩
    case body =>
      rintro l pre x a' W hl ⟨rr, hrr⟩ ⟨⟨p1, p2, p3, p4, p5⟩, p6, p7⟩ ⟨Bx, q1, q2, rfl⟩ _
      obtain ⟨hx0, _⟩ := blk_read q2
      have k1 := p2.cell
      obtain ⟨k3, k3f⟩ := blk_read p3
      obtain ⟨k4, k4f⟩ := blk_read p4
      obtain ⟨k5, k5f⟩ := blk_read p5
      by_cases h0 : x.2.commit = 0
      · have z0 : (x.2.commit != 0) = false := by simpa using h0
        have HN : Hid (hitB t x.2 = false) := by show _ = _; simp [hitB, h0]
        clear h0
        gi_wp2
        exact ⟨KeepsFrom.refl _ _, kpAt_refl _ _ _, ⟨fun p hp => (List.mem_append.1 hp).elim (p1 p) (fun e => by rw [List.mem_singleton] at e; subst e; exact HN.out), p2, p3, p4, p5⟩, p6, p7⟩
      · have z0 : (x.2.commit != 0) = true := by simpa using h0
        by_cases h1 : x.2.commit ≤ t
        · have HN : Hid (hitB t x.2 = true) := by show _ = _; simp [hitB, h0, h1]
          have z1 : decide (x.2.commit ≤ t) = true := decide_eq_true h1
          clear h0 h1
          gi_wp2
          refine ⟨?_, ⟨rfl, pre, x, rfl, p1, HN.out, ?_, ?_, ?_⟩, ?_⟩
          · exact (((KeepsOthers.setCell _ _ _).trans (KeepsOthers.setCell _ _ _)).trans (KeepsOthers.setCell _ _ _)).from _
          · exact ((p3.set _).other (by omega) _).other (by omega) _
          · exact ((p4.other (by omega) _).set _).other (by omega) _
          · exact ((p5.other (by omega) _).other (by omega) _).set _
          · exact ((p7.setCell (by simp; omega) _).setCell (by simp; omega) _).setCell (by simp; omega) _
        · have HN : Hid (hitB t x.2 = false) := by show _ = _; simp [hitB, h0, h1]
          have z1 : decide (x.2.commit ≤ t) = false := decide_eq_false h1
          clear h0 h1
          gi_wp2
          exact ⟨KeepsFrom.refl _ _, kpAt_refl _ _ _, ⟨fun p hp => (List.mem_append.1 hp).elim (p1 p) (fun e => by rw [List.mem_singleton] at e; subst e; exact HN.out), p2, p3, p4, p5⟩, p6, p7⟩
    case done =>
      rintro D ys W hD rfl ⟨⟨p1, p2, p3, p4, p5⟩, p6, p7⟩ hK
      obtain ⟨k3, k3f⟩ := blk_read p3
      obtain ⟨k4, k4f⟩ := blk_read p4
      obtain ⟨k5, k5f⟩ := blk_read p5
      have HN := Lib.hid (lastHit_none p1 H.out.1)
      clear p1
      gi_wp2
      have hz0 : w1.heap.size < D := by simp at hD; omega
      have b3 := ((p3.set (.string ⟨#[]⟩)).other (B' := w.heap.size + 1 + 1 + 1) (by omega) (.bool false)).other (B' := w.heap.size + 1 + 1 + 1 + 1) (by omega) (.int .i64 0)
      have b4 := ((p4.other (B' := w.heap.size + 1 + 1) (by omega) (.string ⟨#[]⟩)).set (.bool false)).other (B' := w.heap.size + 1 + 1 + 1 + 1) (by omega) (.int .i64 0)
      have b5 := ((p5.other (B' := w.heap.size + 1 + 1) (by omega) (.string ⟨#[]⟩)).other (B' := w.heap.size + 1 + 1 + 1) (by omega) (.bool false)).set (.int .i64 0)
      have hK' := (((KeepsOthers.setCell W ⟨w.heap.size + 1 + 1, 0, none⟩ (.string ⟨#[]⟩)).trans (KeepsOthers.setCell _ ⟨w.heap.size + 1 + 1 + 1, 0, none⟩ (.bool false))).trans (KeepsOthers.setCell _ ⟨w.heap.size + 1 + 1 + 1 + 1, 0, none⟩ (.int .i64 0))).same D _ hK rfl
      refine ⟨by simp, .inl ⟨_, _, rfl, run_takeDeferred hK', ?_⟩⟩
      have c3 := Boxed.cell (boxed_own _ _ (fun _ : Unit => _) () _ _ _ b3 (grownBy_putObj' _ D (.deferred none)) (fun k e => by cases e; exact ⟨_, hK', rfl⟩))
      have c4 := Boxed.cell (boxed_own _ _ (fun _ : Unit => _) () _ _ _ b4 (grownBy_putObj' _ D (.deferred none)) (fun k e => by cases e; exact ⟨_, hK', rfl⟩))
      have c5 := Boxed.cell (boxed_own _ _ (fun _ : Unit => _) () _ _ _ b5 (grownBy_putObj' _ D (.deferred none)) (fun k e => by cases e; exact ⟨_, hK', rfl⟩))
      refine ⟨.tuple #[.string ⟨#[]⟩, .bool false, .int .i64 0], ?_, ?_, (((p7.setCell (by simp; omega) _).setCell (by simp; omega) _).setCell (by simp; omega) _).trans (belowK_b (w := w) (Nat.le_refl _) _ D _ _ (by have := HL.out.size; omega) hK' rfl rfl)⟩
      · simp [results, Try.results55, go_sem, c3, c4, c5]
      · rw [HF.out, HN.out]; rfl
    case stop =>
      rintro D c' pre W hD ⟨k, hk, rfl⟩ ⟨⟨rfl, ini, last, q1, q2, q3, b3, b4, b5⟩, p7⟩ hK
      have HN := Lib.hid (lastHit_some q1 q2 q3 hk H.out.1)
      clear q1 q2 q3
      have hz0 : w1.heap.size < D := by simp at hD; omega
      gi_wp2
      refine ⟨by simp, .inl ⟨_, _, rfl, run_takeDeferred hK, ?_⟩⟩
      have c3 := Boxed.cell (boxed_own _ _ (fun _ : Unit => _) () _ _ _ b3 (grownBy_putObj' _ D (.deferred none)) (fun k e => by cases e; exact ⟨_, hK, rfl⟩))
      have c4 := Boxed.cell (boxed_own _ _ (fun _ : Unit => _) () _ _ _ b4 (grownBy_putObj' _ D (.deferred none)) (fun k e => by cases e; exact ⟨_, hK, rfl⟩))
      have c5 := Boxed.cell (boxed_own _ _ (fun _ : Unit => _) () _ _ _ b5 (grownBy_putObj' _ D (.deferred none)) (fun k e => by cases e; exact ⟨_, hK, rfl⟩))
      refine ⟨.tuple #[.string last.2.value, .bool true, .int .i64 0], ?_, ?_, p7.trans (belowK_b (w := w) (Nat.le_refl _) _ D _ _ (by have := HL.out.size; omega) hK rfl rfl)⟩
      · simp [results, Try.results55, go_sem, c3, c4, c5]
      · rw [HF.out, HN.out]; rfl
  · gi_wp2_with fail
    refine ⟨trivial, (back_in Fence.wide 3 trivial rfl _ _ _ _).mono ?_⟩
    rintro e w3 ⟨rfl, rfl⟩
    gi_wp2_with fail
    refine wpIn_rangeFunc_ownH (F := Fence.wide) rfl (by omega) (gf := 92) (lb := #[.pointer (some ⟨w1.heap.size, 0, none⟩)]) rfl trivial (enters_of Try.func92 (by kernel_rfl) rfl)
      (back_stops Fence.wide 3 trivial rfl (by omega) w1.heap.size w.heap.size A n c r.recs (by omega) H.out.1 (w1.alloc (.cells #[.slice A n c] 24)) (by have := HL.out.size; simp; omega) (blk_new w1 _ _) (H.out.below (HL.out.alloc HL.out.size _) (Nat.le_refl _)))
      kpAt_t (kpAt_b (by have := HL.out.size; simp; omega) (by simp)) (Below.refl _ _) (fun _ => rfl)
      (fun pre W => ((∀ p ∈ pre, hitB t p.2 = false) ∧ Boxed W (w.heap.size + 1) 3 (.int .i64 t) ∧ Boxed W (w.heap.size + 1 + 1) 9 (.string ⟨#[]⟩) ∧ Boxed W (w.heap.size + 1 + 1 + 1) 4 (.bool false) ∧ Boxed W (w.heap.size + 1 + 1 + 1 + 1) 28 (.int .i64 0)) ∧ w1.heap.size < W.heap.size ∧ Below w.heap.size w W)
      (fun c pre W => (c = .ret ∧ ∃ ini last, pre = ini ++ [last] ∧ (∀ p ∈ ini, hitB t p.2 = false) ∧ hitB t last.2 = true ∧ Boxed W (w.heap.size + 1 + 1) 9 (.string last.2.value) ∧ Boxed W (w.heap.size + 1 + 1 + 1) 4 (.bool true) ∧ Boxed W (w.heap.size + 1 + 1 + 1 + 1) 28 (.int .i64 0)) ∧ Below w.heap.size w W)
      (OwnFrom.and (fun s X Y row hs hg hr => ⟨hs.1, boxed_own _ _ (fun _ : Unit => _) () X Y row hs.2.1 hg (fun k e => (hr k e).2), boxed_own _ _ (fun _ : Unit => _) () X Y row hs.2.2.1 hg (fun k e => (hr k e).2), boxed_own _ _ (fun _ : Unit => _) () X Y row hs.2.2.2.1 hg (fun k e => (hr k e).2), boxed_own _ _ (fun _ : Unit => _) () X Y row hs.2.2.2.2 hg (fun k e => (hr k e).2)⟩)
        (OwnFrom.and (fun s X Y row hs hg hr => Nat.lt_of_lt_of_le hs hg.size) (ownFrom_below (Nat.le_refl _) (by have := HL.out.size; simp; omega))))
      (fun c => OwnFrom.and (fun s X Y row hs hg hr => by
          obtain ⟨q, ini, last, q1, q2, q3, q4, q5, q6⟩ := hs
          exact ⟨q, ini, last, q1, q2, q3, boxed_own _ _ (fun _ : Unit => _) () X Y row q4 hg (fun k e => (hr k e).2), boxed_own _ _ (fun _ : Unit => _) () X Y row q5 hg (fun k e => (hr k e).2), boxed_own _ _ (fun _ : Unit => _) () X Y row q6 hg (fun k e => (hr k e).2)⟩) (ownFrom_below (Nat.le_refl _) (by have := HL.out.size; simp; omega)))
      ⟨⟨by simp, blk_old HB1.out _, blk_old HB2.out _, blk_old HB3.out _, blk_old HB4.out _⟩, by simp, HL.out.alloc HL.out.size _⟩
      (fun x a' W => ∃ Bx, w1.heap.size < Bx ∧ W.heap[Bx]? = some (.cells #[.int .i64 x.2.start, .int .i64 x.2.commit, .string x.2.value] 55 (0, 0)) ∧ a' = { tmps := #[.agg #[.string r.key, .int .i64 r.ls, .string r.lp, .string r.value, .slice A n c], .int .i64 t, .pointer (some ⟨w.heap.size, 0, none⟩), .pointer (some ⟨w.heap.size + 1, 0, none⟩), .pointer (some ⟨w.heap.size + 1 + 1, 0, none⟩), .pointer (some ⟨w.heap.size + 1 + 1 + 1, 0, none⟩), .pointer (some ⟨w.heap.size + 1 + 1 + 1 + 1, 0, none⟩), .int .i64 0, undef, .pointer (some ⟨Bx, 0, none⟩), .agg #[.string r.key, .int .i64 r.ls, .string r.lp, .string r.value, .slice A n c], .int .i64 0, .int .i64 0, .bool false, undef, .int .i64 t, .bool true, .bool false, .pointer (some ⟨w.heap.size, 1, none⟩), .pointer (some ⟨w.heap.size, 1, none⟩), .int .i64 r.ls, .bool true, .bool true, .pointer (some ⟨w.heap.size, 1, none⟩), .pointer (some ⟨w.heap.size, 1, none⟩), .int .i64 r.ls, .int .i64 t, .bool false, .bool false, .pointer (some ⟨w.heap.size, 4, none⟩), .slice A n c, .func (.func 92) #[] #[.pointer (some ⟨w1.heap.size, 0, none⟩)], .int .i64 x.1, .agg #[.int .i64 x.2.start, .int .i64 x.2.commit, .string x.2.value], undef, undef, undef, undef, undef, undef, undef, undef, undef, undef, undef], defers := [] })
      (fun x a' => fun s X Y row hs hg hr => by
        obtain ⟨Bx, q1, q2, q3⟩ := hs
        refine ⟨Bx, q1, (hg.block Bx (blk_lt q2) (fun e => ?_)).trans q2, q3⟩
        obtain ⟨_, o, ho, hoc⟩ := hr Bx e.symm
        rw [q2] at ho; cases ho; cases hoc) ?assign ?body ?done ?stop
    case assign =>
      rintro l pre x W K ⟨⟨p1, p2, p3, p4, p5⟩, p6, p7⟩ hK
      unfold recArgs
      gi_wp2
      exact hK _ _ ((KeepsOthers.alloc _ _).from _) ⟨(Below.refl _ W).alloc p7.size _, Below.heap_alloc W _ _ p6⟩ ⟨⟨p1, p2.alloc _, p3.alloc _, p4.alloc _, p5.alloc _⟩, by simp; omega, p7.alloc p7.size _⟩ ⟨W.heap.size, p6, blk_new W _ _, rfl⟩
    case body =>
      rintro l pre x a' W hl ⟨rr, hrr⟩ ⟨⟨p1, p2, p3, p4, p5⟩, p6, p7⟩ ⟨Bx, q1, q2, rfl⟩ _
      obtain ⟨hx0, _⟩ := blk_read q2
      have k1 := p2.cell
      obtain ⟨k3, k3f⟩ := blk_read p3
      obtain ⟨k4, k4f⟩ := blk_read p4
      obtain ⟨k5, k5f⟩ := blk_read p5
      by_cases h0 : x.2.commit = 0
      · have z0 : (x.2.commit != 0) = false := by simpa using h0
        have HN : Hid (hitB t x.2 = false) := by show _ = _; simp [hitB, h0]
        clear h0
        gi_wp2
        exact ⟨KeepsFrom.refl _ _, kpAt_refl _ _ _, ⟨fun p hp => (List.mem_append.1 hp).elim (p1 p) (fun e => by rw [List.mem_singleton] at e; subst e; exact HN.out), p2, p3, p4, p5⟩, p6, p7⟩
      · have z0 : (x.2.commit != 0) = true := by simpa using h0
        by_cases h1 : x.2.commit ≤ t
        · have HN : Hid (hitB t x.2 = true) := by show _ = _; simp [hitB, h0, h1]
          have z1 : decide (x.2.commit ≤ t) = true := decide_eq_true h1
          clear h0 h1
          gi_wp2
          refine ⟨?_, ⟨rfl, pre, x, rfl, p1, HN.out, ?_, ?_, ?_⟩, ?_⟩
          · exact (((KeepsOthers.setCell _ _ _).trans (KeepsOthers.setCell _ _ _)).trans (KeepsOthers.setCell _ _ _)).from _
          · exact ((p3.set _).other (by omega) _).other (by omega) _
          · exact ((p4.other (by omega) _).set _).other (by omega) _
          · exact ((p5.other (by omega) _).other (by omega) _).set _
          · exact ((p7.setCell (by simp; omega) _).setCell (by simp; omega) _).setCell (by simp; omega) _
        · have HN : Hid (hitB t x.2 = false) := by show _ = _; simp [hitB, h0, h1]
          have z1 : decide (x.2.commit ≤ t) = false := decide_eq_false h1
          clear h0 h1
          gi_wp2
          exact ⟨KeepsFrom.refl _ _, kpAt_refl _ _ _, ⟨fun p hp => (List.mem_append.1 hp).elim (p1 p) (fun e => by rw [List.mem_singleton] at e; subst e; exact HN.out), p2, p3, p4, p5⟩, p6, p7⟩
    case done =>
      rintro D ys W hD rfl ⟨⟨p1, p2, p3, p4, p5⟩, p6, p7⟩ hK
      obtain ⟨k3, k3f⟩ := blk_read p3
      obtain ⟨k4, k4f⟩ := blk_read p4
      obtain ⟨k5, k5f⟩ := blk_read p5
      have HN := Lib.hid (lastHit_none p1 H.out.1)
      clear p1
      gi_wp2
      have hz0 : w1.heap.size < D := by simp at hD; omega
      have b3 := ((p3.set (.string ⟨#[]⟩)).other (B' := w.heap.size + 1 + 1 + 1) (by omega) (.bool false)).other (B' := w.heap.size + 1 + 1 + 1 + 1) (by omega) (.int .i64 0)
      have b4 := ((p4.other (B' := w.heap.size + 1 + 1) (by omega) (.string ⟨#[]⟩)).set (.bool false)).other (B' := w.heap.size + 1 + 1 + 1 + 1) (by omega) (.int .i64 0)
      have b5 := ((p5.other (B' := w.heap.size + 1 + 1) (by omega) (.string ⟨#[]⟩)).other (B' := w.heap.size + 1 + 1 + 1) (by omega) (.bool false)).set (.int .i64 0)
      have hK' := (((KeepsOthers.setCell W ⟨w.heap.size + 1 + 1, 0, none⟩ (.string ⟨#[]⟩)).trans (KeepsOthers.setCell _ ⟨w.heap.size + 1 + 1 + 1, 0, none⟩ (.bool false))).trans (KeepsOthers.setCell _ ⟨w.heap.size + 1 + 1 + 1 + 1, 0, none⟩ (.int .i64 0))).same D _ hK rfl
      refine ⟨by simp, .inl ⟨_, _, rfl, run_takeDeferred hK', ?_⟩⟩
      have c3 := Boxed.cell (boxed_own _ _ (fun _ : Unit => _) () _ _ _ b3 (grownBy_putObj' _ D (.deferred none)) (fun k e => by cases e; exact ⟨_, hK', rfl⟩))
      have c4 := Boxed.cell (boxed_own _ _ (fun _ : Unit => _) () _ _ _ b4 (grownBy_putObj' _ D (.deferred none)) (fun k e => by cases e; exact ⟨_, hK', rfl⟩))
      have c5 := Boxed.cell (boxed_own _ _ (fun _ : Unit => _) () _ _ _ b5 (grownBy_putObj' _ D (.deferred none)) (fun k e => by cases e; exact ⟨_, hK', rfl⟩))
      refine ⟨.tuple #[.string ⟨#[]⟩, .bool false, .int .i64 0], ?_, ?_, (((p7.setCell (by simp; omega) _).setCell (by simp; omega) _).setCell (by simp; omega) _).trans (belowK_b (w := w) (Nat.le_refl _) _ D _ _ (by have := HL.out.size; omega) hK' rfl rfl)⟩
      · simp [results, Try.results55, go_sem, c3, c4, c5]
      · rw [HF.out, HN.out]; rfl
    case stop =>
      rintro D c' pre W hD ⟨k, hk, rfl⟩ ⟨⟨rfl, ini, last, q1, q2, q3, b3, b4, b5⟩, p7⟩ hK
      have HN := Lib.hid (lastHit_some q1 q2 q3 hk H.out.1)
      clear q1 q2 q3
      have hz0 : w1.heap.size < D := by simp at hD; omega
      gi_wp2
      refine ⟨by simp, .inl ⟨_, _, rfl, run_takeDeferred hK, ?_⟩⟩
      have c3 := Boxed.cell (boxed_own _ _ (fun _ : Unit => _) () _ _ _ b3 (grownBy_putObj' _ D (.deferred none)) (fun k e => by cases e; exact ⟨_, hK, rfl⟩))
      have c4 := Boxed.cell (boxed_own _ _ (fun _ : Unit => _) () _ _ _ b4 (grownBy_putObj' _ D (.deferred none)) (fun k e => by cases e; exact ⟨_, hK, rfl⟩))
      have c5 := Boxed.cell (boxed_own _ _ (fun _ : Unit => _) () _ _ _ b5 (grownBy_putObj' _ D (.deferred none)) (fun k e => by cases e; exact ⟨_, hK, rfl⟩))
      refine ⟨.tuple #[.string last.2.value, .bool true, .int .i64 0], ?_, ?_, p7.trans (belowK_b (w := w) (Nat.le_refl _) _ D _ _ (by have := HL.out.size; omega) hK rfl rfl)⟩
      · simp [results, Try.results55, go_sem, c3, c4, c5]
      · rw [HF.out, HN.out]; rfl

/-- row.Read, at every row and time. -/
theorem read_any (r : MRow) (t : Int) (A : Option Addr) (n c : Nat) (w : World) (h : RecsAt w w.heap.size A n r.recs) (hsm : n * 32 ≤ 140737488351232) :
    Calls Try.prog 55 #[.agg #[.string r.key, .int .i64 r.ls, .string r.lp, .string r.value, .slice A n c], .int .i64 t] w
      fun e w' => e = .returned (readVal (readF r t)) ∧ Below w.heap.size w w' := by
  have hm : n ≤ maxLen := by unfold maxLen; omega
  by_cases hok : r.ls ≠ 0 ∧ r.ls ≤ t
  · exact read_bad r t A n c w h hm (.inr (.inr hok))
  · cases hr : rowB r
    · exact read_bad r t A n c w h hm (.inl hr)
    · cases ht : timeB t
      · exact read_bad r t A n c w h hm (.inr (.inl ht))
      · exact read_good r t A n c w h hsm hr ht hok
end Go.Proofs.Ytniomgngiiiklab

/- The walk of row.Status. -/
namespace Go.Proofs.Ytniomgngiiiklab
open Go.RowKit

/-- What row.Status answers: the status, the commit, the error. -/
def statusF (r : MRow) (st : Int) : Int × Int × Int :=
  if rowB r then (if timeB st then (if r.ls = st then (1, 0, 0) else match recFind r.recs st with
    | none => (0, 0, 0)
    | some x => if x.commit = 0 then (3, 0, 0) else (2, x.commit, 0)) else (0, 0, 2)) else (0, 0, 6)

theorem findB_cases (r : MRow) (st : Int) : (findB r st = -1 ∧ recFind r.recs st = none) ∨ ∃ (i : Nat) (x : MRec), findB r st = (i : Int) ∧ r.recs[i]? = some x ∧ recFind r.recs st = some x := by
  unfold findB recFind fstIdx
  cases h : r.recs.findIdx? (fun x => x.start == st) with
  | none =>
    rw [List.findIdx?_eq_none_iff] at h
    exact .inl ⟨rfl, by rw [List.find?_eq_none]; intro x hx; simp [h x hx]⟩
  | some i =>
    rw [List.findIdx?_eq_some_iff_getElem] at h
    obtain ⟨hi, hp, hb⟩ := h
    refine .inr ⟨i, r.recs[i], rfl, List.getElem?_eq_getElem hi, ?_⟩
    rw [List.find?_eq_some_iff_getElem]
    exact ⟨hp, i, hi, rfl, fun j hj => by simpa using hb j hj⟩

def stVal (t : Int × Int × Int) : Value := .tuple #[.int .i64 t.1, .int .i64 t.2.1, .int .i64 t.2.2]

set_option maxHeartbeats 1000000 in
theorem status_any (r : MRow) (st : Int) (A : Option Addr) (n c : Nat) (w : World) (h : RecsAt w w.heap.size A n r.recs) (hm : n ≤ maxLen) :
    Calls Try.prog 16 #[.agg #[.string r.key, .int .i64 r.ls, .string r.lp, .string r.value, .slice A n c], .int .i64 st] w
      fun e w' => e = .returned (stVal (statusF r st)) ∧ Below w.heap.size w w' := by
  have H := Lib.hid h
  have Hm := Lib.hid hm
  unfold maxLen at hm
  clear h
  go_enter Try.func16, Try.ntmps16
  go_wp2_with fail
  refine (check_any r A n c _ ((H.out.below ((Below.refl w.heap.size w).alloc (Nat.le_refl _) _) (Nat.le_refl _)).more (by simp)) Hm.out).mono ?_
  rintro e w1 ⟨rfl, hb⟩
  have HL := Lib.hid (((Below.refl w.heap.size w).alloc (Nat.le_refl _) _).trans (hb.mono (by simp)))
  have HB := Lib.hid (blk_keep hb (blk_new w _ _) (by simp))
  obtain ⟨hc0, hf0⟩ := blk_read HB.out
  have hz := blk_lt HB.out
  clear hb
  cases hr : rowB r <;> simp only [okCode, if_true, if_false, Bool.false_eq_true]
  · go_wp2_with fail
    go_ret3
    exact ⟨by simp [stVal, statusF, hr], HL.out⟩
  cases ht : timeB st
  · go_wp2_with fail
    refine (time_any _ _).mono ?_
    rintro e w2 ⟨rfl, rfl⟩
    go_wp2_with fail
    go_ret3
    exact ⟨by simp [stVal, statusF, hr, ht], HL.out⟩
  go_wp2_with fail
  refine (time_any _ _).mono ?_
  rintro e w2 ⟨rfl, rfl⟩
  go_wp2_with fail
  refine (find_any r st A n c w1 ((H.out.below HL.out (Nat.le_refl _)).more HL.out.size) Hm.out).mono ?_
  rintro e w2 ⟨rfl, hb⟩
  have HL2 := Lib.hid (HL.out.trans (hb.mono HL.out.size))
  have HB2 := Lib.hid (blk_keep hb HB.out hz)
  clear hb hc0 hf0 hz HL HB
  obtain ⟨hc0, hf0⟩ := blk_read HB2.out
  have hz := blk_lt HB2.out
  by_cases hl : r.ls = st
  · have el : (r.ls == st) = true := by simpa using hl
    have HS : Hid (statusF r st = (1, 0, 0)) := by show _ = _; simp [statusF, hr, ht, hl]
    clear hl
    go_wp2_with fail
    go_ret3
    exact ⟨by rw [HS.out]; rfl, HL2.out⟩
  have el : (r.ls == st) = false := by simpa using hl
  rcases findB_cases r st with ⟨e1, e2⟩ | ⟨i, x, e1, hx, e2⟩
  · have HS : Hid (statusF r st = (0, 0, 0)) := by show _ = _; simp [statusF, hr, ht, hl, e2]
    clear hl e2
    rw [e1]
    clear e1
    go_wp2_with fail
    go_ret3
    exact ⟨by rw [HS.out]; rfl, HL2.out⟩
  · have hin : i < n := by have := (List.getElem?_eq_some_iff.1 hx).1; have := H.out.1; omega
    obtain ⟨x', b, off, hx', rfl, hbb, g0, g1, g2⟩ := (H.out.below HL2.out (Nat.le_refl _)).at_ hin
    obtain rfl : x' = x := by rw [hx] at hx'; injection hx' with e; exact e.symm
    have hiz : (i : Int) < (n : Int) := by omega
    have hi0 : (0 : Int) ≤ (i : Int) := by omega
    rw [e1]
    by_cases h0 : x'.commit = 0
    · have HS : Hid (statusF r st = (3, 0, 0)) := by show _ = _; simp [statusF, hr, ht, hl, e2, h0]
      have e0 : (x'.commit == 0) = true := by simpa using h0
      clear hl e2 e1 hx hx' h0
      go_wp2_with fail
      go_ret3
      exact ⟨by rw [HS.out]; rfl, HL2.out⟩
    · have HS : Hid (statusF r st = (2, x'.commit, 0)) := by show _ = _; simp [statusF, hr, ht, hl, e2, h0]
      have e0 : (x'.commit == 0) = false := by simpa using h0
      clear hl e2 e1 hx hx' h0
      go_wp2_with fail
      go_quiet (fail)
      go_wp2_with fail
      go_ret3
      exact ⟨by rw [HS.out]; rfl, below_drewN HL2.out _⟩
end Go.Proofs.Ytniomgngiiiklab

/- What an operation on a row hands back: a row in new memory, and an error number. -/
namespace Go.Proofs.Ytniomgngiiiklab
open Go.RowKit

def zeroRow : MRow := ⟨⟨#[]⟩, 0, ⟨#[]⟩, ⟨#[]⟩, []⟩
/-- The row r and the error number, r's records in memory that lies beyond w. -/
def RowRet (w : World) (r : MRow) (code : Int) (e : Ending) (w' : World) : Prop :=
  ∃ A c, e = .returned (.tuple #[.agg #[.string r.key, .int .i64 r.ls, .string r.lp, .string r.value, .slice A r.recs.length c], .int .i64 code]) ∧
    w'.ownsRow w.heap.size 55 3 (.slice A r.recs.length c) r.recs.length (recCells r.recs) ∧ Below w.heap.size w w'
theorem rowRet_zero {w w' : World} {code : Int} (h : Below w.heap.size w w') : RowRet w zeroRow code (.returned (.tuple #[.agg #[.string ⟨#[]⟩, .int .i64 0, .string ⟨#[]⟩, .string ⟨#[]⟩, .slice none 0 0], .int .i64 code])) w' :=
  ⟨none, 0, rfl, World.ownsRow_nil _ _ _ _, h⟩

/-- The error number of LockFor. -/
def lockCode (r : MRow) (st : Int) (p v : ByteArray) : Int :=
  if (statusF r st).2.2 ≠ 0 then (statusF r st).2.2 else if keyB p = false then 4 else if 20 < v.size then 1 else if (statusF r st).1 = 3 then 9
  else if (statusF r st).1 = 2 ∨ (r.recs.any fun x => decide (st < x.commit)) = true then 8 else if r.ls ≠ 0 then 7 else if r.recs.length = 100 then 1 else 0
def lockRow (r : MRow) (st : Int) (p v : ByteArray) : MRow := if lockCode r st p v = 0 then { r with ls := st, lp := p, value := v } else zeroRow

theorem statusF_bounds (r : MRow) (st : Int) : ((statusF r st).1 = 0 ∨ (statusF r st).1 = 1 ∨ (statusF r st).1 = 2 ∨ (statusF r st).1 = 3) ∧ ((statusF r st).2.2 = 0 ∨ ((statusF r st).2.2 = 6 ∧ rowB r = false) ∨ ((statusF r st).2.2 = 2 ∧ timeB st = false)) := by
  unfold statusF
  cases hr : rowB r
  · exact ⟨.inl rfl, .inr (.inl ⟨rfl, rfl⟩)⟩
  · cases ht : timeB st
    · exact ⟨.inl rfl, .inr (.inr ⟨rfl, rfl⟩)⟩
    · simp only [if_true]
      by_cases hl : r.ls = st
      · rw [if_pos hl]; exact ⟨.inr (.inl rfl), .inl rfl⟩
      · rw [if_neg hl]
        cases recFind r.recs st with
        | none => exact ⟨.inl rfl, .inl rfl⟩
        | some x =>
          by_cases h0 : x.commit = 0
          · simp [h0]
          · simp [h0]
end Go.Proofs.Ytniomgngiiiklab
