/- Tests of writes, rows, records and clients one by one: what holds of the first few; no program in sight. -/
import Derived.Test.YtniomgngiiiklabPlainM
import Derived.Test.YtniomgngiiiklabOwnsM
import Derived.Deep.DeepCutAuto
import Derived.Test.YtniomgngiiiklabGroundM
import Derived.StillTailTactics
import Derived.Deep.CutBlock
import Derived.Outline
import Derived.Test.YtniomgngiiiklabCheckM
namespace Go.Proofs.Ytniomgngiiiklab
theorem take_one_more {α : Type} {l : List α} {k : Nat} {x : α} (h : l[k]? = some x) : l.take (k + 1) = l.take k ++ [x] := by
  obtain ⟨hl, rfl⟩ := List.getElem?_eq_some_iff.1 h
  exact (List.take_append_getElem hl).symm
theorem last_of_take {α : Type} {f : α → ByteArray} {l : List α} {j : Nat} {y : α} (hp : (l.take (j + 1)).Pairwise fun a b => ltK (f a) (f b) = true) (hy : l[j]? = some y) : ∀ z ∈ l.take (j + 1), z = y ∨ ltK (f z) (f y) = true := by
  rw [take_one_more hy] at hp ⊢
  intro z hz
  rcases List.mem_append.1 hz with hz | hz
  · exact .inr ((List.pairwise_append.1 hp).2.2 z hz y List.mem_cons_self)
  · simp at hz; exact .inl hz
theorem sorted_more {α : Type} {f : α → ByteArray} {l : List α} {k : Nat} {x : α} (hp : (l.take k).Pairwise fun a b => ltK (f a) (f b) = true) (hx : l[k]? = some x) (h : k = 0 ∨ ∃ j y, k = j + 1 ∧ l[j]? = some y ∧ ltK (f y) (f x) = true) :
    (l.take (k + 1)).Pairwise fun a b => ltK (f a) (f b) = true := by
  rw [take_one_more hx]
  refine List.pairwise_append.2 ⟨hp, List.pairwise_singleton _ _, fun a ha b hb => ?_⟩
  simp at hb; subst hb
  rcases h with rfl | ⟨j, y, rfl, hy, hlt⟩
  · simp at ha
  · rcases last_of_take hp hy a ha with rfl | h'
    · exact hlt
    · exact ltK_trans h' hlt
theorem sorted_not {α : Type} {f : α → ByteArray} {l : List α} {j : Nat} {x y : α} (hy : l[j]? = some y) (hx : l[j + 1]? = some x) (h : ltK (f y) (f x) = false) : ¬ l.Pairwise fun a b => ltK (f a) (f b) = true := by
  intro hp
  obtain ⟨h1, rfl⟩ := List.getElem?_eq_some_iff.1 hy
  obtain ⟨h2, rfl⟩ := List.getElem?_eq_some_iff.1 hx
  have := List.pairwise_iff_getElem.1 hp j (j + 1) h1 h2 (by omega)
  rw [h] at this; cases this

/-! ### writes -/
theorem writes_more {ws : List MWrite} {k : Nat} {x : MWrite} (h : WritesGood (ws.take k)) (hx : ws[k]? = some x) (hk : keyB x.key = true) (hv : x.value.size ≤ 20) (hp : k = 0 ∨ ∃ j y, k = j + 1 ∧ ws[j]? = some y ∧ ltK y.key x.key = true) : WritesGood (ws.take (k + 1)) := by
  refine ⟨fun z hz => ?_, sorted_more (f := MWrite.key) h.2 hx hp⟩
  rw [take_one_more hx] at hz
  rcases List.mem_append.1 hz with hz | hz
  · exact h.1 z hz
  · simp at hz; subst hz; exact ⟨hk, hv⟩
theorem writesB_not {ws : List MWrite} (h : ¬ WritesGood ws) : writesB ws = false := by
  cases hb : writesB ws with
  | false => rfl
  | true => exact absurd (writesB_iff.1 hb) h
theorem writes_bad {ws : List MWrite} {k : Nat} {x : MWrite} (hx : ws[k]? = some x) (h : keyB x.key = false ∨ 20 < x.value.size) : writesB ws = false :=
  writesB_not fun hg => by
    obtain ⟨h1, h2⟩ := hg.1 x (List.mem_of_getElem? hx)
    rcases h with h | h
    · rw [h] at h1; cases h1
    · omega
theorem writes_order {ws : List MWrite} {j : Nat} {x y : MWrite} (hy : ws[j]? = some y) (hx : ws[j + 1]? = some x) (h : ltK y.key x.key = false) : writesB ws = false :=
  writesB_not fun hg => sorted_not (f := MWrite.key) hy hx h hg.2
theorem clientB_few {x : MClient} {clock : Int} (h : 6 < x.writes.length) : clientB x clock = false := by
  unfold clientB; rw [decide_eq_false (by omega)]; rfl
theorem clientB_writes {x : MClient} {clock : Int} (h : writesB x.writes = false) : clientB x clock = false := by
  unfold clientB; rw [h]; simp
/-- What is left behind the writes. -/
def phaseB (x : MClient) (clock : Int) : Bool :=
  if x.phase = 0 then decide (x.start = 0 ∧ x.commit = 0 ∧ x.writes.length = 0 ∧ x.at_ = 0)
    else if x.phase = 1 then decide ((1 ≤ x.start ∧ x.start ≤ clock) ∧ x.commit = 0 ∧ x.at_ = 0)
    else if x.phase = 2 then decide ((1 ≤ x.start ∧ x.start ≤ clock) ∧ x.commit = 0 ∧ 0 ≤ x.at_ ∧ x.at_ ≤ x.writes.length ∧ 0 < x.writes.length)
    else if x.phase = 3 then decide ((1 ≤ x.start ∧ x.start ≤ clock) ∧ (x.start < x.commit ∧ x.commit ≤ clock) ∧ x.at_ = 0 ∧ 0 < x.writes.length)
    else if x.phase = 4 then decide ((1 ≤ x.start ∧ x.start ≤ clock) ∧ (x.start < x.commit ∧ x.commit ≤ clock) ∧ 1 ≤ x.at_ ∧ x.at_ < x.writes.length)
    else false
theorem clientB_phase {x : MClient} {clock : Int} (h : x.writes.length ≤ 6) (hg : WritesGood (x.writes.take x.writes.length)) : clientB x clock = phaseB x clock := by
  rw [List.take_length] at hg
  unfold clientB
  rw [decide_eq_true h, writesB_iff.2 hg, Bool.true_and, Bool.true_and]
  rfl

/-! ### rows -/
structure RowsPre (clock : Int) (l : List MRow) : Prop where
  each : ∀ r ∈ l, RowGood r ∧ RowIn clock r
  sorted : l.Pairwise fun a b => ltK a.key b.key = true
theorem rows_pre_nil (clock : Int) : RowsPre clock [] := ⟨fun _ hr => (List.not_mem_nil hr).elim, List.Pairwise.nil⟩
theorem rows_more {clock : Int} {l : List MRow} {k : Nat} {r : MRow} (h : RowsPre clock (l.take k)) (hr : l[k]? = some r) (hg : rowB r = true) (hi : RowIn clock r) (hp : k = 0 ∨ ∃ j y, k = j + 1 ∧ l[j]? = some y ∧ ltK y.key r.key = true) : RowsPre clock (l.take (k + 1)) := by
  refine ⟨fun z hz => ?_, sorted_more (f := MRow.key) h.sorted hr hp⟩
  rw [take_one_more hr] at hz
  rcases List.mem_append.1 hz with hz | hz
  · exact h.each z hz
  · simp at hz; subst hz; exact ⟨rowB_iff.1 hg, hi⟩
theorem worldB_not {M : MWorld} (h : ¬ WorldGood M) : worldB M = false := by
  cases hb : worldB M with
  | false => rfl
  | true => exact absurd (worldB_iff.1 hb) h
theorem world_row_bad {M : MWorld} {k : Nat} {r : MRow} (hr : M.rows[k]? = some r) (h : rowB r = false ∨ M.clock < r.ls) : worldB M = false :=
  worldB_not fun hg => by
    obtain ⟨h1, h2⟩ := hg.rows.each r (List.mem_of_getElem? hr)
    rcases h with h | h
    · rw [rowB_iff.2 h1] at h; cases h
    · have := h2.1; omega
theorem world_order {M : MWorld} {j : Nat} {x y : MRow} (hy : M.rows[j]? = some y) (hx : M.rows[j + 1]? = some x) (h : ltK y.key x.key = false) : worldB M = false :=
  worldB_not fun hg => sorted_not (f := MRow.key) hy hx h hg.rows.sorted
theorem world_rec_bad {M : MWorld} {k i : Nat} {r : MRow} {x : MRec} (hr : M.rows[k]? = some r) (hx : r.recs[i]? = some x) (h : M.clock < x.start ∨ M.clock < x.commit) : worldB M = false :=
  worldB_not fun hg => by
    have := (hg.rows.each r (List.mem_of_getElem? hr)).2.2 x (List.mem_of_getElem? hx)
    omega
theorem world_client_bad {M : MWorld} {k : Nat} {x : MClient} (hx : M.clients[k]? = some x) (h : clientB x M.clock = false) : worldB M = false :=
  worldB_not fun hg => by
    have := hg.clients x (List.mem_of_getElem? hx)
    rw [h] at this; cases this
theorem world_head_bad {M : MWorld} (h : 40 < M.rows.length ∨ 5 < M.clients.length ∨ M.clock < 0 ∨ 1099511627376 < M.clock) : worldB M = false :=
  worldB_not fun hg => by
    have h1 := hg.rows.len
    have h2 := hg.few
    have h3 := hg.clock
    omega
theorem world_all {M : MWorld} (h1 : M.rows.length ≤ 40) (h2 : M.clients.length ≤ 5) (h3 : 0 ≤ M.clock ∧ M.clock ≤ 1099511627376) (hr : RowsPre M.clock M.rows) (hc : ∀ c ∈ M.clients, clientB c M.clock = true) : worldB M = true :=
  worldB_iff.2 ⟨⟨hr.each, hr.sorted, h1⟩, h2, h3, hc⟩
theorem recs_more {clock : Int} {l : List MRec} {k : Nat} {x : MRec} (h : ∀ y ∈ l.take k, y.start ≤ clock ∧ y.commit ≤ clock) (hx : l[k]? = some x) (h1 : x.start ≤ clock) (h2 : x.commit ≤ clock) : ∀ y ∈ l.take (k + 1), y.start ≤ clock ∧ y.commit ≤ clock := by
  intro y hy
  rw [take_one_more hx] at hy
  rcases List.mem_append.1 hy with hy | hy
  · exact h y hy
  · simp at hy; subst hy; exact ⟨h1, h2⟩
theorem clients_more {clock : Int} {l : List MClient} {k : Nat} {x : MClient} (h : ∀ y ∈ l.take k, clientB y clock = true) (hx : l[k]? = some x) (h1 : clientB x clock = true) : ∀ y ∈ l.take (k + 1), clientB y clock = true := by
  intro y hy
  rw [take_one_more hx] at hy
  rcases List.mem_append.1 hy with hy | hy
  · exact h y hy
  · simp at hy; subst hy; exact h1
end Go.Proofs.Ytniomgngiiiklab

/- The walk of txn.client. -/
namespace Go.Proofs.Ytniomgngiiiklab
open Go.RowKit

theorem clientB_good {x : MClient} {clock : Int} (h : x.writes.length ≤ 6) (hg : WritesGood (x.writes.take x.writes.length)) : clientB x clock = phaseB x clock := clientB_phase h hg
theorem phaseB_iff {x : MClient} {clock : Int} : phaseB x clock = true ↔
    (x.phase = 0 ∧ x.start = 0 ∧ x.commit = 0 ∧ x.writes.length = 0 ∧ x.at_ = 0) ∨ (x.phase = 1 ∧ (1 ≤ x.start ∧ x.start ≤ clock) ∧ x.commit = 0 ∧ x.at_ = 0) ∨
    (x.phase = 2 ∧ (1 ≤ x.start ∧ x.start ≤ clock) ∧ x.commit = 0 ∧ 0 ≤ x.at_ ∧ x.at_ ≤ x.writes.length ∧ 0 < x.writes.length) ∨
    (x.phase = 3 ∧ (1 ≤ x.start ∧ x.start ≤ clock) ∧ (x.start < x.commit ∧ x.commit ≤ clock) ∧ x.at_ = 0 ∧ 0 < x.writes.length) ∨
    (x.phase = 4 ∧ (1 ≤ x.start ∧ x.start ≤ clock) ∧ (x.start < x.commit ∧ x.commit ≤ clock) ∧ 1 ≤ x.at_ ∧ x.at_ < x.writes.length) := by
  unfold phaseB
  repeat' split
  all_goals
    simp only [decide_eq_true_eq, Bool.false_eq_true]
    refine ⟨fun h => ?_, fun h => ?_⟩ <;> first | exact (h : False).elim | omega
set_option maxRecDepth 100000 in
set_option maxHeartbeats 4000000 in
theorem client_any (x : MClient) (clock : Int) (A : Option Addr) (n c : Nat) (w : World) (h : WritesOk w w.heap.size A n c x.writes) :
    Calls Try.prog 48 #[.agg #[.int .i64 x.phase, .int .i64 x.start, .int .i64 x.commit, .slice A n c, .int .i64 x.at_], .int .i64 clock] w fun e w' => e = .returned (.bool (clientB x clock)) ∧ Below w.heap.size w w' := by
  have H := Lib.hid h
  have Hn := Lib.hid h.at_.1
  have hsm := h.small
  clear h
  by_cases h6 : n ≤ 6
  rotate_left
  · have hd : decide ((6 : Int) < (n : Int)) = true := decide_eq_true (by omega)
    have HE : Hid (clientB x clock = false) := clientB_few (by rw [Hn.out]; omega)
    go_enter Try.func48, Try.ntmps48
    go_wp2_with fail
    go_ret
    rw [HE.out]
    exact ⟨rfl, (Below.refl _ _).alloc (Nat.le_refl _) _⟩
  have hd : decide ((6 : Int) < (n : Int)) = false := decide_eq_false (by omega)
  go_enter Try.func48, Try.ntmps48
  go_wp2_with fail
  go_loopw [17] (fun i wr => (∃ j : Nat, j ≤ n ∧ i = .int .i64 j ∧ WritesGood (x.writes.take j)) ∧ Below w.heap.size w wr ∧ wr.heap[w.heap.size]? = some (.cells #[.int .i64 x.phase, .int .i64 x.start, .int .i64 x.commit, .slice A n c, .int .i64 x.at_] 58 (0, 0))) (fun i _ => n - (intOf i).toNat)
  case atStart => exact ⟨⟨0, Nat.zero_le _, rfl, ⟨fun y hy => (List.not_mem_nil hy).elim, List.Pairwise.nil⟩⟩, (Below.refl _ _).alloc (Nat.le_refl _) _, blk_new _ _ _⟩
  case round =>
    obtain ⟨⟨j, hj, rfl, hgo⟩, hbel, hblk⟩ := hrel
    have HGO := Lib.hid hgo
    have HL := Lib.hid hbel
    have HB := Lib.hid hblk
    clear hgo hbel hblk
    obtain ⟨hc0, hf0⟩ := blk_read HB.out
    have hz := blk_lt HB.out
    by_cases hlt : j < n
    · obtain ⟨y, b, off, hy, rfl, hbb, g0, g1⟩ := (H.out.at_.below HL.out (Nat.le_refl _)).at_ hlt
      have HY := Lib.hid hy
      have hbz : b < wr.heap.size := by have := HL.out.size; omega
      clear hy
      have hprev0 : (j = 0 ∨ ∃ (i : Nat) (z : MWrite), j = i + 1 ∧ x.writes[i]? = some z ∧ wr.cell? ⟨b, off + i * 2, none⟩ = some (.string z.key)) := by
        rcases j with _ | i
        · exact .inl rfl
        · obtain ⟨z, b', off', hz', e, _, g0', _⟩ := (H.out.at_.below HL.out (Nat.le_refl _)).at_ (show i < n by omega)
          injection e with e
          injection e with e1 e2
          subst e1; subst e2
          exact .inr ⟨i, z, rfl, hz', g0'⟩
      go_upto_region 6 with (fail)
      obtain ⟨v, hv⟩ : ∃ v, v = wr.alloc (.cells #[.string y.key, .string y.value] 76) := ⟨_, rfl⟩
      rw [← hv]
      have hbv : Below wr.heap.size wr v := by rw [hv]; exact (Below.refl _ _).alloc (Nat.le_refl _) _
      have HLv := Lib.hid (HL.out.trans (hbv.mono HL.out.size))
      have HBv := Lib.hid (blk_keep hbv HB.out hz)
      have HYv : Hid (v.heap[wr.heap.size]? = some (.cells #[.string y.key, .string y.value] 76 (0, 0))) := by show _ = _; rw [hv]; exact blk_new _ _ _
      have hzv : wr.heap.size < v.heap.size := blk_lt HYv.out
      have hprev : (j = 0 ∨ ∃ (i : Nat) (z : MWrite), j = i + 1 ∧ x.writes[i]? = some z ∧ v.cell? ⟨b, off + i * 2, none⟩ = some (.string z.key)) := by
        rcases hprev0 with h | ⟨i, z, h1, h2, h3⟩
        · exact .inl h
        · exact .inr ⟨i, z, h1, h2, (hbv.cell (p := ⟨b, off + i * 2, none⟩) hbz).trans h3⟩
      clear hv hbv hc0 hf0 g0 g1 hprev0
      obtain ⟨gx, hgx⟩ : ∃ gx, gx = w.heap.size := ⟨_, rfl⟩
      obtain ⟨gy, hgy⟩ : ∃ gy, gy = wr.heap.size := ⟨_, rfl⟩
      rw [← hgx] at HBv
      rw [← hgy] at HYv
      rw [← hgx, ← hgy]
      have HGX := Lib.hid hgx
      clear hgx hgy
      obtain ⟨hcx, hfx⟩ := blk_read HBv.out
      obtain ⟨hcy, hfy⟩ := blk_read HYv.out
      have hzx := blk_lt HBv.out
      have hzy := blk_lt HYv.out
      have hbz' : b < v.heap.size := by omega
      have q1 : ∀ u : Grown v, u.w.cell? ⟨gx, 3, none⟩ = some (.slice (some ⟨b, off, none⟩) n c) := fun u => grown_cell u hzx (by simpa using hcx 3)
      have q2 : ∀ u : Grown v, u.w.cell? ⟨gy, 0, none⟩ = some (.string y.key) := fun u => grown_cell u hzy (by simpa using hcy 0)
      have q3 : ∀ u : Grown v, u.w.cell? ⟨gy, 1, none⟩ = some (.string y.value) := fun u => grown_cell u hzy (by simpa using hcy 1)
      cases hk : keyB y.key
      · have HE : Hid (clientB x clock = false) := clientB_writes (writes_bad HY.out (.inl hk))
        clear hprev
        refine wp_region_grown (by kernel_rfl) (by kernel_rfl) ?_
        repeat (go_big_quiet_step ((go_at_call 50; exact grown_call (key_any _ _))))
        refine wpQuiet_nil ?_
        rintro _ ⟨⟨w2, hb'⟩, rfl⟩
        clear q1 q2 q3
        go_wp2_with fail
        go_ret
        rw [HE.out]
        exact ⟨rfl, HLv.out.trans (hb'.mono HLv.out.size)⟩
      by_cases hv : y.value.size ≤ 20
      rotate_left
      · have HE : Hid (clientB x clock = false) := clientB_writes (writes_bad HY.out (.inr (by omega)))
        have hv1 : decide ((20 : Int) < (y.value.size : Int)) = true := decide_eq_true (by omega)
        clear hprev
        refine wp_region_grown (by kernel_rfl) (by kernel_rfl) ?_
        repeat (go_big_quiet_step ((go_at_call 50; exact grown_call (key_any _ _))))
        refine wpQuiet_nil ?_
        rintro _ ⟨⟨w2, hb'⟩, rfl⟩
        clear q1 q2 q3
        go_wp2_with fail
        go_ret
        rw [HE.out]
        exact ⟨rfl, HLv.out.trans (hb'.mono HLv.out.size)⟩
      have hv1 : decide ((20 : Int) < (y.value.size : Int)) = false := decide_eq_false (by omega)
      rcases hprev with rfl | ⟨i, z, rfl, hz', hcz⟩
      · have HW : Hid (WritesGood (x.writes.take (0 + 1))) := writes_more HGO.out HY.out hk hv (.inl rfl)
        refine wp_region_grown (by kernel_rfl) (by kernel_rfl) ?_
        repeat (go_big_quiet_step ((go_at_call 50; exact grown_call (key_any _ _))))
        refine wpQuiet_nil ?_
        rintro _ ⟨⟨w2, hb'⟩, rfl⟩
        clear q1 q2 q3
        go_wp2_with fail
        obtain rfl := HGX.out
        go_roundw
        case rel => exact ⟨⟨0 + 1, by omega, by go_num, HW.out⟩, HLv.out.trans (hb'.mono HLv.out.size), blk_keep hb' HBv.out hzx⟩
        case measure => simp [intOf]; omega
      · have q4 : ∀ u : Grown v, u.w.cell? ⟨b, off + i * 2, none⟩ = some (.string z.key) := fun u => grown_cell u hbz' hcz
        have hgd : decide ((0 : Int) < (i : Int) + 1) = true := decide_eq_true (by omega)
        have hwr : IntKind.i64.wrap (i : Int) = i := IntWalk.i64_in _ (by omega)
        have hjn : (i : Int) < n := by omega
        have hj0 : (0 : Int) ≤ (i : Int) := by omega
        have HZ := Lib.hid hz'
        clear hz'
        cases hcmp : Op.bytesLess z.key.toList y.key.toList
        · have HE : Hid (clientB x clock = false) := clientB_writes (writes_order HZ.out HY.out hcmp)
          refine wp_region_grown (by kernel_rfl) (by kernel_rfl) ?_
          repeat (go_big_quiet_step ((go_at_call 50; exact grown_call (key_any _ _))))
          refine wpQuiet_nil ?_
          rintro _ ⟨⟨w2, hb'⟩, rfl⟩
          clear q1 q2 q3 q4
          go_wp2_with fail
          go_ret
          rw [HE.out]
          exact ⟨rfl, HLv.out.trans (hb'.mono HLv.out.size)⟩
        · have HW : Hid (WritesGood (x.writes.take (i + 1 + 1))) := writes_more HGO.out HY.out hk hv (.inr ⟨i, z, rfl, HZ.out, hcmp⟩)
          refine wp_region_grown (by kernel_rfl) (by kernel_rfl) ?_
          repeat (go_big_quiet_step ((go_at_call 50; exact grown_call (key_any _ _))))
          refine wpQuiet_nil ?_
          rintro _ ⟨⟨w2, hb'⟩, rfl⟩
          clear q1 q2 q3 q4
          go_wp2_with fail
          obtain rfl := HGX.out
          go_roundw
          case rel => exact ⟨⟨i + 1 + 1, by omega, by go_num, HW.out⟩, HLv.out.trans (hb'.mono HLv.out.size), blk_keep hb' HBv.out hzx⟩
          case measure => simp [intOf]; omega
    · obtain rfl : j = n := by omega
      have HE : Hid (clientB x clock = phaseB x clock) := clientB_phase (by rw [Hn.out]; exact h6) (by rw [Hn.out]; exact HGO.out)
      clear hc0 hf0 hz hsm hd hj hlt
      obtain ⟨hc0, hf0⟩ := blk_read HB.out
      have hn : x.writes.length = j := Hn.out
      have HN := Lib.hid hn
      clear hn
      go_wp2_with fail
      all_goals
        go_ret
        refine ⟨ret_bool ?_, HL.out⟩
        rw [HE.out]
        clear hc0 hf0 HE HL HB H Hn HGO
        have hn := HN.out
        clear HN
        simp only [beq_iff_eq, beq_eq_false_iff_ne, ne_eq] at *
        rw [Bool.eq_iff_iff, phaseB_iff]
        simp only [Bool.false_eq_true, decide_eq_true_eq, beq_iff_eq, hn]
        refine ⟨fun h => ?_, fun h => ?_⟩ <;> first | exact (h : False).elim | omega
end Go.Proofs.Ytniomgngiiiklab

/- The walk of txn.Check. -/
namespace Go.Proofs.Ytniomgngiiiklab
open Go.RowKit

theorem RowOk.grown {v : World} {r : MRow} {A : Option Addr} {n c : Nat} (h : RowOk v v.heap.size r A n c) (u : Grown v) : RowOk u.w u.w.heap.size r A n c := (h.below u.below (Nat.le_refl _)).more u.below.size
/-- What the test of row k says. -/
def RowTest (M : MWorld) (k : Nat) (r : MRow) (T : Bool) : Prop :=
  (T = true → worldB M = false) ∧ (T = false → rowB r = true ∧ r.ls ≤ M.clock ∧ (k = 0 ∨ ∃ j y, k = j + 1 ∧ M.rows[j]? = some y ∧ ltK y.key r.key = true))
theorem okCode_true : okCode true = 0 := rfl
theorem okCode_false : okCode false = 6 := rfl
set_option maxRecDepth 100000 in
set_option maxHeartbeats 4000000 in
theorem txnCheck_any (M : MWorld) (A A' : Option Addr) (n c n' c' : Nat) (w : World) (hr : RowsOk w w.heap.size A n c M.rows) (hc : ClientsOk w w.heap.size A' n' c' M.clients) :
    Calls Try.prog 21 #[.agg #[.slice A n c, .int .i64 M.clock, .slice A' n' c']] w fun e w' => e = .returned (.int .i64 (okCode (worldB M))) ∧ Below w.heap.size w w' := by
  have HR := Lib.hid hr
  have HC := Lib.hid hc
  have hn := hr.len
  have hn' := hc.len
  clear hr hc
  by_cases hbad : 40 < n ∨ 5 < n' ∨ M.clock < 0 ∨ 1099511627376 < M.clock
  · have HE : Hid (okCode (worldB M) = 6) := by show _ = _; rw [world_head_bad (by rw [hn, hn']; exact hbad)]; rfl
    have hx : 40 < n ∨ (n ≤ 40 ∧ 5 < n') ∨ (n ≤ 40 ∧ n' ≤ 5 ∧ M.clock < 0) ∨ (n ≤ 40 ∧ n' ≤ 5 ∧ 0 ≤ M.clock ∧ 1099511627376 < M.clock) := by omega
    clear hbad hn hn'
    rcases hx with h1 | ⟨h1, h2⟩ | ⟨h1, h2, h3⟩ | ⟨h1, h2, h3, h4⟩
    · have d1 : decide ((40 : Int) < (n : Int)) = true := decide_eq_true (by omega)
      go_enter Try.func21, Try.ntmps21
      go_wp2_with fail
      go_ret
      rw [HE.out]
      exact ⟨rfl, (Below.refl _ _).alloc (Nat.le_refl _) _⟩
    · have d1 : decide ((40 : Int) < (n : Int)) = false := decide_eq_false (by omega)
      have d2 : decide ((5 : Int) < (n' : Int)) = true := decide_eq_true (by omega)
      go_enter Try.func21, Try.ntmps21
      go_wp2_with fail
      go_ret
      rw [HE.out]
      exact ⟨rfl, (Below.refl _ _).alloc (Nat.le_refl _) _⟩
    · have d1 : decide ((40 : Int) < (n : Int)) = false := decide_eq_false (by omega)
      have d2 : decide ((5 : Int) < (n' : Int)) = false := decide_eq_false (by omega)
      go_enter Try.func21, Try.ntmps21
      go_wp2_with fail
      go_ret
      rw [HE.out]
      exact ⟨rfl, (Below.refl _ _).alloc (Nat.le_refl _) _⟩
    · have d1 : decide ((40 : Int) < (n : Int)) = false := decide_eq_false (by omega)
      have d2 : decide ((5 : Int) < (n' : Int)) = false := decide_eq_false (by omega)
      go_enter Try.func21, Try.ntmps21
      go_wp2_with fail
      go_ret
      rw [HE.out]
      exact ⟨rfl, (Below.refl _ _).alloc (Nat.le_refl _) _⟩
  have d1 : decide ((40 : Int) < (n : Int)) = false := decide_eq_false (by omega)
  have d2 : decide ((5 : Int) < (n' : Int)) = false := decide_eq_false (by omega)
  have h3 : 0 ≤ M.clock := by omega
  have h4 : M.clock ≤ 1099511627376 := by omega
  have h1 : n ≤ 40 := by omega
  have h2 : n' ≤ 5 := by omega
  have HN := Lib.hid hn
  have HN' := Lib.hid hn'
  clear hbad hn hn'
  go_enter Try.func21, Try.ntmps21
  go_wp2_with fail
  go_loopw [32] (fun i wr => (∃ k : Nat, k ≤ n ∧ i = .int .i64 k ∧ RowsPre M.clock (M.rows.take k)) ∧ Below w.heap.size w wr ∧ wr.heap[w.heap.size]? = some (.cells #[.slice A n c, .int .i64 M.clock, .slice A' n' c'] 36 (0, 0))) (fun i _ => n - (intOf i).toNat)
  case atStart => exact ⟨⟨0, Nat.zero_le _, rfl, rows_pre_nil _⟩, (Below.refl _ _).alloc (Nat.le_refl _) _, blk_new _ _ _⟩
  case round =>
    obtain ⟨⟨k, hk, rfl, hpre⟩, hbel, hblk⟩ := hrel
    have HP := Lib.hid hpre
    have HL := Lib.hid hbel
    have HB := Lib.hid hblk
    clear hpre hbel hblk d1 d2
    obtain ⟨hc0, hf0⟩ := blk_read HB.out
    have hz := blk_lt HB.out
    by_cases hlt : k < n
    · obtain ⟨r, b, off, A1, n1, c1, hr, rfl, hbb, hok, g0, g1, g2, g3, g4⟩ := (HR.out.below HL.out (Nat.le_refl _)).row hlt
      have HRR := Lib.hid hr
      have HOK := Lib.hid (hok.more (Nat.le_of_lt hz))
      have hbz : b < wr.heap.size := by omega
      have hprev0 : (k = 0 ∨ ∃ (i : Nat) (z : MRow), k = i + 1 ∧ M.rows[i]? = some z ∧ wr.cell? ⟨b, off + i * 5, none⟩ = some (.string z.key)) := by
        rcases k with _ | i
        · exact .inl rfl
        · obtain ⟨z, b', off', _, _, _, hz', e, _, _, g0', _⟩ := (HR.out.below HL.out (Nat.le_refl _)).row (show i < n by omega)
          injection e with e
          injection e with e1 e2
          subst e1; subst e2
          exact .inr ⟨i, z, rfl, hz', g0'⟩
      clear hr hok
      go_upto_region 6 with (fail)
      obtain ⟨v, hv⟩ : ∃ v, v = wr.alloc (.cells #[.string r.key, .int .i64 r.ls, .string r.lp, .string r.value, .slice A1 n1 c1] 26) := ⟨_, rfl⟩
      rw [← hv]
      have hbv : Below wr.heap.size wr v := by rw [hv]; exact (Below.refl _ _).alloc (Nat.le_refl _) _
      have HLv := Lib.hid (HL.out.trans (hbv.mono HL.out.size))
      have HBv := Lib.hid (blk_keep hbv HB.out hz)
      have HYv : Hid (v.heap[wr.heap.size]? = some (.cells #[.string r.key, .int .i64 r.ls, .string r.lp, .string r.value, .slice A1 n1 c1] 26 (0, 0))) := by show _ = _; rw [hv]; exact blk_new _ _ _
      have HOKv := Lib.hid ((HOK.out.below hbv (Nat.le_refl _)).more hbv.size)
      have hprev : (k = 0 ∨ ∃ (i : Nat) (z : MRow), k = i + 1 ∧ M.rows[i]? = some z ∧ v.cell? ⟨b, off + i * 5, none⟩ = some (.string z.key)) := by
        rcases hprev0 with h | ⟨i, z, h1, h2, h3⟩
        · exact .inl h
        · exact .inr ⟨i, z, h1, h2, (hbv.cell (p := ⟨b, off + i * 5, none⟩) hbz).trans h3⟩
      clear hv hc0 hf0 g0 g1 g2 g3 g4 hprev0
      have hzx := blk_lt HBv.out
      have hzy := blk_lt HYv.out
      have hbz' : b < v.heap.size := by have := hbv.size; omega
      obtain ⟨hcx, hfx⟩ := blk_read HBv.out
      obtain ⟨hcy, hfy⟩ := blk_read HYv.out
      clear hbv
      go_cut [63] (fun t wx => ∃ T : Bool, t = .bool T ∧ RowTest M k r T ∧ Below v.heap.size v wx)
      case first =>
        have q0 : ∀ u : Grown v, u.w.cell? ⟨wr.heap.size, 0, none⟩ = some (.string r.key) := fun u => grown_cell u hzy (by simpa using hcy 0)
        have q1 : ∀ u : Grown v, u.w.cell? ⟨wr.heap.size, 1, none⟩ = some (.int .i64 r.ls) := fun u => grown_cell u hzy (by simpa using hcy 1)
        have q2 : ∀ u : Grown v, u.w.cell? ⟨wr.heap.size, 2, none⟩ = some (.string r.lp) := fun u => grown_cell u hzy (by simpa using hcy 2)
        have q3 : ∀ u : Grown v, u.w.cell? ⟨wr.heap.size, 3, none⟩ = some (.string r.value) := fun u => grown_cell u hzy (by simpa using hcy 3)
        have q4 : ∀ u : Grown v, u.w.cell? ⟨wr.heap.size, 4, none⟩ = some (.slice A1 n1 c1) := fun u => grown_cell u hzy (by simpa using hcy 4)
        have q5 : ∀ u : Grown v, u.w.cell? ⟨w.heap.size, 0, none⟩ = some (.slice (some ⟨b, off, none⟩) n c) := fun u => grown_cell u hzx (by simpa using hcx 0)
        have q6 : ∀ u : Grown v, u.w.cell? ⟨w.heap.size, 1, none⟩ = some (.int .i64 M.clock) := fun u => grown_cell u hzx (by simpa using hcx 1)
        cases hrb : rowB r
        · have HW := Lib.hid (world_row_bad HRR.out (.inl hrb))
          clear hprev
          refine wp_region_grown (by kernel_rfl) (by kernel_rfl) ?_
          repeat (go_big_quiet_step ((go_at_call 38; refine grown_call ((check_any r A1 n1 c1 _ (HOKv.out.grown _).recs.at_ (by have := HOKv.out.recs.small; unfold maxLen; omega)).mono (fun _ _ h => (by rw [hrb, okCode_false] at h; exact h))))))
          refine wpQuiet_nil ?_
          rintro _ ⟨⟨w2, hb'⟩, rfl⟩
          clear q0 q1 q2 q3 q4 q5 q6
          go_wp2_with fail
          go_meet
          exact ⟨true, rfl, ⟨fun _ => HW.out, fun h => by cases h⟩, hb'⟩
        have HRB := Lib.hid hrb
        clear hrb
        rcases hprev with rfl | ⟨i, z, rfl, hz', hcz⟩
        · by_cases hls : r.ls ≤ M.clock
          · have hd : decide (M.clock < r.ls) = false := decide_eq_false (by omega)
            have HLS := Lib.hid hls
            clear hls
            refine wp_region_grown (by kernel_rfl) (by kernel_rfl) ?_
            repeat (go_big_quiet_step ((go_at_call 38; refine grown_call ((check_any r A1 n1 c1 _ (HOKv.out.grown _).recs.at_ (by have := HOKv.out.recs.small; unfold maxLen; omega)).mono (fun _ _ h => (by rw [HRB.out, okCode_true] at h; exact h))))))
            refine wpQuiet_nil ?_
            rintro _ ⟨⟨w2, hb'⟩, rfl⟩
            clear q0 q1 q2 q3 q4 q5 q6
            go_wp2_with fail
            go_meet
            exact ⟨false, rfl, ⟨(fun h => by cases h), fun _ => ⟨HRB.out, HLS.out, .inl rfl⟩⟩, hb'⟩
          · have hd : decide (M.clock < r.ls) = true := decide_eq_true (by omega)
            have HW := Lib.hid (world_row_bad HRR.out (.inr (by omega)))
            clear hls
            refine wp_region_grown (by kernel_rfl) (by kernel_rfl) ?_
            repeat (go_big_quiet_step ((go_at_call 38; refine grown_call ((check_any r A1 n1 c1 _ (HOKv.out.grown _).recs.at_ (by have := HOKv.out.recs.small; unfold maxLen; omega)).mono (fun _ _ h => (by rw [HRB.out, okCode_true] at h; exact h))))))
            refine wpQuiet_nil ?_
            rintro _ ⟨⟨w2, hb'⟩, rfl⟩
            clear q0 q1 q2 q3 q4 q5 q6
            go_wp2_with fail
            go_meet
            exact ⟨true, rfl, ⟨fun _ => HW.out, fun h => by cases h⟩, hb'⟩
        · have q7 : ∀ u : Grown v, u.w.cell? ⟨b, off + i * 5, none⟩ = some (.string z.key) := fun u => grown_cell u hbz' hcz
          have hgd : decide ((0 : Int) < (i : Int) + 1) = true := decide_eq_true (by omega)
          have hwr : IntKind.i64.wrap (i : Int) = i := IntWalk.i64_in _ (by omega)
          have hjn : (i : Int) < n := by omega
          have hj0 : (0 : Int) ≤ (i : Int) := by omega
          have HZ := Lib.hid hz'
          clear hz'
          cases hcmp : Op.bytesLess z.key.toList r.key.toList
          · have HW := Lib.hid (world_order HZ.out HRR.out hcmp)
            refine wp_region_grown (by kernel_rfl) (by kernel_rfl) ?_
            repeat (go_big_quiet_step ((go_at_call 38; refine grown_call ((check_any r A1 n1 c1 _ (HOKv.out.grown _).recs.at_ (by have := HOKv.out.recs.small; unfold maxLen; omega)).mono (fun _ _ h => (by rw [HRB.out, okCode_true] at h; exact h))))))
            refine wpQuiet_nil ?_
            rintro _ ⟨⟨w2, hb'⟩, rfl⟩
            clear q0 q1 q2 q3 q4 q5 q6
            go_wp2_with fail
            go_meet
            exact ⟨true, rfl, ⟨fun _ => HW.out, fun h => by cases h⟩, hb'⟩
          by_cases hls : r.ls ≤ M.clock
          · have hd : decide (M.clock < r.ls) = false := decide_eq_false (by omega)
            have HLS := Lib.hid hls
            clear hls
            refine wp_region_grown (by kernel_rfl) (by kernel_rfl) ?_
            repeat (go_big_quiet_step ((go_at_call 38; refine grown_call ((check_any r A1 n1 c1 _ (HOKv.out.grown _).recs.at_ (by have := HOKv.out.recs.small; unfold maxLen; omega)).mono (fun _ _ h => (by rw [HRB.out, okCode_true] at h; exact h))))))
            refine wpQuiet_nil ?_
            rintro _ ⟨⟨w2, hb'⟩, rfl⟩
            clear q0 q1 q2 q3 q4 q5 q6
            go_wp2_with fail
            go_meet
            exact ⟨false, rfl, ⟨(fun h => by cases h), fun _ => ⟨HRB.out, HLS.out, .inr ⟨i, z, rfl, HZ.out, hcmp⟩⟩⟩, hb'⟩
          · have hd : decide (M.clock < r.ls) = true := decide_eq_true (by omega)
            have HW := Lib.hid (world_row_bad HRR.out (.inr (by omega)))
            clear hls
            refine wp_region_grown (by kernel_rfl) (by kernel_rfl) ?_
            repeat (go_big_quiet_step ((go_at_call 38; refine grown_call ((check_any r A1 n1 c1 _ (HOKv.out.grown _).recs.at_ (by have := HOKv.out.recs.small; unfold maxLen; omega)).mono (fun _ _ h => (by rw [HRB.out, okCode_true] at h; exact h))))))
            refine wpQuiet_nil ?_
            rintro _ ⟨⟨w2, hb'⟩, rfl⟩
            clear q0 q1 q2 q3 q4 q5 q6
            go_wp2_with fail
            go_meet
            exact ⟨true, rfl, ⟨fun _ => HW.out, fun h => by cases h⟩, hb'⟩
      case rest =>
        obtain ⟨T, rfl, hT, hb'⟩ := hcut
        have HT := Lib.hid hT
        have HLc := Lib.hid (HLv.out.trans (hb'.mono HLv.out.size))
        have HBc := Lib.hid (blk_keep hb' HBv.out hzx)
        have HYc := Lib.hid (blk_keep hb' HYv.out hzy)
        have HOKc := Lib.hid ((HOKv.out.below hb' (Nat.le_refl _)).more hb'.size)
        clear hT hb' hcx hfx hcy hfy hprev
        cases T
        rotate_left
        · have HE : Hid (okCode (worldB M) = 6) := by show _ = _; rw [HT.out.1 rfl]; rfl
          go_wp2_with fail
          go_ret
          rw [HE.out]
          exact ⟨rfl, HLc.out⟩
        obtain ⟨hcy, hfy⟩ := blk_read HYc.out
        have hsm := HOKc.out.recs.small
        have hn1 := HOKc.out.recs.at_.1
        have HN1 := Lib.hid hn1
        have hkk : k < M.rows.length := by rw [HN.out]; exact hlt
        clear hn1
        go_wp2_with fail
        obtain ⟨wo, ho⟩ : ∃ wo : World, wo = wr := ⟨_, rfl⟩
        subst ho
        clear hcy hfy
        go_loopw [67] (fun i ws => (∃ m : Nat, m ≤ n1 ∧ i = .int .i64 m ∧ ∀ y ∈ r.recs.take m, y.start ≤ M.clock ∧ y.commit ≤ M.clock) ∧ Below w.heap.size w ws ∧ Below wc.heap.size wc ws) (fun i _ => n1 - (intOf i).toNat)
        case atStart => exact ⟨⟨0, Nat.zero_le _, rfl, fun y hy => (List.not_mem_nil hy).elim⟩, HLc.out, Below.refl _ _⟩
        case round =>
          obtain ⟨⟨m, hm, rfl, hall⟩, hbel, hbel2⟩ := hrel
          have HA := Lib.hid hall
          have HL2 := Lib.hid hbel
          have HL3 := Lib.hid hbel2
          have HB2 := Lib.hid (blk_keep hbel2 HBc.out (blk_lt HBc.out))
          clear hall hbel hbel2
          obtain ⟨hc0, hf0⟩ := blk_read HB2.out
          have hz2 := blk_lt HB2.out
          by_cases hlt2 : m < n1
          · obtain ⟨x, b2, off2, hx, rfl, hb2, e0, e1, e2⟩ := (HOKc.out.recs.at_.below HL3.out (Nat.le_refl _)).at_ hlt2
            have HX := Lib.hid hx
            clear hx
            by_cases h5 : x.start ≤ M.clock
            · have d5 : decide (M.clock < x.start) = false := decide_eq_false (by omega)
              by_cases h6 : x.commit ≤ M.clock
              · have d6 : decide (M.clock < x.commit) = false := decide_eq_false (by omega)
                have HNX := Lib.hid (recs_more HA.out HX.out h5 h6)
                clear h5 h6
                go_wp2_with fail
                go_roundw
                case rel => exact ⟨⟨m + 1, by omega, by go_num, HNX.out⟩, HL2.out.alloc HL2.out.size _, HL3.out.alloc HL3.out.size _⟩
                case measure => simp [intOf]; omega
              · have d6 : decide (M.clock < x.commit) = true := decide_eq_true (by omega)
                have HE : Hid (okCode (worldB M) = 6) := by show _ = _; rw [world_rec_bad HRR.out HX.out (.inr (by omega))]; rfl
                clear h5 h6
                go_wp2_with fail
                go_ret
                rw [HE.out]
                exact ⟨rfl, HL2.out.alloc HL2.out.size _⟩
            · have d5 : decide (M.clock < x.start) = true := decide_eq_true (by omega)
              have HE : Hid (okCode (worldB M) = 6) := by show _ = _; rw [world_rec_bad HRR.out HX.out (.inl (by omega))]; rfl
              clear h5
              go_wp2_with fail
              go_ret
              rw [HE.out]
              exact ⟨rfl, HL2.out.alloc HL2.out.size _⟩
          · obtain rfl : m = n1 := by omega
            have HNX : Hid (RowsPre M.clock (M.rows.take (k + 1))) := by
              obtain ⟨t1, t2, t3⟩ := HT.out.2 rfl
              refine rows_more HP.out HRR.out t1 ⟨t2, ?_⟩ t3
              have := HA.out
              rwa [List.take_of_length_le (by rw [HN1.out]; exact Nat.le_refl _)] at this
            go_wp2_with fail
            go_roundw
            case rel => exact ⟨⟨k + 1, by omega, by go_num, HNX.out⟩, HL2.out, HB2.out⟩
            case measure => simp [intOf]; omega
    · obtain rfl : k = n := by omega
      have HPR : Hid (RowsPre M.clock M.rows) := by
        have := HP.out
        rwa [List.take_of_length_le (by rw [HN.out]; exact Nat.le_refl _)] at this
      clear hlt hk
      go_wp2_with fail
      obtain ⟨wo, ho⟩ : ∃ wo : World, wo = wr := ⟨_, rfl⟩
      subst ho
      have HLo := Lib.hid HL.out
      have HBo := Lib.hid HB.out
      clear HL HB hc0 hf0 hz
      go_loopw [88] (fun i ws => (∃ m : Nat, m ≤ n' ∧ i = .int .i64 m ∧ ∀ y ∈ M.clients.take m, clientB y M.clock = true) ∧ Below w.heap.size w ws ∧ ws.heap[w.heap.size]? = some (.cells #[.slice A k c, .int .i64 M.clock, .slice A' n' c'] 36 (0, 0))) (fun i _ => n' - (intOf i).toNat)
      case atStart => exact ⟨⟨0, Nat.zero_le _, rfl, fun y hy => (List.not_mem_nil hy).elim⟩, HLo.out, HBo.out⟩
      case round =>
        obtain ⟨⟨m, hm, rfl, hall⟩, hbel, hblk⟩ := hrel
        have HA := Lib.hid hall
        have HL := Lib.hid hbel
        have HB := Lib.hid hblk
        clear hall hbel hblk
        obtain ⟨hc0, hf0⟩ := blk_read HB.out
        have hz := blk_lt HB.out
        by_cases hlt : m < n'
        · obtain ⟨x, b, off, A1, n1, c1, hx, rfl, hbb, hok, g0, g1, g2, g3, g4⟩ := (HC.out.below HL.out (Nat.le_refl _)).client hlt
          have HX := Lib.hid hx
          have HOK := Lib.hid hok.writes
          clear hx hok
          go_wp2_with fail
          have hbv := (Below.refl wo.heap.size wo)
          refine (client_any x M.clock A1 n1 c1 _ ((HOK.out.below ((Below.refl _ _).alloc (Nat.le_refl _) _) (Nat.le_of_lt hz)).more (by simp; omega))).mono ?_
          rintro e w2 ⟨rfl, hb⟩
          have hb1 := ((Below.refl wr.heap.size wr).alloc (Nat.le_refl _) (.cells #[.int .i64 x.phase, .int .i64 x.start, .int .i64 x.commit, .slice A1 n1 c1, .int .i64 x.at_] 58)).trans (hb.mono (by simp))
          have HL2 := Lib.hid (HL.out.trans (hb1.mono HL.out.size))
          have HB2 := Lib.hid (blk_keep hb1 HB.out hz)
          clear hb hb1 hc0 hf0 g0 g1 g2 g3 g4 hbv
          cases hcb : clientB x M.clock
          · have HE : Hid (okCode (worldB M) = 6) := by show _ = _; rw [world_client_bad HX.out hcb]; rfl
            go_wp2_with fail
            go_ret
            rw [HE.out]
            exact ⟨rfl, HL2.out⟩
          · have HNX := Lib.hid (clients_more HA.out HX.out hcb)
            go_wp2_with fail
            go_roundw
            case rel => exact ⟨⟨m + 1, by omega, by go_num, HNX.out⟩, HL2.out, HB2.out⟩
            case measure => simp [intOf]; omega
        · obtain rfl : m = n' := by omega
          have HE : Hid (okCode (worldB M) = 0) := by
            show _ = _
            have hcl := HA.out
            rw [List.take_of_length_le (by rw [HN'.out]; exact Nat.le_refl _)] at hcl
            rw [world_all (by rw [HN.out]; exact h1) (by rw [HN'.out]; exact h2) ⟨h3, h4⟩ HPR.out hcl]; rfl
          go_wp2_with fail
          go_ret
          rw [HE.out]
          exact ⟨rfl, HL.out⟩
end Go.Proofs.Ytniomgngiiiklab
