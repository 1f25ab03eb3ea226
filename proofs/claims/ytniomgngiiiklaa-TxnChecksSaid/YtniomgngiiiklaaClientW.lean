/- Tests of writes, rows, records and clients one by one: what holds of the first few; no program in sight. -/
import Derived.Test.YtniomgngiiiklaaWorld
import Derived.Test.YtniomgngiiiklaaOwn
import Derived.Test.YtniomgngiiiklaaSearch
import Derived.Deep.DeepCutAuto
import Derived.Test.YtniomgngiiiklaaRep
import Derived.StillTailTactics
import Derived.Deep.CutBlock
import Derived.Outline
namespace Go.Proofs.Ytniomgngiiiklaa
theorem take_one_more {α : Type} {l : List α} {k : Nat} {x : α} (h : l[k]? = some x) : l.take (k + 1) = l.take k ++ [x] := by
  obtain ⟨hl, rfl⟩ := List.getElem?_eq_some_iff.1 h
  exact (List.take_append_getElem hl).symm
theorem last_of_take {α : Type} {f : α → ByteArray} {l : List α} {j : Nat} {y : α} (hp : (l.take (j + 1)).Pairwise fun a b => ltK (f a) (f b) = true) (hy : l[j]? = some y) : ∀ z ∈ l.take (j + 1), z = y ∨ ltK (f z) (f y) = true := by
  rw [take_one_more hy] at hp ⊢
  intro z hz
  rcases List.mem_append.1 hz with hz | hz
  · exact .inr ((List.pairwise_append.1 hp).2.2 z hz y List.mem_cons_self)
  · simp at hz; exact .inl hz
theorem sorted_more {α : Type} {f : α → ByteArray} {l : List α} {k : Nat} {x : α} (hp : (l.take k).Pairwise fun a b => ltK (f a) (f b) = true) (hx : l[k]? = some x) (h : k = 0 ∨ ∃ j y, k = j + 1 ∧ l[j]? = some y ∧ ltK (f y) (f x) = true) :
    (l.take (k + 1)).Pairwise fun a b => ltK (f a) (f b) = true := by
  rw [take_one_more hx]
  refine List.pairwise_append.2 ⟨hp, List.pairwise_singleton _ _, fun a ha b hb => ?_⟩
  simp at hb; subst hb
  rcases h with rfl | ⟨j, y, rfl, hy, hlt⟩
  · simp at ha
  · rcases last_of_take hp hy a ha with rfl | h'
    · exact hlt
    · exact ltK_trans h' hlt
theorem sorted_not {α : Type} {f : α → ByteArray} {l : List α} {j : Nat} {x y : α} (hy : l[j]? = some y) (hx : l[j + 1]? = some x) (h : ltK (f y) (f x) = false) : ¬ l.Pairwise fun a b => ltK (f a) (f b) = true := by
  intro hp
  obtain ⟨h1, rfl⟩ := List.getElem?_eq_some_iff.1 hy
  obtain ⟨h2, rfl⟩ := List.getElem?_eq_some_iff.1 hx
  have := List.pairwise_iff_getElem.1 hp j (j + 1) h1 h2 (by omega)
  rw [h] at this; cases this

/-! ### writes -/
theorem writes_more {ws : List MWrite} {k : Nat} {x : MWrite} (h : WritesGood (ws.take k)) (hx : ws[k]? = some x) (hk : keyB x.key = true) (hv : x.value.size ≤ 20) (hp : k = 0 ∨ ∃ j y, k = j + 1 ∧ ws[j]? = some y ∧ ltK y.key x.key = true) : WritesGood (ws.take (k + 1)) := by
  refine ⟨fun z hz => ?_, sorted_more (f := MWrite.key) h.2 hx hp⟩
  rw [take_one_more hx] at hz
  rcases List.mem_append.1 hz with hz | hz
  · exact h.1 z hz
  · simp at hz; subst hz; exact ⟨hk, hv⟩
theorem writesB_not {ws : List MWrite} (h : ¬ WritesGood ws) : writesB ws = false := by
  cases hb : writesB ws with
  | false => rfl
  | true => exact absurd (writesB_iff.1 hb) h
theorem writes_bad {ws : List MWrite} {k : Nat} {x : MWrite} (hx : ws[k]? = some x) (h : keyB x.key = false ∨ 20 < x.value.size) : writesB ws = false :=
  writesB_not fun hg => by
    obtain ⟨h1, h2⟩ := hg.1 x (List.mem_of_getElem? hx)
    rcases h with h | h
    · rw [h] at h1; cases h1
    · omega
theorem writes_order {ws : List MWrite} {j : Nat} {x y : MWrite} (hy : ws[j]? = some y) (hx : ws[j + 1]? = some x) (h : ltK y.key x.key = false) : writesB ws = false :=
  writesB_not fun hg => sorted_not (f := MWrite.key) hy hx h hg.2
theorem clientB_few {x : MClient} {clock : Int} (h : 6 < x.writes.length) : clientB x clock = false := by
  unfold clientB; rw [decide_eq_false (by omega)]; rfl
theorem clientB_writes {x : MClient} {clock : Int} (h : writesB x.writes = false) : clientB x clock = false := by
  unfold clientB; rw [h]; simp
/-- What is left behind the writes. -/
def phaseB (x : MClient) (clock : Int) : Bool :=
  if x.phase = 0 then decide (x.start = 0 ∧ x.commit = 0 ∧ x.writes.length = 0 ∧ x.at_ = 0)
    else if x.phase = 1 then decide ((1 ≤ x.start ∧ x.start ≤ clock) ∧ x.commit = 0 ∧ x.at_ = 0)
    else if x.phase = 2 then decide ((1 ≤ x.start ∧ x.start ≤ clock) ∧ x.commit = 0 ∧ 0 ≤ x.at_ ∧ x.at_ ≤ x.writes.length ∧ 0 < x.writes.length)
    else if x.phase = 3 then decide ((1 ≤ x.start ∧ x.start ≤ clock) ∧ (x.start < x.commit ∧ x.commit ≤ clock) ∧ x.at_ = 0 ∧ 0 < x.writes.length)
    else if x.phase = 4 then decide ((1 ≤ x.start ∧ x.start ≤ clock) ∧ (x.start < x.commit ∧ x.commit ≤ clock) ∧ 1 ≤ x.at_ ∧ x.at_ < x.writes.length)
    else false
theorem clientB_phase {x : MClient} {clock : Int} (h : x.writes.length ≤ 6) (hg : WritesGood (x.writes.take x.writes.length)) : clientB x clock = phaseB x clock := by
  rw [List.take_length] at hg
  unfold clientB
  rw [decide_eq_true h, writesB_iff.2 hg, Bool.true_and, Bool.true_and]
  rfl

/-! ### rows -/
structure RowsPre (clock : Int) (l : List MRow) : Prop where
  each : ∀ r ∈ l, RowGood r ∧ RowIn clock r
  sorted : l.Pairwise fun a b => ltK a.key b.key = true
theorem rows_pre_nil (clock : Int) : RowsPre clock [] := ⟨fun _ hr => (List.not_mem_nil hr).elim, List.Pairwise.nil⟩
theorem rows_more {clock : Int} {l : List MRow} {k : Nat} {r : MRow} (h : RowsPre clock (l.take k)) (hr : l[k]? = some r) (hg : rowB r = true) (hi : RowIn clock r) (hp : k = 0 ∨ ∃ j y, k = j + 1 ∧ l[j]? = some y ∧ ltK y.key r.key = true) : RowsPre clock (l.take (k + 1)) := by
  refine ⟨fun z hz => ?_, sorted_more (f := MRow.key) h.sorted hr hp⟩
  rw [take_one_more hr] at hz
  rcases List.mem_append.1 hz with hz | hz
  · exact h.each z hz
  · simp at hz; subst hz; exact ⟨rowB_iff.1 hg, hi⟩
theorem worldB_not {M : MWorld} (h : ¬ WorldGood M) : worldB M = false := by
  cases hb : worldB M with
  | false => rfl
  | true => exact absurd (worldB_iff.1 hb) h
theorem world_row_bad {M : MWorld} {k : Nat} {r : MRow} (hr : M.rows[k]? = some r) (h : rowB r = false ∨ M.clock < r.ls) : worldB M = false :=
  worldB_not fun hg => by
    obtain ⟨h1, h2⟩ := hg.rows.each r (List.mem_of_getElem? hr)
    rcases h with h | h
    · rw [rowB_iff.2 h1] at h; cases h
    · have := h2.1; omega
theorem world_order {M : MWorld} {j : Nat} {x y : MRow} (hy : M.rows[j]? = some y) (hx : M.rows[j + 1]? = some x) (h : ltK y.key x.key = false) : worldB M = false :=
  worldB_not fun hg => sorted_not (f := MRow.key) hy hx h hg.rows.sorted
theorem world_rec_bad {M : MWorld} {k i : Nat} {r : MRow} {x : MRec} (hr : M.rows[k]? = some r) (hx : r.recs[i]? = some x) (h : M.clock < x.start ∨ M.clock < x.commit) : worldB M = false :=
  worldB_not fun hg => by
    have := (hg.rows.each r (List.mem_of_getElem? hr)).2.2 x (List.mem_of_getElem? hx)
    omega
theorem world_client_bad {M : MWorld} {k : Nat} {x : MClient} (hx : M.clients[k]? = some x) (h : clientB x M.clock = false) : worldB M = false :=
  worldB_not fun hg => by
    have := hg.clients x (List.mem_of_getElem? hx)
    rw [h] at this; cases this
theorem world_head_bad {M : MWorld} (h : 40 < M.rows.length ∨ 5 < M.clients.length ∨ M.clock < 0 ∨ 1099511627376 < M.clock) : worldB M = false :=
  worldB_not fun hg => by
    have h1 := hg.rows.len
    have h2 := hg.few
    have h3 := hg.clock
    omega
theorem world_all {M : MWorld} (h1 : M.rows.length ≤ 40) (h2 : M.clients.length ≤ 5) (h3 : 0 ≤ M.clock ∧ M.clock ≤ 1099511627376) (hr : RowsPre M.clock M.rows) (hc : ∀ c ∈ M.clients, clientB c M.clock = true) : worldB M = true :=
  worldB_iff.2 ⟨⟨hr.each, hr.sorted, h1⟩, h2, h3, hc⟩
theorem recs_more {clock : Int} {l : List MRec} {k : Nat} {x : MRec} (h : ∀ y ∈ l.take k, y.start ≤ clock ∧ y.commit ≤ clock) (hx : l[k]? = some x) (h1 : x.start ≤ clock) (h2 : x.commit ≤ clock) : ∀ y ∈ l.take (k + 1), y.start ≤ clock ∧ y.commit ≤ clock := by
  intro y hy
  rw [take_one_more hx] at hy
  rcases List.mem_append.1 hy with hy | hy
  · exact h y hy
  · simp at hy; subst hy; exact ⟨h1, h2⟩
theorem clients_more {clock : Int} {l : List MClient} {k : Nat} {x : MClient} (h : ∀ y ∈ l.take k, clientB y clock = true) (hx : l[k]? = some x) (h1 : clientB x clock = true) : ∀ y ∈ l.take (k + 1), clientB y clock = true := by
  intro y hy
  rw [take_one_more hx] at hy
  rcases List.mem_append.1 hy with hy | hy
  · exact h y hy
  · simp at hy; subst hy; exact h1
end Go.Proofs.Ytniomgngiiiklaa

/- The walk of txn.client. -/
namespace Go.Proofs.Ytniomgngiiiklaa
open Go.RowKit

theorem clientB_good {x : MClient} {clock : Int} (h : x.writes.length ≤ 6) (hg : WritesGood (x.writes.take x.writes.length)) : clientB x clock = phaseB x clock := clientB_phase h hg
theorem phaseB_iff {x : MClient} {clock : Int} : phaseB x clock = true ↔
    (x.phase = 0 ∧ x.start = 0 ∧ x.commit = 0 ∧ x.writes.length = 0 ∧ x.at_ = 0) ∨ (x.phase = 1 ∧ (1 ≤ x.start ∧ x.start ≤ clock) ∧ x.commit = 0 ∧ x.at_ = 0) ∨
    (x.phase = 2 ∧ (1 ≤ x.start ∧ x.start ≤ clock) ∧ x.commit = 0 ∧ 0 ≤ x.at_ ∧ x.at_ ≤ x.writes.length ∧ 0 < x.writes.length) ∨
    (x.phase = 3 ∧ (1 ≤ x.start ∧ x.start ≤ clock) ∧ (x.start < x.commit ∧ x.commit ≤ clock) ∧ x.at_ = 0 ∧ 0 < x.writes.length) ∨
    (x.phase = 4 ∧ (1 ≤ x.start ∧ x.start ≤ clock) ∧ (x.start < x.commit ∧ x.commit ≤ clock) ∧ 1 ≤ x.at_ ∧ x.at_ < x.writes.length) := by
  unfold phaseB
  repeat' split
  all_goals
    simp only [decide_eq_true_eq, Bool.false_eq_true]
    refine ⟨fun h => ?_, fun h => ?_⟩ <;> first | exact (h : False).elim | omega
set_option maxRecDepth 100000 in
set_option maxHeartbeats 4000000 in
theorem client_any (x : MClient) (clock : Int) (A : Option Addr) (n c : Nat) (w : World) (h : WritesOk w w.heap.size A n c x.writes) :
    Calls Try.prog 43 #[.agg #[.int .i64 x.phase, .int .i64 x.start, .int .i64 x.commit, .slice A n c, .int .i64 x.at_], .int .i64 clock] w fun e w' => e = .returned (.bool (clientB x clock)) ∧ Below w.heap.size w w' := by
  have H := Lib.hid h
  have Hn := Lib.hid h.at_.1
  have hsm := h.small
  clear h
  by_cases h6 : n ≤ 6
  rotate_left
  · have hd : decide ((6 : Int) < (n : Int)) = true := decide_eq_true (by omega)
    have HE : Hid (clientB x clock = false) := clientB_few (by rw [Hn.out]; omega)
    go_enter Try.func43, Try.ntmps43
    go_wp2_with fail
    go_ret
    rw [HE.out]
    exact ⟨rfl, (Below.refl _ _).alloc (Nat.le_refl _) _⟩
  have hd : decide ((6 : Int) < (n : Int)) = false := decide_eq_false (by omega)
  go_enter Try.func43, Try.ntmps43
  go_wp2_with fail
  go_loopw [17] (fun i wr => (∃ j : Nat, j ≤ n ∧ i = .int .i64 j ∧ WritesGood (x.writes.take j)) ∧ Below w.heap.size w wr ∧ wr.heap[w.heap.size]? = some (.cells #[.int .i64 x.phase, .int .i64 x.start, .int .i64 x.commit, .slice A n c, .int .i64 x.at_] 63 (0, 0))) (fun i _ => n - (intOf i).toNat)
  case atStart => exact ⟨⟨0, Nat.zero_le _, rfl, ⟨fun y hy => (List.not_mem_nil hy).elim, List.Pairwise.nil⟩⟩, (Below.refl _ _).alloc (Nat.le_refl _) _, blk_new _ _ _⟩
  case round =>
    obtain ⟨⟨j, hj, rfl, hgo⟩, hbel, hblk⟩ := hrel
    have HGO := Lib.hid hgo
    have HL := Lib.hid hbel
    have HB := Lib.hid hblk
    clear hgo hbel hblk
    obtain ⟨hc0, hf0⟩ := blk_read HB.out
    have hz := blk_lt HB.out
    by_cases hlt : j < n
    · obtain ⟨y, b, off, hy, rfl, hbb, g0, g1⟩ := (H.out.at_.below HL.out (Nat.le_refl _)).at_ hlt
      have HY := Lib.hid hy
      have hbz : b < wr.heap.size := by have := HL.out.size; omega
      clear hy
      have hprev0 : (j = 0 ∨ ∃ (i : Nat) (z : MWrite), j = i + 1 ∧ x.writes[i]? = some z ∧ wr.cell? ⟨b, off + i * 2, none⟩ = some (.string z.key)) := by
        rcases j with _ | i
        · exact .inl rfl
        · obtain ⟨z, b', off', hz', e, _, g0', _⟩ := (H.out.at_.below HL.out (Nat.le_refl _)).at_ (show i < n by omega)
          injection e with e
          injection e with e1 e2
          subst e1; subst e2
          exact .inr ⟨i, z, rfl, hz', g0'⟩
      go_upto_region 6 with (fail)
      obtain ⟨v, hv⟩ : ∃ v, v = wr.alloc (.cells #[.string y.key, .string y.value] 66) := ⟨_, rfl⟩
      rw [← hv]
      have hbv : Below wr.heap.size wr v := by rw [hv]; exact (Below.refl _ _).alloc (Nat.le_refl _) _
      have HLv := Lib.hid (HL.out.trans (hbv.mono HL.out.size))
      have HBv := Lib.hid (blk_keep hbv HB.out hz)
      have HYv : Hid (v.heap[wr.heap.size]? = some (.cells #[.string y.key, .string y.value] 66 (0, 0))) := by show _ = _; rw [hv]; exact blk_new _ _ _
      have hzv : wr.heap.size < v.heap.size := blk_lt HYv.out
      have hprev : (j = 0 ∨ ∃ (i : Nat) (z : MWrite), j = i + 1 ∧ x.writes[i]? = some z ∧ v.cell? ⟨b, off + i * 2, none⟩ = some (.string z.key)) := by
        rcases hprev0 with h | ⟨i, z, h1, h2, h3⟩
        · exact .inl h
        · exact .inr ⟨i, z, h1, h2, (hbv.cell (p := ⟨b, off + i * 2, none⟩) hbz).trans h3⟩
      clear hv hbv hc0 hf0 g0 g1 hprev0
      obtain ⟨gx, hgx⟩ : ∃ gx, gx = w.heap.size := ⟨_, rfl⟩
      obtain ⟨gy, hgy⟩ : ∃ gy, gy = wr.heap.size := ⟨_, rfl⟩
      rw [← hgx] at HBv
      rw [← hgy] at HYv
      rw [← hgx, ← hgy]
      have HGX := Lib.hid hgx
      clear hgx hgy
      obtain ⟨hcx, hfx⟩ := blk_read HBv.out
      obtain ⟨hcy, hfy⟩ := blk_read HYv.out
      have hzx := blk_lt HBv.out
      have hzy := blk_lt HYv.out
      have hbz' : b < v.heap.size := by omega
      have q1 : ∀ u : Grown v, u.w.cell? ⟨gx, 3, none⟩ = some (.slice (some ⟨b, off, none⟩) n c) := fun u => grown_cell u hzx (by simpa using hcx 3)
      have q2 : ∀ u : Grown v, u.w.cell? ⟨gy, 0, none⟩ = some (.string y.key) := fun u => grown_cell u hzy (by simpa using hcy 0)
      have q3 : ∀ u : Grown v, u.w.cell? ⟨gy, 1, none⟩ = some (.string y.value) := fun u => grown_cell u hzy (by simpa using hcy 1)
      cases hk : keyB y.key
      · have HE : Hid (clientB x clock = false) := clientB_writes (writes_bad HY.out (.inl hk))
        clear hprev
        refine wp_region_grown (by kernel_rfl) (by kernel_rfl) ?_
        repeat (go_big_quiet_step ((go_at_call 15; exact grown_call (key_any _ _))))
        refine wpQuiet_nil ?_
        rintro _ ⟨⟨w2, hb'⟩, rfl⟩
        clear q1 q2 q3
        go_wp2_with fail
        go_ret
        rw [HE.out]
        exact ⟨rfl, HLv.out.trans (hb'.mono HLv.out.size)⟩
      by_cases hv : y.value.size ≤ 20
      rotate_left
      · have HE : Hid (clientB x clock = false) := clientB_writes (writes_bad HY.out (.inr (by omega)))
        have hv1 : decide ((20 : Int) < (y.value.size : Int)) = true := decide_eq_true (by omega)
        clear hprev
        refine wp_region_grown (by kernel_rfl) (by kernel_rfl) ?_
        repeat (go_big_quiet_step ((go_at_call 15; exact grown_call (key_any _ _))))
        refine wpQuiet_nil ?_
        rintro _ ⟨⟨w2, hb'⟩, rfl⟩
        clear q1 q2 q3
        go_wp2_with fail
        go_ret
        rw [HE.out]
        exact ⟨rfl, HLv.out.trans (hb'.mono HLv.out.size)⟩
      have hv1 : decide ((20 : Int) < (y.value.size : Int)) = false := decide_eq_false (by omega)
      rcases hprev with rfl | ⟨i, z, rfl, hz', hcz⟩
      · have HW : Hid (WritesGood (x.writes.take (0 + 1))) := writes_more HGO.out HY.out hk hv (.inl rfl)
        refine wp_region_grown (by kernel_rfl) (by kernel_rfl) ?_
        repeat (go_big_quiet_step ((go_at_call 15; exact grown_call (key_any _ _))))
        refine wpQuiet_nil ?_
        rintro _ ⟨⟨w2, hb'⟩, rfl⟩
        clear q1 q2 q3
        go_wp2_with fail
        obtain rfl := HGX.out
        go_roundw
        case rel => exact ⟨⟨0 + 1, by omega, by go_num, HW.out⟩, HLv.out.trans (hb'.mono HLv.out.size), blk_keep hb' HBv.out hzx⟩
        case measure => simp [intOf]; omega
      · have q4 : ∀ u : Grown v, u.w.cell? ⟨b, off + i * 2, none⟩ = some (.string z.key) := fun u => grown_cell u hbz' hcz
        have hgd : decide ((0 : Int) < (i : Int) + 1) = true := decide_eq_true (by omega)
        have hwr : IntKind.i64.wrap (i : Int) = i := IntWalk.i64_in _ (by omega)
        have hjn : (i : Int) < n := by omega
        have hj0 : (0 : Int) ≤ (i : Int) := by omega
        have HZ := Lib.hid hz'
        clear hz'
        cases hcmp : Op.bytesLess z.key.toList y.key.toList
        · have HE : Hid (clientB x clock = false) := clientB_writes (writes_order HZ.out HY.out hcmp)
          refine wp_region_grown (by kernel_rfl) (by kernel_rfl) ?_
          repeat (go_big_quiet_step ((go_at_call 15; exact grown_call (key_any _ _))))
          refine wpQuiet_nil ?_
          rintro _ ⟨⟨w2, hb'⟩, rfl⟩
          clear q1 q2 q3 q4
          go_wp2_with fail
          go_ret
          rw [HE.out]
          exact ⟨rfl, HLv.out.trans (hb'.mono HLv.out.size)⟩
        · have HW : Hid (WritesGood (x.writes.take (i + 1 + 1))) := writes_more HGO.out HY.out hk hv (.inr ⟨i, z, rfl, HZ.out, hcmp⟩)
          refine wp_region_grown (by kernel_rfl) (by kernel_rfl) ?_
          repeat (go_big_quiet_step ((go_at_call 15; exact grown_call (key_any _ _))))
          refine wpQuiet_nil ?_
          rintro _ ⟨⟨w2, hb'⟩, rfl⟩
          clear q1 q2 q3 q4
          go_wp2_with fail
          obtain rfl := HGX.out
          go_roundw
          case rel => exact ⟨⟨i + 1 + 1, by omega, by go_num, HW.out⟩, HLv.out.trans (hb'.mono HLv.out.size), blk_keep hb' HBv.out hzx⟩
          case measure => simp [intOf]; omega
    · obtain rfl : j = n := by omega
      have HE : Hid (clientB x clock = phaseB x clock) := clientB_phase (by rw [Hn.out]; exact h6) (by rw [Hn.out]; exact HGO.out)
      clear hc0 hf0 hz hsm hd hj hlt
      obtain ⟨hc0, hf0⟩ := blk_read HB.out
      have hn : x.writes.length = j := Hn.out
      have HN := Lib.hid hn
      clear hn
      go_wp2_with fail
      all_goals
        go_ret
        refine ⟨ret_bool ?_, HL.out⟩
        rw [HE.out]
        clear hc0 hf0 HE HL HB H Hn HGO
        have hn := HN.out
        clear HN
        simp only [beq_iff_eq, beq_eq_false_iff_ne, ne_eq] at *
        rw [Bool.eq_iff_iff, phaseB_iff]
        simp only [Bool.false_eq_true, decide_eq_true_eq, beq_iff_eq, hn]
        refine ⟨fun h => ?_, fun h => ?_⟩ <;> first | exact (h : False).elim | omega
end Go.Proofs.Ytniomgngiiiklaa
