/- The walk of the reference's WorldCopy: the same world, in memory of its own. -/
import Derived.Test.YtniomgngiiiklabLookM
import Derived.Test.YtniomgngiiiklabCopiesM
namespace Go.Proofs.Ytniomgngiiiklab
open Go.RowKit

/-- THE STEP: append of all that a slice holds to nil: the same, in memory of its own. -/
theorem wpList_append_copy (w : World) {ops : Array Oper} {rest : List Oper} {o : Oper} {a : Act} {Q : Exit → Act → World → Prop} (hgd : o.guard = none) (s x : Operand) (t : TypeId)
    (ho : o.op = .call { callee := .builtin .append, args := #[s, x], argTypes := #[t, t] }) (e : TypeId) (i : TypeInfo) (z : Value) (size bytes : Nat) (ht : Try.prog.underlying t = some (.slice e)) (hi : Try.prog.info? e = some i) (hz : i.zero = some z)
    (hsize : i.size = size) (hby : i.bytes = bytes) (hzs : z.cells.size = size) (hsz : 0 < size)
    (A : Option Addr) (n c : Nat) (xs : List Value) (hs : a.eval s = .slice none 0 0) (hx : a.eval x = .slice A n c) (hl : xs.length = n * size) (h0 : A = none → n = 0)
    (hc : ∀ ad, A = some ad → ∀ j u, xs[j]? = some u → w.cell? (ad.add j) = some u) (h1 : ∀ u ∈ xs, u.oneCell' = true) (hn : n ≤ maxLen) (hb : n * bytes ≤ 140737488355328)
    (hK : ∀ (A' : Option Addr) (c' : Nat) (w' : World), w'.ownsRow w.heap.size e size (.slice A' n c') n xs → Below w.heap.size w w' → wpList Try.prog ops Q rest (a.put o.dst (.slice A' n c')) w') :
    wpList Try.prog ops Q (o :: rest) a w := by
  cases A with
  | none =>
    have hn0 := h0 rfl
    subst hn0
    have hxs : xs = [] := List.eq_nil_of_length_eq_zero (by omega)
    subst hxs
    refine wpList_plain hgd fun K hK' => ?_
    unfold Oper.wp execOp
    simp only [ho, resolve, invoke, builtin, Sem.run_bind, Sem.run_pure, Result.andThen_ok, List.map_toArray, List.map_cons, List.map_nil, hs, hx, run_append_nils (P := Try.prog) w t o.type e i ht hi 0 c rfl]
    exact hK' _ _ (hK none 0 w (World.ownsRow_nil _ _ _ _) (Below.refl _ _))
  | some ad =>
    refine wpList_append_own w hgd s x t ho w.heap.size e i z size bytes ht hi hz hsize hby hzs hsz (.slice none 0 0) 0 [] hs (World.ownsRow_nil _ _ _ _) ad n c xs hx hl (hc ad rfl) h1 (by omega) (by rw [Nat.zero_add]; exact hb) (Nat.le_refl _) ?_
    intro v' w' hown hg _
    rw [Nat.zero_add] at hown
    obtain ⟨A', c', hv⟩ := own_slice hown
    subst hv
    exact hK A' c' w' hown ((Below.refl w.heap.size w).grown hg (Nat.le_refl _) (fun k hk => by simp [Value.ownBlock] at hk))

theorem writes_none {w : World} {B n c : Nat} {A : Option Addr} {ws : List MWrite} (h : WritesOk w B A n c ws) (e : A = none) : n = 0 := by
  subst e
  have h1 := h.at_.1
  match ws, h1 with
  | [], h1 => simpa using h1.symm
  | r :: rs, _ => obtain ⟨b, off, e, _⟩ := h.at_.2 0 r rfl; cases e
theorem writes_cells {w : World} {B n c : Nat} {A : Option Addr} {ws : List MWrite} (h : WritesOk w B A n c ws) : ∀ ad, A = some ad → ∀ j u, (writeCells ws)[j]? = some u → w.cell? (ad.add j) = some u := fun ad e => by
  subst e; exact h.at_.cells

set_option maxRecDepth 100000 in
set_option maxHeartbeats 8000000 in
theorem worldCopy_any (M : MWorld) (A A' : Option Addr) (n c n' c' : Nat) (w : World) (hr : RowsOk w w.heap.size A n c M.rows) (hc : ClientsOk w w.heap.size A' n' c' M.clients) :
    Calls Try.prog 10 #[.agg #[.slice A n c, .int .i64 M.clock, .slice A' n' c']] w
      fun e w' => ∃ B d hs B' d' hs', e = .returned (.agg #[.slice B n d, .int .i64 M.clock, .slice B' n' d']) ∧ OwnRows w' w.heap.size B n d M.rows hs ∧ OwnClients w' w.heap.size B' n' d' M.clients hs' ∧ Below w.heap.size w w' := by
  obtain ⟨i0, hi0, hz0, hz1, hz2⟩ := info_parts info_row
  obtain ⟨j0, hj0, hy0, hy1, hy2⟩ := info_parts info_client
  have HR := Lib.hid hr
  have HC := Lib.hid hc
  have hsm := hr.small
  have hsm' := hc.small
  have Hn := Lib.hid hr.len
  have Hn' := Lib.hid hc.len
  clear hr hc
  go_enter Try.func10, Try.ntmps10
  go_wp2_with fail
  go_loopw [4] (fun i wr => (∃ k : Nat, k ≤ n ∧ i = .int .i64 k ∧ ∃ A1 c1 hs, OwnRows wr (w.heap.size + 1 + 1 + 1) A1 k c1 (M.rows.take k) hs ∧
      wr.heap[w.heap.size + 1 + 1]? = some (.cells #[.slice A1 k c1, .int .i64 M.clock, .slice none 0 0] 36 (0, 0))) ∧ Below w.heap.size w wr ∧ wr.heap[w.heap.size]? = some (.cells #[.slice A n c, .int .i64 M.clock, .slice A' n' c'] 36 (0, 0)) ∧
    wr.heap[w.heap.size + 1]? = some (.cells #[.slice none 0 0, .int .i64 0, .slice none 0 0] 36 (0, 0))) (fun i _ => n - (intOf i).toNat)
  case atStart =>
    obtain ⟨h1, h2, h3, h4⟩ := blk_new3 w (a := #[.slice A n c, .int .i64 M.clock, .slice A' n' c']) (b := #[.slice none 0 0, .int .i64 0, .slice none 0 0]) (c := #[.slice none 0 0, .int .i64 M.clock, .slice none 0 0]) (ta := 36) (tb := 36) (tc := 36)
    exact ⟨⟨0, Nat.zero_le _, rfl, none, 0, [], OwnRows.nil _ _, h4⟩, h1, h2, h3⟩
  case round =>
    obtain ⟨⟨k, hk, rfl, A1, c1, hs, hown, hb2⟩, hbel, hb0, hb1⟩ := hrel
    have HL := Lib.hid hbel
    have HO := Lib.hid hown
    have HB0 := Lib.hid hb0
    have HB1 := Lib.hid hb1
    have HB2 := Lib.hid hb2
    clear hbel hown hb0 hb1 hb2
    try clear hc0 hf0
    obtain ⟨hc0, hf0⟩ := blk_read HB0.out
    try clear hc1 hf1
    obtain ⟨hc1, hf1⟩ := blk_read HB1.out
    try clear hc2 hf2
    obtain ⟨hc2, hf2⟩ := blk_read HB2.out
    by_cases hlt : k < n
    · obtain ⟨r, b, off, A2, n2, c2, hr, rfl, hbb, hok, g0, g1, g2, g3, g4⟩ := (HR.out.below HL.out (Nat.le_refl _)).row hlt
      have hn2 := hok.recs.at_.1
      subst hn2
      have HRow := Lib.hid hr
      have HOK := Lib.hid hok
      clear hr hok
      have hzw := HL.out.size
      have hzB2 := blk_lt HB2.out
      go_wp2_with fail
      go_region_law (first | (refine step_append_own (by rfl) _ _ _ (by rfl) (w.heap.size + 1 + 1 + 1) 26 i0 _ 5 80 Try.underlying33 hi0 hz0 hz1 hz2 rfl (by omega) (.slice A1 k c1) k (rowsCells (M.rows.take k) hs) (by rfl) (own_at HO.out.2.2.1 (fun g hg => (Below.heap_alloc _ _ g (Nat.lt_of_lt_of_le hg hsz1)).trans (HKo g hg))) ⟨w1.heap.size, 0, none⟩ 1 1 (rowCells r A3 r.recs.length c3) (by rfl) (by rfl) (news5 (by exact blk_new_at _ _ _ rfl)) rowCells_one (by unfold maxLen; omega) (by omega) (by simp; omega) ?_; intro A4 c4 w3 hown3 hg; obtain ⟨hc2', hf2'⟩ := blk_read (blk_grown (blk_old ((HKo _ hzB2).trans HB2.out) _) hg (own_old_ne HO.out.2.2.1 (by omega)))) | (go_simp; go_at_call 6; refine (refCopy_any r A2 r.recs.length c2 _ (by exact HOK.out.keepAt (fun _ _ => rfl) hzw)).mono ?_; rintro e w1 ⟨A3, c3, rfl, hown1, hb1⟩; have HKo : ∀ g, g < wr.heap.size → w1.heap[g]? = wr.heap[g]? := fun g hg => hb1.block g (by simp; omega); have hsz1 : wr.heap.size ≤ w1.heap.size := (by have := hb1.size; simp at this; omega); have hA2' := fun (i : Nat) => (World.cell?_of_block (a := ⟨w.heap.size + 1 + 1, i, none⟩) (HKo _ hzB2)).trans (hc2 i); have hA2'' := fun (o : Obj) (i : Nat) => (World.cell?_alloc_past (w := w1) o (w.heap.size + 1 + 1) i (by omega)).trans (hA2' i)))
      all_goals
        go_wp2
        go_roundw
        case rel =>
          have hB2' := blk_grown (blk_old ((HKo _ hzB2).trans HB2.out) _) hg (own_old_ne HO.out.2.2.1 (by omega))
          have hB0' := blk_grown (blk_old ((HKo _ (blk_lt HB0.out)).trans HB0.out) _) hg (own_old_ne HO.out.2.2.1 (by omega))
          have hB1' := blk_grown (blk_old ((HKo _ (blk_lt HB1.out)).trans HB1.out) _) hg (own_old_ne HO.out.2.2.1 (by omega))
          have hL1 : Below w.heap.size w w1 := (HL.out.drew).trans (hb1.mono (by simp; omega))
          have hL3 := (hL1.alloc (by omega) _).grown hg (by simp; omega) (fun j hj => by have := own_base HO.out.2.2.1 j hj; omega)
          have hW := HO.out.typed (w' := w1.alloc (.cells #[.string r.key, .int .i64 r.ls, .string r.lp, .string r.value, .slice A3 r.recs.length c3] 26)) (fun g cs t _ hg' _ => (Below.heap_alloc _ _ g (Nat.lt_of_lt_of_le (blk_lt hg') hsz1)).trans (HKo g (blk_lt hg')))
          have hrec := own_at (w' := w1.alloc (.cells #[.string r.key, .int .i64 r.ls, .string r.lp, .string r.value, .slice A3 r.recs.length c3] 26)) (own_more (base' := (w.heap.size + 1 + 1 + 1)) hown1 (by simp; omega)) (fun g hg' => Below.heap_alloc _ _ g hg')
          refine ⟨⟨k + 1, by omega, by go_num, A4, c4, hs ++ [(A3, c3)], ?_, by simpa using blk_set hB2' 0 _⟩, hL3.setCell (p := ⟨w.heap.size + 1 + 1, 0, none⟩) (by simp; omega) _, blk_far hB0' (by simp; omega) _, blk_far hB1' (by simp) _⟩
          rw [take_snoc HRow.out]
          exact (hW.add hrec hg hown3).set hB2' ⟨by decide, by decide⟩ _
        case measure => simp [intOf]; omega
    · obtain rfl : k = n := by omega
      have hall : M.rows.take k = M.rows := List.take_of_length_le (by rw [Hn.out]; exact Nat.le_refl _)
      rw [hall] at HO
      clear hall hlt hk
      go_wp2_with fail
      obtain ⟨wo, rfl⟩ : ∃ wo : World, wo = wr := ⟨_, rfl⟩
      go_loopw [5] (fun i wr => (∃ j : Nat, j ≤ n' ∧ i = .int .i64 j ∧ ∃ D1 d1 hs', OwnRows wr (w.heap.size + 1 + 1 + 1) A1 k c1 M.rows hs ∧ OwnClients wr (w.heap.size + 1 + 1 + 1) D1 j d1 (M.clients.take j) hs' ∧
          wr.heap[w.heap.size + 1 + 1]? = some (.cells #[.slice A1 k c1, .int .i64 M.clock, .slice D1 j d1] 36 (0, 0))) ∧ Below w.heap.size w wr ∧ wr.heap[w.heap.size]? = some (.cells #[.slice A k c, .int .i64 M.clock, .slice A' n' c'] 36 (0, 0)) ∧
        wr.heap[w.heap.size + 1]? = some (.cells #[.slice none 0 0, .int .i64 0, .slice none 0 0] 36 (0, 0))) (fun i _ => n' - (intOf i).toNat)
      case atStart => exact ⟨⟨0, Nat.zero_le _, rfl, none, 0, [], HO.out, OwnClients.nil _ _, HB2.out⟩, HL.out, HB0.out, HB1.out⟩
      case round =>
        clear HL HO HB0 HB1 HB2
        try clear hc0 hf0 hc1 hf1 hc2 hf2
        obtain ⟨⟨j, hj, rfl, D1, d1, hs', hownR, hown, hb2⟩, hbel, hb0, hb1⟩ := hrel
        have HL := Lib.hid hbel
        have HOR := Lib.hid hownR
        have HO := Lib.hid hown
        have HB0 := Lib.hid hb0
        have HB1 := Lib.hid hb1
        have HB2 := Lib.hid hb2
        clear hbel hown hownR hb0 hb1 hb2
        try clear hc0 hf0
        obtain ⟨hc0, hf0⟩ := blk_read HB0.out
        try clear hc1 hf1
        obtain ⟨hc1, hf1⟩ := blk_read HB1.out
        try clear hc2 hf2
        obtain ⟨hc2, hf2⟩ := blk_read HB2.out
        have hzw := HL.out.size
        have hzB2 := blk_lt HB2.out
        by_cases hlt : j < n'
        · obtain ⟨x, b, off, A2, n2, c2, hx, rfl, hbb, hok, g0, g1, g2, g3, g4⟩ := (HC.out.below HL.out (Nat.le_refl _)).client hlt
          have hn2 := hok.writes.at_.1
          subst hn2
          have HX := Lib.hid hx
          have HOK := Lib.hid hok.writes
          clear hx hok
          obtain ⟨k0, hk0, hx0, hx1, hx2⟩ := info_parts info_write
          have hwo := HOK.out.keepAt (w' := wr.alloc (.cells #[.int .i64 x.phase, .int .i64 x.start, .int .i64 x.commit, .slice A2 x.writes.length c2, .int .i64 x.at_] 58)) (fun g hg => Below.heap_alloc _ _ g (Nat.lt_of_lt_of_le hg hzw)) (Nat.le_refl _)
          have hws := hwo.small
          have HWO := Lib.hid hwo
          clear hwo
          go_wp2_with (at_builtin; refine wpList_append_copy _ rfl _ _ 56 rfl 76 k0 _ 2 32 Try.underlying56 hk0 hx0 hx1 hx2 rfl (by decide) A2 x.writes.length c2 (writeCells x.writes) rfl rfl (writeCells_length _) (writes_none HWO.out) (writes_cells HWO.out) writeCells_one (by unfold maxLen; omega) (by omega) ?_)
          intro A3 c3 w1 hown1 hb1
          have HKo : ∀ g, g < wr.heap.size → w1.heap[g]? = wr.heap[g]? := fun g hg => (hb1.block g (by omega)).trans (Below.heap_alloc _ _ g hg)
          have hsz1 : wr.heap.size < w1.heap.size := by have := hb1.size; simp at this; omega
          have HB7 := Lib.hid (blk_keep hb1 (blk_new wr _ _) (by simp))
          have HL1 := Lib.hid ((HL.out.alloc hzw (.cells #[.int .i64 x.phase, .int .i64 x.start, .int .i64 x.commit, .slice A2 x.writes.length c2, .int .i64 x.at_] 58)).trans (hb1.mono (by omega)))
          have HW1 := Lib.hid hown1
          have HK := Lib.hid HKo
          clear hb1 hown1 HKo hc0 hf0 hc1 hf1 hc2 hf2
          obtain ⟨hc2, hf2⟩ := blk_read ((HK.out _ hzB2).trans HB2.out)
          obtain ⟨hc7, hf7⟩ := blk_read HB7.out
          go_wp2_with (at_builtin; refine wpList_append_own _ rfl _ _ 34 rfl (w.heap.size + 1 + 1 + 1) 58 j0 _ 5 56 Try.underlying34 hj0 hy0 hy1 hy2 rfl (by decide) (.slice D1 j d1) j (clientsCells (M.clients.take j) hs') rfl (own_at HO.out.2.2.1 (fun g hg => (Below.heap_alloc _ _ g (by simp; omega)).trans ((Below.heap_setCell _ _ _ g (by simp; omega)).trans (HK.out g hg)))) ⟨w1.heap.size, 0, none⟩ 1 1 (clientCells x A3 x.writes.length c3) rfl rfl ?c1 ?c2 ?c3 ?c4 ?c5 ?_)
          case c1 => exact news5 (by exact blk_new_at _ _ _ (by simp))
          case c2 => exact clientCells_one
          case c3 => unfold maxLen; omega
          case c4 => omega
          case c5 => simp; omega
          intro v' w3 hown3 hg _
          obtain ⟨A4, c4, hv⟩ := own_slice hown3
          rw [hv] at hown3 ⊢
          have hB2' := Lib.hid (blk_grown (blk_old (blk_far ((HK.out _ hzB2).trans HB2.out) (by simp; omega) _) _) hg (own_old_ne HO.out.2.2.1 (by omega)))
          have hB0' := Lib.hid (blk_grown (blk_old (blk_far ((HK.out _ (blk_lt HB0.out)).trans HB0.out) (by have := blk_lt HB0.out; simp; omega) _) _) hg (own_old_ne HO.out.2.2.1 (by omega)))
          have hB1' := Lib.hid (blk_grown (blk_old (blk_far ((HK.out _ (blk_lt HB1.out)).trans HB1.out) (by have := blk_lt HB1.out; simp; omega) _) _) hg (own_old_ne HO.out.2.2.1 (by omega)))
          have hL3 := Lib.hid (((HL1.out.setCell (p := ⟨wr.heap.size, 3, none⟩) hzw _).alloc (by simp; omega) _).grown hg (by simp; omega) (fun jj hj => by have := own_base HO.out.2.2.1 jj hj; omega))
          have hKw3 : ∀ g, g < wr.heap.size → some g ≠ (Value.slice D1 j d1).ownBlock → w3.heap[g]? = wr.heap[g]? := fun g hg' hne => (hg.block g (by simp; omega) hne).trans ((Below.heap_alloc _ _ g (by simp; omega)).trans ((Below.heap_setCell _ _ _ g (by simp; omega)).trans (HK.out g hg')))
          have hR3 := Lib.hid (HOR.out.typed (w' := w3) (fun g cs t _ hg' ht => hKw3 g (blk_lt hg') (own_ne HO.out.2.2.1 hg' (by rcases ht with rfl | rfl <;> decide))))
          have hCW := HO.out.typed (w' := (w1.setCell ⟨wr.heap.size, 3, none⟩ (.slice A3 x.writes.length c3)).alloc (.cells #[.int .i64 x.phase, .int .i64 x.start, .int .i64 x.commit, .slice A3 x.writes.length c3, .int .i64 x.at_] 58)) (fun g cs t _ hg' _ => (Below.heap_alloc _ _ g (by have := blk_lt hg'; simp; omega)).trans ((Below.heap_setCell _ _ _ g (by have := blk_lt hg'; simp; omega)).trans (HK.out g (blk_lt hg'))))
          have hrec := own_at (w' := (w1.setCell ⟨wr.heap.size, 3, none⟩ (.slice A3 x.writes.length c3)).alloc (.cells #[.int .i64 x.phase, .int .i64 x.start, .int .i64 x.commit, .slice A3 x.writes.length c3, .int .i64 x.at_] 58)) (own_far (i := 3) HW1.out (own_ne HW1.out HB7.out (by decide)) (.slice A3 x.writes.length c3)) (fun g hg' => Below.heap_alloc _ _ g hg')
          have hdist : ∀ g ∈ hs', (Value.slice g.1 0 0).ownBlock ≠ none → (Value.slice g.1 0 0).ownBlock ≠ (Value.slice A3 0 0).ownBlock := fun g hg' hn e => by
            cases hb : (Value.slice g.1 0 0).ownBlock with
            | none => exact hn hb
            | some bb =>
              have h1 := (HO.out.heads_lt g hg' bb hb).2
              rw [hb] at e
              rw [ownBlock_any' A3 0 0 x.writes.length c3] at e
              have h2 := own_base HW1.out bb e.symm
              omega
          have hC3 := Lib.hid (hCW.add (own_more (base' := (w.heap.size + 1 + 1 + 1)) hrec (by simp; omega)) hdist hg hown3)
          clear hg hown3 hKw3 hCW hrec hdist hv hc2 hf2 hc7 hf7
          obtain ⟨hc2, hf2⟩ := blk_read hB2'.out
          have hz3 := blk_lt hB2'.out
          go_wp2_with fail
          go_roundw
          case rel =>
            refine ⟨⟨j + 1, by omega, by go_num, A4, c4, hs' ++ [(A3, c3)], hR3.out.set hB2'.out ⟨by decide, by decide⟩ _, ?_, by simpa using blk_set hB2'.out 2 _⟩, hL3.out.setCell (p := ⟨w.heap.size + 1 + 1, 2, none⟩) (by simp; omega) _, blk_far hB0'.out (by simp; omega) _, blk_far hB1'.out (by simp) _⟩
            rw [take_snoc HX.out]
            exact hC3.out.set hB2'.out ⟨by decide, by decide⟩ _
          case measure => simp [intOf]; omega
        · obtain rfl : j = n' := by omega
          have hall : M.clients.take j = M.clients := List.take_of_length_le (by rw [Hn'.out]; exact Nat.le_refl _)
          rw [hall] at HO
          clear hall hlt hj
          have hzB1 := blk_lt HB1.out
          go_wp2_with fail
          refine bodyPost_ret (v := .agg #[.slice A1 k c1, .int .i64 M.clock, .slice D1 j d1]) (by simp [results, Try.results10, go_sem, hc1]) rfl ⟨A1, c1, hs, D1, d1, hs', rfl, ?_, ?_, ?_⟩
          · exact (((HOR.out.set HB1.out ⟨by decide, by decide⟩ _).set (blk_set HB1.out 0 _) ⟨by decide, by decide⟩ _).set (blk_set (blk_set HB1.out 0 _) 1 _) ⟨by decide, by decide⟩ _).more (by omega)
          · exact (((HO.out.set HB1.out ⟨by decide, by decide⟩ _).set (blk_set HB1.out 0 _) ⟨by decide, by decide⟩ _).set (blk_set (blk_set HB1.out 0 _) 1 _) ⟨by decide, by decide⟩ _).more (by omega)
          · exact ((HL.out.setCell (p := ⟨w.heap.size + 1, 0, none⟩) (by simp) _).setCell (p := ⟨w.heap.size + 1, 1, none⟩) (by simp) _).setCell (p := ⟨w.heap.size + 1, 2, none⟩) (by simp) _
end Go.Proofs.Ytniomgngiiiklab
