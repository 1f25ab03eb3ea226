/- slices.Insert at records: one element put into a row of the call's own. -/
import Derived.Test.YtniomgngiiiklabCopiesM
import Derived.Lib.AppendZerosOnto
import Derived.Lib.Overlaps
import Derived.Deep.RegionLaw
namespace Go.Proofs.Ytniomgngiiiklab
open Go.RowKit
namespace RecIns

theorem info_el : (Try.prog.info? 55).map (fun i => (i.zero, i.size, i.bytes)) = some (some (.agg #[.int .i64 0, .int .i64 0, .string ⟨#[]⟩]), 3, 32) := by kernel_rfl
theorem news_at {w : World} {g : Nat} {nw : List Value} {t : TypeId} (h : w.heap[g]? = some (.cells nw.toArray t (0, 0))) : ∀ j u, nw[j]? = some u → w.cell? ((⟨g, 0, none⟩ : Addr).add j) = some u := by
  intro j u hu
  rw [addr_add, (blk_read h).1]
  simpa using hu

set_option maxRecDepth 100000 in
set_option maxHeartbeats 2000000 in
/-- At the end. -/
theorem insert_end (A : Option Addr) (n c g : Nat) (xs nw : List Value) (base : Nat) (w : World) (hown : w.ownsRow base 55 3 (.slice A n c) n xs) (hsm : (n + 1) * 32 ≤ 140737488351232) (hb : base ≤ w.heap.size)
    (hnl : nw.length = 3) (hn1 : ∀ v ∈ nw, v.oneCell' = true) (hg : w.heap[g]? = some (.cells nw.toArray 55 (0, 0))) :
    Calls Try.prog 44 #[.slice A n c, .int .i64 n, .slice (some ⟨g, 0, none⟩) 1 1] w
      fun e w' => ∃ A' c', e = .returned (.slice A' (n + 1) c') ∧ w'.ownsRow base 55 3 (.slice A' (n + 1) c') (n + 1) (xs ++ nw) ∧ w.grownBy w' (Value.slice A n c).ownBlock ∧ ((Value.slice A' (n + 1) c').ownBlock = (Value.slice A n c).ownBlock ∨ (Value.slice A' (n + 1) c').ownBlock = some w.heap.size) := by
  obtain ⟨i0, hi0, hz0, hz1, hz2⟩ := info_parts info_el
  have HO := Lib.hid hown
  have HG := Lib.hid hg
  have HNL := Lib.hid hnl
  have HN1 := Lib.hid hn1
  have hle : n ≤ c := by
    rcases hown.2 with ⟨hv, rfl⟩ | ⟨g', cap, cur, hv, _, _, hn, _⟩
    · omega
    · injection hv with _ _ e; omega
  have hcm : c ≤ 9223372036854775807 := by
    rcases hown.2 with ⟨hv, _⟩ | ⟨g', cap, cur, hv, _, _, _, hn, _⟩
    · injection hv with _ _ e; omega
    · injection hv with _ _ e; unfold maxLen at hn; omega
  clear hown hg hnl hn1
  have hnn : ((n : Int) == (n : Int)) = true := by simp
  go_enter Try.func44, Try.ntmps44
  go_wp2_with (at_builtin; refine wpList_append_own_at _ rfl _ _ 24 rfl base 55 i0 _ 3 32 Try.underlying24 hi0 hz0 hz1 hz2 rfl (by decide) _ n xs rfl HO.out ⟨g, 0, none⟩ 1 1 nw rfl ?c0 ?c1 ?c2 ?c3 ?c4 ?c5 ?_)
  case c0 => rw [HNL.out]
  case c1 => exact news_at HG.out
  case c2 => exact HN1.out
  case c3 => unfold maxLen; omega
  case c4 => omega
  case c5 => exact hb
  all_goals
    intro v' w' hown hgr _ hat
    obtain ⟨A', c', rfl⟩ := own_slice hown
    have HO' := Lib.hid hown
    have HGr := Lib.hid hgr
    have HA := Lib.hid hat
    clear hown hgr hat
    go_wp2
    go_ret
    refine ⟨A', c', rfl, HO'.out, by rw [ownBlock_any A n c n n]; have := HGr.out; rwa [ownBlock_any A n _ n n] at this, ?_⟩
    rw [ownBlock_any A n c n n]
    have := HA.out
    rwa [ownBlock_any A n _ n n] at this

set_option maxRecDepth 100000 in
set_option maxHeartbeats 4000000 in
/-- In the middle, where there is room. -/
theorem insert_shift (g0 n c g i : Nat) (cur : Array Value) (xs nw : List Value) (w : World) (hcur : w.heap[g0]? = some (.cells cur 55 (0, 0))) (hsz : cur.size = c * 3) (htake : cur.toList.take (n * 3) = xs) (hl : xs.length = n * 3) (hx1 : ∀ v ∈ xs, v.oneCell' = true) (hi : i < n) (hroom : n + 1 ≤ c) (hcm : c ≤ 9223372036854775807)
    (hnl : nw.length = 3) (hn1 : ∀ v ∈ nw, v.oneCell' = true) (hg : w.heap[g]? = some (.cells nw.toArray 55 (0, 0))) (hne : g ≠ g0) :
    Calls Try.prog 44 #[.slice (some ⟨g0, 0, none⟩) n c, .int .i64 i, .slice (some ⟨g, 0, none⟩) 1 1] w
      fun e w' => e = .returned (.slice (some ⟨g0, 0, none⟩) (n + 1) c) ∧ ∃ L1 L2 : List Value, L1 = cur.toList.take ((i + 1) * 3) ++ xs.drop (i * 3) ++ cur.toList.drop ((i + 1) * 3 + (xs.drop (i * 3)).length) ∧
        L2 = L1.take (i * 3) ++ nw ++ L1.drop (i * 3 + nw.length) ∧ w' = (w.drew.setRow g0 L1.toArray).setRow g0 L2.toArray := by
  obtain ⟨i0, hi0, hz0, hz1, hz2⟩ := info_parts info_el
  have hov : ∀ lb cb, (callFunc 72 #[.slice (some ⟨g, 0, none⟩) 1 1, .slice (some ⟨g0, (i + 1) * 3, none⟩) lb cb]).run Try.prog w = .ok (.value (.bool false)) w := fun lb cb => by
    rw [run_callFunc_extern Try.func72 (by kernel_rfl) (by kernel_rfl) (by kernel_rfl) (e := Extern.SlicesOverlaps.overlaps #[24, 24] #[4]) (by kernel_rfl),
      Lib.run_overlaps_apart w 24 4 55 Try.underlying24 3 (fun W => by simp [sizeOf, typeInfo, hi0, hz1]) ⟨g, 0, none⟩ ⟨g0, (i + 1) * 3, none⟩ 1 1 lb cb hne 55 55 3 cur.size (by simpa [hnl] using shape_blk hg) (shape_blk hcur) (by omega) ((blk_read hg).2 _) ((blk_read hg).2 _)]
    rfl
  have hdl : (xs.drop (i * 3)).length = (n - i) * 3 := by rw [List.length_drop, hl, ← Nat.sub_mul]
  have hcsrc : ∀ j u, (xs.drop (i * 3))[j]? = some u → w.cell? ((⟨g0, i * 3, none⟩ : Addr).add j) = some u := by
    intro j u hj
    rw [addr_add, (blk_read hcur).1]
    rw [List.getElem?_drop, ← htake, List.getElem?_take] at hj
    split at hj
    · simpa using hj
    · cases hj
  have hcp1 : ∀ ty dc sc, (Builtin.copy_ #[24, 24] ty #[.slice (some ⟨g0, (i + 1) * 3, none⟩) (n - i) dc, .slice (some ⟨g0, i * 3, none⟩) (n + 1 - i) sc]).run Try.prog w.drew =
      .ok (goInt (Nat.min (n + 1 - i) (n - i))) (w.drew.setRow g0 (cur.toList.take ((i + 1) * 3) ++ xs.drop (i * 3) ++ cur.toList.drop ((i + 1) * 3 + (xs.drop (i * 3)).length)).toArray) := fun ty dc sc =>
    run_copy_rowN w.drew _ _ ty _ i0 g0 ((i + 1) * 3) _ dc ⟨g0, i * 3, none⟩ _ sc cur 55 _ Try.underlying24 hi0 hcur (by rw [hdl, hz1]; show (n - i) * 3 = min (n + 1 - i) (n - i) * 3; rw [Nat.min_eq_right (by omega)]) hcsrc (by rw [hdl]; omega) (fun v hv => hx1 v (List.mem_of_mem_drop hv))
  obtain ⟨L1, hL1⟩ : ∃ L1 : List Value, L1 = cur.toList.take ((i + 1) * 3) ++ xs.drop (i * 3) ++ cur.toList.drop ((i + 1) * 3 + (xs.drop (i * 3)).length) := ⟨_, rfl⟩
  rw [← hL1] at hcp1
  have hlen1 : L1.length = c * 3 := by rw [hL1]; simp only [List.length_append, List.length_take, List.length_drop, Array.length_toList, hl, hsz]; omega
  have hcp2 : ∀ (W : World), W.heap = (w.drew.setRow g0 L1.toArray).heap → ∀ ty dc, (Builtin.copy_ #[24, 24] ty #[.slice (some ⟨g0, i * 3, none⟩) (n + 1 - i) dc, .slice (some ⟨g, 0, none⟩) 1 1]).run Try.prog W =
      .ok (goInt (Nat.min 1 (n + 1 - i))) (W.setRow g0 (L1.toArray.toList.take (i * 3) ++ nw ++ L1.toArray.toList.drop (i * 3 + nw.length)).toArray) := fun W hW ty dc => by
    have h0 : W.heap[g0]? = some (.cells L1.toArray 55 (0, 0)) := by rw [hW]; exact setRow_heap w.drew g0 cur L1.toArray _ _ hcur
    have hgW : W.heap[g]? = some (.cells nw.toArray 55 (0, 0)) := by rw [hW, setRow_other w.drew g0 g _ hne]; exact hg
    refine run_copy_rowN W _ _ ty _ i0 g0 (i * 3) _ dc ⟨g, 0, none⟩ _ 1 L1.toArray 55 nw Try.underlying24 hi0 h0 (by rw [hz1, hnl]; show 3 = min 1 (n + 1 - i) * 3; rw [Nat.min_eq_left (by omega)]) (news_at hgW) (by rw [hnl, List.size_toArray, hlen1]; omega) hn1
  have HL1 := Lib.hid hL1
  have e1 : ((i : Int) == (n : Int)) = false := by simp; omega
  have hw1 : IntKind.i64.wrap ((i : Int) + 1) = (i : Int) + 1 := IntWalk.i64_in _ (by omega)
  have hb1 : (0 : Int) ≤ (i : Int) + 1 := by omega
  have htn : ((i : Int) + 1).toNat = i + 1 := by omega
  have hb2 : ¬ (c = i + 1) := by omega
  have hb3 : (i : Int) ≤ (n : Int) + 1 := by omega
  have hb4 : ¬ (c = i) := by omega
  have hin : i ≤ n := by omega
  clear hL1 hdl hcsrc htake hl hsz hlen1 hnl hn1 hx1
  go_enter Try.func44, Try.ntmps44
  go_wp2_with (simp only [hov])
  go_region_law (refine step_copy_run rfl _ _ 24 24 rfl _ _ (by simp [Act.eval, Act.put]) (by simp [Act.eval, Act.put]) (hcp1 _ _ _) ?_)
  go_wp2_with (refine wpList_copy_run rfl _ _ 24 24 rfl _ _ rfl rfl (hcp2 _ rfl _ _) ?_)
  go_ret
  exact ⟨rfl, L1, _, HL1.out, rfl, by rw [List.append_assoc]⟩

set_option maxRecDepth 100000 in
set_option maxHeartbeats 4000000 in
/-- In the middle, where there is no room: a new block. -/
theorem insert_grow (g0 n c g i : Nat) (cur : Array Value) (xs nw : List Value) (w : World) (hcur : w.heap[g0]? = some (.cells cur 55 (0, 0))) (htake : cur.toList.take (n * 3) = xs) (hl : xs.length = n * 3) (hx1 : ∀ v ∈ xs, v.oneCell' = true) (hi : i < n) (hnc : n ≤ c) (hroom : c < n + 1) (hsm : (n + 1) * 32 ≤ 140737488351232)
    (hnl : nw.length = 3) (hn1 : ∀ v ∈ nw, v.oneCell' = true) (hg : w.heap[g]? = some (.cells nw.toArray 55 (0, 0))) :
    Calls Try.prog 44 #[.slice (some ⟨g0, 0, none⟩) n c, .int .i64 i, .slice (some ⟨g, 0, none⟩) 1 1] w
      fun e w' => ∃ (c' : Nat) (L0 L1 L2 : List Value), n + 1 ≤ c' ∧ c' ≤ maxLen ∧ L0.length = c' * 3 ∧ L0.take (i * 3) = xs.take (i * 3) ∧ L1 = L0.take (i * 3) ++ nw ++ L0.drop (i * 3 + nw.length) ∧
        L2 = L1.take ((i + 1) * 3) ++ xs.drop (i * 3) ++ L1.drop ((i + 1) * 3 + (xs.drop (i * 3)).length) ∧
        e = .returned (.slice (some ⟨w.heap.size, 0, none⟩) (n + 1) c') ∧ w'.heap[w.heap.size]? = some (.cells L2.toArray 55 (0, 0)) ∧ w.grownBy w' none := by
  obtain ⟨i0, hi0, hz0, hz1, hz2⟩ := info_parts info_el
  have hols : ∀ j u, (xs.take (i * 3))[j]? = some u → w.cell? ((⟨g0, 0, none⟩ : Addr).add j) = some u := by
    intro j u hj
    rw [addr_add, (blk_read hcur).1, Nat.zero_add]
    rw [List.getElem?_take, ← htake, List.getElem?_take] at hj
    split at hj
    · split at hj
      · simpa using hj
      · cases hj
    · cases hj
  have happ : ∀ ty, (Builtin.append_ #[24, 3] ty #[.slice (some ⟨g0, 0, none⟩) i c, .int .i64 ((n : Int) + 1 - (i : Int))]).run Try.prog w = .ok (.slice (some ⟨w.heap.size, 0, none⟩) (n + 1) (grownCap w (n + 1) c 55))
      (w.drew.alloc (.cells ((xs.take (i * 3)).toArray ++ Builtin.zeroCells #[.int .i64 0, .int .i64 0, .string ⟨#[]⟩] (n + 1 - i) ++ Builtin.zeroCells #[.int .i64 0, .int .i64 0, .string ⟨#[]⟩] (grownCap w (n + 1) c 55 - (n + 1))) 55)) := fun ty => by
    have h := Lib.run_append_grow_zeros (P := Try.prog) w 24 3 ty 55 i0 _ .i64 .i64 Try.underlying24 Try.underlying3 hi0 hz0 (some ⟨g0, 0, none⟩) i c (xs.take (i * 3))
      (run_firstCells_some (P := Try.prog) w.drew _ i ⟨g0, 0, none⟩ i c _ (by rw [hz1, List.length_take, hl]; omega) hols) (n + 1 - i) (by omega) (by omega) (by omega) (by omega) (by rw [hz2]; omega) (by rw [hz2]; exact growslice_fits (by omega) (by omega))
    rw [show i + (n + 1 - i) = n + 1 by omega] at h
    rw [show (n : Int) + 1 - (i : Int) = ((n + 1 - i : Nat) : Int) by omega]
    exact h
  obtain ⟨c', hc'⟩ : ∃ c', c' = grownCap w (n + 1) c 55 := ⟨_, rfl⟩
  have hc1 : n + 1 ≤ c' := by rw [hc']; exact grownCap_ge w _ _ _
  have hc2 : c' ≤ maxLen := by rw [hc']; exact grownCap_le_maxLen w _ _ _ (by unfold maxLen; omega)
  obtain ⟨L0, hL0⟩ : ∃ L0 : Array Value, L0 = (xs.take (i * 3)).toArray ++ Builtin.zeroCells #[.int .i64 0, .int .i64 0, .string ⟨#[]⟩] (n + 1 - i) ++ Builtin.zeroCells #[.int .i64 0, .int .i64 0, .string ⟨#[]⟩] (grownCap w (n + 1) c 55 - (n + 1)) := ⟨_, rfl⟩
  rw [← hL0, ← hc'] at happ
  have hlen0 : L0.size = c' * 3 := by
    rw [hL0, ← hc']
    simp only [Array.size_append, List.size_toArray, size_zeroCells, List.length_take, hl]
    simp; omega
  have htk0 : L0.toList.take (i * 3) = xs.take (i * 3) := by
    rw [hL0]
    simp only [Array.toList_append, List.append_assoc]
    rw [List.take_append_of_le_length (by rw [List.length_take, hl]; omega)]
    rw [List.take_of_length_le (by rw [List.length_take]; omega)]
  have hglt := blk_lt hg
  have hg0lt := blk_lt hcur
  have hcp1 : ∀ (W : World), W.heap = (w.alloc (.cells L0 55)).heap → ∀ ty dc, (Builtin.copy_ #[24, 24] ty #[.slice (some ⟨w.heap.size, i * 3, none⟩) (n + 1 - i) dc, .slice (some ⟨g, 0, none⟩) 1 1]).run Try.prog W =
      .ok (goInt (Nat.min 1 (n + 1 - i))) (W.setRow w.heap.size (L0.toList.take (i * 3) ++ nw ++ L0.toList.drop (i * 3 + nw.length)).toArray) := fun W hW ty dc => by
    have h0 : W.heap[w.heap.size]? = some (.cells L0 55 (0, 0)) := by rw [hW]; exact blk_new w _ _
    have hgW : W.heap[g]? = some (.cells nw.toArray 55 (0, 0)) := by rw [hW]; exact blk_old hg _
    exact run_copy_rowN W _ _ ty _ i0 w.heap.size (i * 3) _ dc ⟨g, 0, none⟩ _ 1 L0 55 nw Try.underlying24 hi0 h0 (by rw [hz1, hnl]; show 3 = min 1 (n + 1 - i) * 3; rw [Nat.min_eq_left (by omega)]) (news_at hgW) (by rw [hnl, hlen0]; omega) hn1
  obtain ⟨L1, hL1⟩ : ∃ L1 : List Value, L1 = L0.toList.take (i * 3) ++ nw ++ L0.toList.drop (i * 3 + nw.length) := ⟨_, rfl⟩
  rw [← hL1] at hcp1
  have hlen1 : L1.length = c' * 3 := by rw [hL1]; simp only [List.length_append, List.length_take, List.length_drop, Array.length_toList, hlen0, hnl]; omega
  have hdl : (xs.drop (i * 3)).length = (n - i) * 3 := by rw [List.length_drop, hl, ← Nat.sub_mul]
  have hcp2 : ∀ (W : World), W.heap = ((w.alloc (.cells L0 55)).setRow w.heap.size L1.toArray).heap → ∀ ty dc sc, (Builtin.copy_ #[24, 24] ty #[.slice (some ⟨w.heap.size, (i + 1) * 3, none⟩) (n - i) dc, .slice (some ⟨g0, i * 3, none⟩) (n - i) sc]).run Try.prog W =
      .ok (goInt (Nat.min (n - i) (n - i))) (W.setRow w.heap.size (L1.toArray.toList.take ((i + 1) * 3) ++ xs.drop (i * 3) ++ L1.toArray.toList.drop ((i + 1) * 3 + (xs.drop (i * 3)).length)).toArray) := fun W hW ty dc sc => by
    have h0 : W.heap[w.heap.size]? = some (.cells L1.toArray 55 (0, 0)) := by rw [hW]; exact setRow_heap _ _ L0 L1.toArray _ _ (blk_new w _ _)
    have hcW : W.heap[g0]? = some (.cells cur 55 (0, 0)) := by rw [hW, setRow_other _ w.heap.size g0 _ (by omega)]; exact blk_old hcur _
    refine run_copy_rowN W _ _ ty _ i0 w.heap.size ((i + 1) * 3) _ dc ⟨g0, i * 3, none⟩ _ sc L1.toArray 55 _ Try.underlying24 hi0 h0 (by rw [hdl, hz1]; show (n - i) * 3 = min (n - i) (n - i) * 3; rw [Nat.min_self]) ?_ (by rw [hdl, List.size_toArray, hlen1]; omega) (fun v hv => hx1 v (List.mem_of_mem_drop hv))
    intro j u hj
    rw [addr_add, (blk_read hcW).1]
    rw [List.getElem?_drop, ← htake, List.getElem?_take] at hj
    split at hj
    · simpa using hj
    · cases hj
  have HL0 := Lib.hid hlen0
  have HT0 := Lib.hid htk0
  have HL1 := Lib.hid hL1
  have e1 : ((i : Int) == (n : Int)) = false := by simp; omega
  have hw1 : IntKind.i64.wrap ((i : Int) + 1) = (i : Int) + 1 := IntWalk.i64_in _ (by omega)
  have hb1 : (0 : Int) ≤ (i : Int) + 1 := by omega
  have htn : ((i : Int) + 1).toNat = i + 1 := by omega
  have hb2 : ¬ (c' = i + 1) := by omega
  have hb4 : ¬ (c = i) := by omega
  have hb5 : ¬ (c' = i) := by omega
  have hin : i ≤ n := by omega
  have hc63 : c' ≤ 9223372036854775807 := by unfold maxLen at hc2; omega
  clear hL1 hdl htake hl hlen1 hols hL0 hlen0 htk0 hc' hnl hn1 hx1
  go_enter Try.func44, Try.ntmps44
  go_wp2_with (refine wpList_append_run rfl _ _ 24 3 rfl _ _ rfl rfl (happ _) ?_)
  rw [hcp1 (w.alloc (.cells L0 55)).drew rfl]
  go_wp2
  have hcp3 := hcp2 ((w.alloc (.cells L0 55)).drew.setRow w.heap.size L1.toArray).drew rfl
  clear hcp2
  go_region_law (refine step_copy_run rfl _ _ 24 24 rfl _ _ (by simp [Act.eval, Act.put]) (by simp [Act.eval, Act.put]) (hcp3 _ _ _) ?_)
  go_wp2
  go_ret
  refine ⟨c', L0.toList, L1, L1.take ((i + 1) * 3) ++ xs.drop (i * 3) ++ L1.drop ((i + 1) * 3 + (xs.drop (i * 3)).length), hc1, hc2, by rw [Array.length_toList]; exact HL0.out, HT0.out, HL1.out, rfl, rfl, ?_, ?_⟩
  · rw [List.append_assoc, List.length_drop]
    exact setRow_heap _ _ L1.toArray _ _ _ (setRow_heap _ _ L0 L1.toArray _ _ (blk_new w _ _))
  · exact setRow_grown (drew_grown (setRow_grown (drew_grown (World.grownBy_alloc w _ none)) (.inl (Nat.le_refl _)) _)) (.inl (Nat.le_refl _)) _

/-- One element put into a row of the call's own, wherever. -/
theorem insert_any (A : Option Addr) (n c g i : Nat) (xs nw : List Value) (base : Nat) (w : World) (hown : w.ownsRow base 55 3 (.slice A n c) n xs) (hx1 : ∀ v ∈ xs, v.oneCell' = true) (hsm : (n + 1) * 32 ≤ 140737488351232) (hb : base ≤ w.heap.size) (hi : i ≤ n)
    (hnl : nw.length = 3) (hn1 : ∀ v ∈ nw, v.oneCell' = true) (hg : w.heap[g]? = some (.cells nw.toArray 55 (0, 0))) (hne : some g ≠ (Value.slice A n c).ownBlock) :
    Calls Try.prog 44 #[.slice A n c, .int .i64 i, .slice (some ⟨g, 0, none⟩) 1 1] w (InsOk w base 55 3 A n c (xs.take (i * 3) ++ nw ++ xs.drop (i * 3))) := by
  have hxl : xs.length = n * 3 := hown.1
  by_cases hin : i = n
  · subst hin
    rw [← hxl, List.take_length, List.drop_length, List.append_nil]
    exact (insert_end A i c g xs nw base w hown hsm hb hnl hn1 hg).mono fun _ _ h => h
  · rcases hown.2 with ⟨_, h0⟩ | ⟨g0, cap, cur, hv, hbg, hcur, hnc, hcm, hcs, htk⟩
    · omega
    · injection hv with hA _ hc
      subst hA hc
      have hne' : g ≠ g0 := fun e => hne (by rw [e]; rfl)
      have hg0 := blk_lt hcur
      by_cases hroom : n + 1 ≤ c
      · refine (insert_shift g0 n c g i cur xs nw w hcur hcs htk hxl hx1 (by omega) hroom (by unfold maxLen at hcm; omega) hnl hn1 hg hne').mono ?_
        rintro e w' ⟨rfl, L1, L2, h1, h2, rfl⟩
        have hs := splice_shift (cur := cur.toList) (xs := xs) (nw := nw) (a := i * 3) (s := 3) (by rw [hxl]; exact htk) (by rw [hxl]; omega) hnl (by rw [hxl, Array.length_toList, hcs]; omega) (L1 := L1) (by rw [show i * 3 + 3 = (i + 1) * 3 by omega]; exact h1)
        rw [hnl] at h2
        have e3 : cur.toList.length = c * 3 := by rw [Array.length_toList, hcs]
        rw [← h2, hxl, e3] at hs
        refine ⟨_, _, rfl, ⟨?_, .inr ⟨g0, c, L2.toArray, rfl, hbg, setRow_heap _ _ L1.toArray _ _ _ (setRow_heap _ _ cur _ _ _ hcur), hroom, hcm, by rw [List.size_toArray]; exact hs.2, ?_⟩⟩, setRow_grown (setRow_grown (drew_grown (refl_grown w _)) (.inr rfl) _) (.inr rfl) _, .inl rfl⟩
        · rw [List.length_append, List.length_append, List.length_take, List.length_drop, hxl, hnl]; omega
        · rw [show (n + 1) * 3 = n * 3 + 3 by omega]; exact hs.1
      · refine (insert_grow g0 n c g i cur xs nw w hcur htk hxl hx1 (by omega) hnc (by omega) hsm hnl hn1 hg).mono ?_
        rintro e w' ⟨c', L0, L1, L2, hc1, hc2, hl0, ht0, h1, h2, rfl, hb2, hgr⟩
        have hs := splice_grow (L0 := L0) (xs := xs) (nw := nw) (a := i * 3) (s := 3) ht0 (by rw [hxl]; omega) hnl (by rw [hxl, hl0]; omega) (L1 := L1) h1
        rw [show i * 3 + 3 = (i + 1) * 3 by omega, ← h2, hxl, hl0] at hs
        refine ⟨_, _, rfl, ⟨?_, .inr ⟨w.heap.size, c', L2.toArray, rfl, hb, hb2, hc1, hc2, by rw [List.size_toArray]; exact hs.2, ?_⟩⟩, ⟨hgr.os, hgr.tape, hgr.output, hgr.size, fun k hk _ => hgr.block k hk (by simp)⟩, .inr rfl⟩
        · rw [List.length_append, List.length_append, List.length_take, List.length_drop, hxl, hnl]; omega
        · rw [show (n + 1) * 3 = n * 3 + 3 by omega]; exact hs.1
end RecIns
end Go.Proofs.Ytniomgngiiiklab
