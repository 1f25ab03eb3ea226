/- The walks of (*site).undo, its closure, (*site).status and (*site).tick. -/
import Derived.Test.YtniomgngiiiklabDoorAt
import Derived.Test.YtniomgngiiiklabDoorUndo
import Derived.Test.YtniomgngiiiklabDoorView
namespace Go.Proofs.YtniomgngiiiklabDoor
open Go.RowKit

set_option maxRecDepth 100000 in
set_option maxHeartbeats 1000000 in
theorem undo1_any (r : MRow) (g : Nat) (st : Int) (A : Option Addr) (n c : Nat) (w : World) (h : RowOk w w.heap.size r A n c) (hg : g < w.heap.size) (hc : w.cell? ⟨g, 0, none⟩ = some (.int .i64 st)) :
    Calls Tryd.prog 92 #[.agg #[.string r.key, .int .i64 r.ls, .string r.lp, .string r.value, .slice A n c], .pointer (some ⟨g, 0, none⟩)] w (RowRet w (undoRow r st) (undoCode r st)) := by
  have HR := Lib.hid h
  clear h
  go_enter Tryd.func92, Tryd.ntmps92
  go_wp2_with fail
  have hb0 := ((Below.refl w.heap.size w).alloc (Nat.le_refl _) (.cells #[.string r.key, .int .i64 r.ls, .string r.lp, .string r.value, .slice A n c] 27)).alloc (by simp) (.cells #[.string ⟨#[]⟩, .int .i64 0, .string ⟨#[]⟩, .string ⟨#[]⟩, .slice none 0 0] 27)
  refine (undo_any r st A n c _ ((HR.out.below hb0 (Nat.le_refl _)).more (by simp; omega))).mono ?_
  rintro e w1 ⟨A', c', rfl, hown, hb⟩
  have HL := Lib.hid (hb0.trans (hb.mono (by simp; omega)))
  have HB1 := Lib.hid (blk_keep hb (g := w.heap.size + 1) (blk_new_at (w.alloc _) _ _ (by simp)) (by simp))
  have HO := Lib.hid (own_more (base' := w.heap.size) hown (by simp; omega))
  clear hb hb0 hown hc
  obtain ⟨hc1, hf1⟩ := blk_read HB1.out
  have hz := blk_lt HB1.out
  go_wp2_with fail
  refine bodyPost_ret (v := .tuple #[.agg #[.string (undoRow r st).key, .int .i64 (undoRow r st).ls, .string (undoRow r st).lp, .string (undoRow r st).value, .slice A' (undoRow r st).recs.length c'], .int .i64 (undoCode r st)]) (by simp [results, Tryd.results92, go_sem, hc1]) rfl ?_
  exact ⟨A', c', rfl, own_row5_far HO.out (own_ne HO.out HB1.out (by decide)) _ _ _ _ _, below_row5 HL.out (by omega) _ _ _ _ _⟩

theorem AtRes.from {w w0 : World} {base gs gw gc C : Nat} {M : MWorld} {p : List MRow × Int} {e : Ending} {w' : World} (h : AtRes w0 base gs gw gc C M p e w') (hk : Keeps [27, 37] base w w0) : AtRes w base gs gw gc C M p e w' :=
  ⟨h.1, h.2.1, hk.trans h.2.2⟩

theorem Site.size {w : World} {base gs gw gc C : Nat} {M : MWorld} (h : Site w base gs gw gc C M) : base ≤ w.heap.size := by
  obtain ⟨A, n, c, m, c', H, H', h⟩ := h
  exact h.size

set_option maxRecDepth 100000 in
theorem site_undo_any (clock : Int) (key : ByteArray) (st : Int) (hks : key.size ≤ maxLen) (base gs gw gc C : Nat) (M : MWorld) (w : World) (hS : Site w base gs gw gc C M) (hv : RowsVal clock M.rows) :
    Calls Tryd.prog 77 #[.pointer (some ⟨gs, 0, none⟩), .string key, .int .i64 st] w (AtRes w base gs gw gc C M (undoAt M.rows key st)) := by
  have HS := Lib.hid hS
  have HV := Lib.hid hv
  have HKS := Lib.hid hks
  clear hS hv hks
  go_enter Tryd.func77, Tryd.ntmps77
  go_wp2_with fail
  refine (site_at_any 92 _ (.inl ⟨rfl, _, rfl⟩) (fun r => undoRow r st) (fun r => undoCode r st) (fun r hr => undoRow_key hr) clock key HKS.out base gs gw gc C M _ (HS.out.below ((Below.refl _ _).alloc (Nat.le_refl _) _) (Nat.le_refl _)) HV.out (fun r A n c W hb hr => ?hp)).mono ?_
  case hp => exact undo1_any r w.heap.size st A n c W hr (by have := hb.size; simp at this; omega) ((hb.cell (p := ⟨w.heap.size, 0, none⟩) (by simp)).trans (by simp))
  rintro e w1 ⟨rfl, hS1, hk1⟩
  have H1 := Lib.hid hS1
  have HK1 : Hid (Keeps [27, 37] base w w1) := ((Keeps.refl _ _ w).alloc _ HS.out.size).trans hk1
  clear hS1 hk1
  go_wp2_with fail
  go_ret
  exact ⟨rfl, H1.out, HK1.out⟩

set_option maxRecDepth 100000 in
set_option maxHeartbeats 1000000 in
theorem site_status_any (clock : Int) (key : ByteArray) (st : Int) (base gs gw gc C : Nat) (M : MWorld) (w : World) (hS : Site w base gs gw gc C M) (hv : RowsVal clock M.rows) :
    Calls Tryd.prog 74 #[.pointer (some ⟨gs, 0, none⟩), .string key, .int .i64 st] w fun e w' => e = .returned (.tuple #[.int .i64 (statusAt M.rows key st).1, .int .i64 (statusAt M.rows key st).2]) ∧ Below w.heap.size w w' := by
  obtain ⟨A, n, c, m, c', H, H', hS⟩ := hS
  have HS := Lib.hid hS
  have HV := Lib.hid hv
  have hn := hS.rows.1
  have hn40 := hv.len
  clear hS hv
  obtain ⟨hcs, hfs⟩ := blk_read HS.out.site
  obtain ⟨hcw, hfw⟩ := blk_read HS.out.world
  go_enter Tryd.func74, Tryd.ntmps74
  go_wp2_with fail
  refine (find_rows_any M.rows key A n c w (HS.out.rows.ok HV.out.sized) HV.out.sorted).mono ?_
  rintro e w1 ⟨rfl, hb⟩
  have HS1 := Lib.hid (HS.out.below hb (Nat.le_refl _))
  have HL := Lib.hid hb
  clear hb hcs hfs hcw hfw
  obtain ⟨hcs, hfs⟩ := blk_read HS1.out.site
  obtain ⟨hcw, hfw⟩ := blk_read HS1.out.world
  cases hB : bsB MRow.key M.rows key
  · obtain ⟨hr0, _⟩ := search_not HV.out.sorted hB
    have HE : Hid (statusAt M.rows key st = (0, 0)) := by show _ = _; unfold statusAt; rw [hr0]
    clear hr0
    go_wp2_with fail
    go_ret2
    rw [HE.out]
    exact ⟨rfl, HL.out⟩
  · have hne : M.rows[bsI MRow.key M.rows key]?.isSome = true := by
      unfold bsB at hB
      cases h : M.rows[bsI MRow.key M.rows key]? with
      | none => rw [h] at hB; cases hB
      | some r => rfl
    obtain ⟨r, hr⟩ := Option.isSome_iff_exists.1 hne
    have hrk : r.key = key := by unfold bsB at hB; rw [hr] at hB; simpa using hB
    obtain ⟨hr0, _⟩ := search_there HV.out.sorted hr hrk
    have HE : Hid (statusAt M.rows key st = ((statusF r st).1, (statusF r st).2.1)) := by show _ = _; unfold statusAt; rw [hr0]
    obtain ⟨k, hk⟩ : ∃ k, k = bsI MRow.key M.rows key := ⟨_, rfl⟩
    rw [← hk] at hr ⊢
    have hkn : k < n := by have := (List.getElem?_eq_some_iff.1 hr).1; omega
    obtain ⟨g, A', d', rfl, hg, hok, g0, g1, g2, g3, g4⟩ := HS1.out.rows.row HV.out.sized hr
    have HOK := Lib.hid hok
    clear hne hr hrk hr0 hok hk
    go_wp2_with fail
    refine (status_any r st A' r.recs.length d' w1 HOK.out.recs.at_ (by have := HOK.out.recs.small; unfold maxLen; omega)).mono ?_
    rintro e w2 ⟨rfl, hb⟩
    have HL2 := Lib.hid (HL.out.trans (hb.mono HL.out.size))
    clear hb
    unfold stVal
    go_wp2_with fail
    go_ret2
    rw [HE.out]
    exact ⟨rfl, HL2.out⟩

theorem wrap64_in {x : Int} (h1 : -9223372036854775808 ≤ x) (h2 : x ≤ 9223372036854775807) : IntKind.i64.wrap x = x := by
  simp [IntKind.wrap, IntKind.bits, IntKind.signed]; omega
set_option maxRecDepth 100000 in
theorem site_tick_any (base gs gw gc C : Nat) (M : MWorld) (w : World) (hS : Site w base gs gw gc C M) (hc : 0 ≤ M.clock ∧ M.clock ≤ 1099511627376) :
    Calls Tryd.prog 57 #[.pointer (some ⟨gs, 0, none⟩)] w fun e w' => e = .returned (.int .i64 (M.clock + 1)) ∧ Site w' base gs gw gc C { M with clock := M.clock + 1 } ∧ Keeps [37] base w w' := by
  obtain ⟨A, n, c, m, c', H, H', hS⟩ := hS
  have HS := Lib.hid hS
  clear hS
  obtain ⟨hcs, hfs⟩ := blk_read HS.out.site
  obtain ⟨hcw, hfw⟩ := blk_read HS.out.world
  have hwr : IntKind.i64.wrap (M.clock + 1) = M.clock + 1 := wrap64_in (by omega) (by omega)
  have hne : gs ≠ gw := blk_ne HS.out.site HS.out.world (by decide)
  have HNE := Lib.hid hne
  clear hne
  go_enter Tryd.func57, Tryd.ntmps57
  go_wp2_with fail
  go_ret
  have hk : Keeps [37] base w (w.setCell ⟨gw, 1, none⟩ (.int .i64 (M.clock + 1))) := (Keeps.refl _ _ w).set HS.out.world (by simp) HS.out.bw _
  have hs : SiteAt (w.setCell ⟨gw, 1, none⟩ (.int .i64 (M.clock + 1))) base gs gw gc C { M with clock := M.clock + 1 } A n c m c' H H' :=
    ⟨hk.blk HS.out.site (by decide), by simpa using blk_set HS.out.world 1 (.int .i64 (M.clock + 1)), hk.rows HS.out.rows (by decide) (by decide), hk.clients HS.out.clients (by decide) (by decide), HS.out.lt, HS.out.bs, HS.out.bw⟩
  exact ⟨rfl, hs.any, hk⟩
end Go.Proofs.YtniomgngiiiklabDoor
