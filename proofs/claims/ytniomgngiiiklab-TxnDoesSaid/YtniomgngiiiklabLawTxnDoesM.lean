/- TxnDoes: txn.Do returns the results of the reference implementation, at every world and every act: the law's walk, then its row. Conditions: none. -/
import Derived.Test.YtniomgngiiiklabDoWM
import Derived.Test.YtniomgngiiiklabDidRefM
import Derived.Test.YtniomgngiiiklabWorldCopyM
import Derived.Test.YtniomgngiiiklabSamesM
import Derived.Test.YtniomgngiiiklabOpensM
import Derived.Test.YtniomgngiiiklabPlainM
namespace Go.Proofs.Ytniomgngiiiklab
open Go.RowKit

set_option maxRecDepth 100000 in
set_option maxHeartbeats 4000000 in
theorem txnDoes_walk (M : MWorld) (A A' : Option Addr) (n c n' c' : Nat) (a : MAct) (w : World) (hr : RowsOk w w.heap.size A n c M.rows) (hc : ClientsOk w w.heap.size A' n' c' M.clients) (hk : a.key.size ≤ maxLen) :
    Calls Try.prog 4 #[.agg #[.slice A n c, .int .i64 M.clock, .slice A' n' c'], .agg #[.int .i64 a.kind, .int .i64 a.c, .string a.key, .string a.value]] w
      fun e w' => e = .returned (.bool true) ∧ Below w.heap.size w w' := by
  have HR := Lib.hid hr
  have HC := Lib.hid hc
  have HK := Lib.hid hk
  obtain ⟨P, hP⟩ : ∃ P, P = doM M a := ⟨_, rfl⟩
  have HPP : Hid (doM M ⟨a.kind, a.c, a.key, a.value⟩ = P) := hP.symm
  have HSZ : Hid (WorldGood P.1) := by rw [hP]; exact do_good
  obtain ⟨M', o, cd⟩ := P
  clear hr hc hk hP
  go_enter Try.func4, Try.ntmps4
  go_wp2_with fail
  obtain ⟨v, hv⟩ : ∃ v, v = (w.alloc (.cells #[.slice A n c, .int .i64 M.clock, .slice A' n' c'] 36)).alloc (.cells #[.int .i64 a.kind, .int .i64 a.c, .string a.key, .string a.value] 38) := ⟨_, rfl⟩
  rw [← hv]
  obtain ⟨hb, h2, h3⟩ : Below w.heap.size w v ∧ v.heap[w.heap.size]? = some (.cells #[.slice A n c, .int .i64 M.clock, .slice A' n' c'] 36 (0, 0)) ∧ v.heap[w.heap.size + 1]? = some (.cells #[.int .i64 a.kind, .int .i64 a.c, .string a.key, .string a.value] 38 (0, 0)) := by rw [hv]; exact blk_new2 w
  obtain ⟨g2, hg2⟩ : ∃ g2, g2 = w.heap.size := ⟨_, rfl⟩
  obtain ⟨g3, hg3⟩ : ∃ g3, g3 = g2 + 1 := ⟨_, rfl⟩
  rw [← hg2] at h2
  rw [← hg2, ← hg3] at h3
  rw [← hg2, ← hg3]
  have HL := Lib.hid hb
  have HB2 := Lib.hid h2
  have HB3 := Lib.hid h3
  have HRv : Hid (RowsOk v v.heap.size A n c M.rows) := (HR.out.below HL.out (Nat.le_refl _)).more HL.out.size
  have HCv : Hid (ClientsOk v v.heap.size A' n' c' M.clients) := (HC.out.below HL.out (Nat.le_refl _)).more HL.out.size
  clear hv hg2 hg3 hb h2 h3
  refine (worldCopy_any M A A' n c n' c' v HRv.out HCv.out).mono ?_
  rintro e w1 ⟨A1, c1, hs1, B1, d1, hs1', rfl, ho, ho', hb⟩
  have HL1 := Lib.hid (HL.out.trans (hb.mono HL.out.size))
  have HB21 := Lib.hid (blk_keep hb HB2.out (blk_lt HB2.out))
  have HB31 := Lib.hid (blk_keep hb HB3.out (blk_lt HB3.out))
  have HR1 := Lib.hid ((HRv.out.below hb (Nat.le_refl _)).more hb.size)
  have HC1 := Lib.hid ((HCv.out.below hb (Nat.le_refl _)).more hb.size)
  have HRk := Lib.hid (ho.ok HR.out.sized)
  have HCk := Lib.hid (ho'.ok HC.out.sized)
  clear ho ho' hb HRv HCv HB2 HB3 HL HR HC
  obtain ⟨hc3, hf3⟩ := blk_read HB31.out
  go_upto_region 2 with (fail)
  obtain ⟨v1, hv1⟩ : ∃ v1, v1 = w1.alloc (.cells #[.slice A1 n c1, .int .i64 M.clock, .slice B1 n' d1] 36) := ⟨_, rfl⟩
  rw [← hv1]
  have hb : Below w1.heap.size w1 v1 := by rw [hv1]; exact (Below.refl _ _).alloc (Nat.le_refl _) _
  have HB5 : Hid (v1.heap[w1.heap.size]? = some (.cells #[.slice A1 n c1, .int .i64 M.clock, .slice B1 n' d1] 36 (0, 0))) := by show _ = _; rw [hv1]; exact blk_new _ _ _
  obtain ⟨g5, hg5⟩ : ∃ g5, g5 = w1.heap.size := ⟨_, rfl⟩
  rw [← hg5] at HB5 ⊢
  have HL2 := Lib.hid (HL1.out.trans (hb.mono HL1.out.size))
  have HB22 := Lib.hid (blk_keep hb HB21.out (blk_lt HB21.out))
  have HB32 := Lib.hid (blk_keep hb HB31.out (blk_lt HB31.out))
  have HR2 : Hid (RowsOk v1 v1.heap.size A n c M.rows) := (HR1.out.below hb (Nat.le_refl _)).more hb.size
  have HC2 : Hid (ClientsOk v1 v1.heap.size A' n' c' M.clients) := (HC1.out.below hb (Nat.le_refl _)).more hb.size
  have HRk2 : Hid (RowsOk v1 v1.heap.size A1 n c1 M.rows) := (HRk.out.below hb (Nat.le_refl _)).more hb.size
  have HCk2 : Hid (ClientsOk v1 v1.heap.size B1 n' d1 M.clients) := (HCk.out.below hb (Nat.le_refl _)).more hb.size
  clear hv1 hb hg5 hc3 hf3 HL1 HB21 HB31 HR1 HC1 HRk HCk
  obtain ⟨hc3, hf3⟩ := blk_read HB32.out
  obtain ⟨hc5, hf5⟩ := blk_read HB5.out
  go_wp2_with fail
  refine (txnDo_any M a.kind a.c a.key a.value A1 B1 n c1 n' d1 v1 HRk2.out HCk2.out).mono ?_
  rw [HPP.out]
  rintro e w3 ⟨A3, n3, e3, h3, A4, n4, e4, h4, rfl, hor, hoc, hb⟩
  dsimp only at hor hoc ⊢
  have HL3 := Lib.hid (HL2.out.trans (hb.mono HL2.out.size))
  have HB23 := Lib.hid (blk_keep hb HB22.out (blk_lt HB22.out))
  have HB33 := Lib.hid (blk_keep hb HB32.out (blk_lt HB32.out))
  have HB53 := Lib.hid (blk_keep hb HB5.out (blk_lt HB5.out))
  have HR3 : Hid (RowsOk w3 w3.heap.size A n c M.rows) := (HR2.out.below hb (Nat.le_refl _)).more hb.size
  have HC3 : Hid (ClientsOk w3 w3.heap.size A' n' c' M.clients) := (HC2.out.below hb (Nat.le_refl _)).more hb.size
  have HRk3 : Hid (RowsOk w3 w3.heap.size A1 n c1 M.rows) := (HRk2.out.below hb (Nat.le_refl _)).more hb.size
  have HCk3 : Hid (ClientsOk w3 w3.heap.size B1 n' d1 M.clients) := (HCk2.out.below hb (Nat.le_refl _)).more hb.size
  have HX3 : Hid (RowsOk w3 w3.heap.size A3 n3 e3 M'.rows) := hor.ok HSZ.out.sized.1
  have HY3 : Hid (ClientsOk w3 w3.heap.size A4 n4 e4 M'.clients) := hoc.ok HSZ.out.sized.2
  clear hor hoc hb hc3 hf3 hc5 hf5 HL2 HB22 HB32 HB5 HR2 HC2 HRk2 HCk2
  obtain ⟨hc2, hf2⟩ := blk_read HB23.out
  obtain ⟨hc3, hf3⟩ := blk_read HB33.out
  go_upto_region 3 with (fail)
  obtain ⟨v4, hv4⟩ : ∃ v4, v4 = (w3.alloc (.cells #[.slice A3 n3 e3, .int .i64 M'.clock, .slice A4 n4 e4] 36)).alloc (.cells #[.int .i64 o.code, .bool o.is, .string o.value, .int .i64 o.phase, .int .i64 o.time] 41) := ⟨_, rfl⟩
  rw [← hv4]
  obtain ⟨hb, h6, h7⟩ : Below w3.heap.size w3 v4 ∧ v4.heap[w3.heap.size]? = some (.cells #[.slice A3 n3 e3, .int .i64 M'.clock, .slice A4 n4 e4] 36 (0, 0)) ∧ v4.heap[w3.heap.size + 1]? = some (.cells #[.int .i64 o.code, .bool o.is, .string o.value, .int .i64 o.phase, .int .i64 o.time] 41 (0, 0)) := by rw [hv4]; exact blk_new2 w3
  obtain ⟨g6, hg6⟩ : ∃ g6, g6 = w3.heap.size := ⟨_, rfl⟩
  obtain ⟨g7, hg7⟩ : ∃ g7, g7 = g6 + 1 := ⟨_, rfl⟩
  rw [← hg6] at h6
  rw [← hg6, ← hg7] at h7
  rw [← hg6, ← hg7]
  have HB6 := Lib.hid h6
  have HB7 := Lib.hid h7
  have HL4 := Lib.hid (HL3.out.trans (hb.mono HL3.out.size))
  have HB24 := Lib.hid (blk_keep hb HB23.out (blk_lt HB23.out))
  have HB34 := Lib.hid (blk_keep hb HB33.out (blk_lt HB33.out))
  have HB54 := Lib.hid (blk_keep hb HB53.out (blk_lt HB53.out))
  have HR4 : Hid (RowsOk v4 v4.heap.size A n c M.rows) := (HR3.out.below hb (Nat.le_refl _)).more hb.size
  have HC4 : Hid (ClientsOk v4 v4.heap.size A' n' c' M.clients) := (HC3.out.below hb (Nat.le_refl _)).more hb.size
  have HRk4 : Hid (RowsOk v4 v4.heap.size A1 n c1 M.rows) := (HRk3.out.below hb (Nat.le_refl _)).more hb.size
  have HCk4 : Hid (ClientsOk v4 v4.heap.size B1 n' d1 M.clients) := (HCk3.out.below hb (Nat.le_refl _)).more hb.size
  have HX4 : Hid (RowsOk v4 v4.heap.size A3 n3 e3 M'.rows) := (HX3.out.below hb (Nat.le_refl _)).more hb.size
  have HY4 : Hid (ClientsOk v4 v4.heap.size A4 n4 e4 M'.clients) := (HY3.out.below hb (Nat.le_refl _)).more hb.size
  clear hv4 hb hg6 hg7 h6 h7 hc2 hf2 hc3 hf3 HL3 HB23 HB33 HB53 HR3 HC3 HRk3 HCk3 HX3 HY3
  obtain ⟨hc2, hf2⟩ := blk_read HB24.out
  obtain ⟨hc3, hf3⟩ := blk_read HB34.out
  go_wp2_with fail
  refine (didOf_any M a.kind a.c a.key a.value A A' n c n' c' v4 HR4.out HC4.out HK.out).mono ?_
  rw [HPP.out]
  rintro e w5 ⟨A5, n5, e5, h5, A6, n6, e6, h6, rfl, hor, hoc, hb⟩
  dsimp only at hor hoc ⊢
  have hn5 : n5 = n3 := by rw [← hor.1, HX4.out.len]
  have hn6 : n6 = n4 := by rw [← hoc.1, HY4.out.len]
  subst hn5 hn6
  have HL5 := Lib.hid (HL4.out.trans (hb.mono HL4.out.size))
  have HB25 := Lib.hid (blk_keep hb HB24.out (blk_lt HB24.out))
  have HB55 := Lib.hid (blk_keep hb HB54.out (blk_lt HB54.out))
  have HB65 := Lib.hid (blk_keep hb HB6.out (blk_lt HB6.out))
  have HB75 := Lib.hid (blk_keep hb HB7.out (blk_lt HB7.out))
  have HR5 : Hid (RowsOk w5 w5.heap.size A n c M.rows) := (HR4.out.below hb (Nat.le_refl _)).more hb.size
  have HC5 : Hid (ClientsOk w5 w5.heap.size A' n' c' M.clients) := (HC4.out.below hb (Nat.le_refl _)).more hb.size
  have HRk5 : Hid (RowsOk w5 w5.heap.size A1 n c1 M.rows) := (HRk4.out.below hb (Nat.le_refl _)).more hb.size
  have HCk5 : Hid (ClientsOk w5 w5.heap.size B1 n' d1 M.clients) := (HCk4.out.below hb (Nat.le_refl _)).more hb.size
  have HX5 : Hid (RowsOk w5 w5.heap.size A3 n5 e3 M'.rows) := (HX4.out.below hb (Nat.le_refl _)).more hb.size
  have HY5 : Hid (ClientsOk w5 w5.heap.size A4 n6 e4 M'.clients) := (HY4.out.below hb (Nat.le_refl _)).more hb.size
  have HZ5 : Hid (RowsOk w5 w5.heap.size A5 n5 e5 M'.rows) := hor.ok HSZ.out.sized.1
  have HW5 : Hid (ClientsOk w5 w5.heap.size A6 n6 e6 M'.clients) := hoc.ok HSZ.out.sized.2
  clear hor hoc hb hc2 hf2 hc3 hf3 HL4 HB24 HB34 HB54 HB6 HB7 HR4 HC4 HRk4 HCk4 HX4 HY4
  go_upto_region 4 with (fail)
  obtain ⟨v6, hv6⟩ : ∃ v6, v6 = (w5.alloc (.cells #[.slice A5 n5 e5, .int .i64 M'.clock, .slice A6 n6 e6] 36)).alloc (.cells #[.int .i64 o.code, .bool o.is, .string o.value, .int .i64 o.phase, .int .i64 o.time] 41) := ⟨_, rfl⟩
  rw [← hv6]
  obtain ⟨hb, h9, h10⟩ : Below w5.heap.size w5 v6 ∧ v6.heap[w5.heap.size]? = some (.cells #[.slice A5 n5 e5, .int .i64 M'.clock, .slice A6 n6 e6] 36 (0, 0)) ∧ v6.heap[w5.heap.size + 1]? = some (.cells #[.int .i64 o.code, .bool o.is, .string o.value, .int .i64 o.phase, .int .i64 o.time] 41 (0, 0)) := by rw [hv6]; exact blk_new2 w5
  obtain ⟨g9, hg9⟩ : ∃ g9, g9 = w5.heap.size := ⟨_, rfl⟩
  obtain ⟨g10, hg10⟩ : ∃ g10, g10 = g9 + 1 := ⟨_, rfl⟩
  rw [← hg9] at h9
  rw [← hg9, ← hg10] at h10
  rw [← hg9, ← hg10]
  have HB9 := Lib.hid h9
  have HB10 := Lib.hid h10
  have HL6 := Lib.hid (HL5.out.trans (hb.mono HL5.out.size))
  have HB26 := Lib.hid (blk_keep hb HB25.out (blk_lt HB25.out))
  have HB56 := Lib.hid (blk_keep hb HB55.out (blk_lt HB55.out))
  have HB66 := Lib.hid (blk_keep hb HB65.out (blk_lt HB65.out))
  have HB76 := Lib.hid (blk_keep hb HB75.out (blk_lt HB75.out))
  have HR6 : Hid (RowsOk v6 v6.heap.size A n c M.rows) := (HR5.out.below hb (Nat.le_refl _)).more hb.size
  have HC6 : Hid (ClientsOk v6 v6.heap.size A' n' c' M.clients) := (HC5.out.below hb (Nat.le_refl _)).more hb.size
  have HRk6 : Hid (RowsOk v6 v6.heap.size A1 n c1 M.rows) := (HRk5.out.below hb (Nat.le_refl _)).more hb.size
  have HCk6 : Hid (ClientsOk v6 v6.heap.size B1 n' d1 M.clients) := (HCk5.out.below hb (Nat.le_refl _)).more hb.size
  have HX6 : Hid (RowsOk v6 v6.heap.size A3 n5 e3 M'.rows) := (HX5.out.below hb (Nat.le_refl _)).more hb.size
  have HY6 : Hid (ClientsOk v6 v6.heap.size A4 n6 e4 M'.clients) := (HY5.out.below hb (Nat.le_refl _)).more hb.size
  have HZ6 : Hid (RowsOk v6 v6.heap.size A5 n5 e5 M'.rows) := (HZ5.out.below hb (Nat.le_refl _)).more hb.size
  have HW6 : Hid (ClientsOk v6 v6.heap.size A6 n6 e6 M'.clients) := (HW5.out.below hb (Nat.le_refl _)).more hb.size
  clear hv6 hb hg9 hg10 h9 h10 HL5 HB25 HB55 HB65 HB75 HR5 HC5 HRk5 HCk5 HX5 HY5 HZ5 HW5
  obtain ⟨hc2, hf2⟩ := blk_read HB26.out
  obtain ⟨hc5, hf5⟩ := blk_read HB56.out
  obtain ⟨hc6, hf6⟩ := blk_read HB66.out
  obtain ⟨hc7, hf7⟩ := blk_read HB76.out
  obtain ⟨hc9, hf9⟩ := blk_read HB9.out
  obtain ⟨hc10, hf10⟩ := blk_read HB10.out
  have htl : (o.value.toList == o.value.toList) = true := by simp
  go_wp2_with fail
  refine (sameWorld_any M' A3 A5 A4 A6 n5 e3 e5 n6 e4 e6 v6 HX6.out HZ6.out HY6.out HW6.out).mono ?_
  rintro e w7 ⟨rfl, hb⟩
  have HL7 := Lib.hid (HL6.out.trans (hb.mono HL6.out.size))
  have HB27 := Lib.hid (blk_keep hb HB26.out (blk_lt HB26.out))
  have HB57 := Lib.hid (blk_keep hb HB56.out (blk_lt HB56.out))
  have HR7 : Hid (RowsOk w7 w7.heap.size A n c M.rows) := (HR6.out.below hb (Nat.le_refl _)).more hb.size
  have HC7 : Hid (ClientsOk w7 w7.heap.size A' n' c' M.clients) := (HC6.out.below hb (Nat.le_refl _)).more hb.size
  have HRk7 : Hid (RowsOk w7 w7.heap.size A1 n c1 M.rows) := (HRk6.out.below hb (Nat.le_refl _)).more hb.size
  have HCk7 : Hid (ClientsOk w7 w7.heap.size B1 n' d1 M.clients) := (HCk6.out.below hb (Nat.le_refl _)).more hb.size
  clear hb hc2 hf2 hc5 hf5 hc6 hf6 hc7 hf7 hc9 hf9 hc10 hf10 HL6 HB26 HB56 HB66 HB76 HR6 HC6 HRk6 HCk6 HX6 HY6 HZ6 HW6
  obtain ⟨hc2, hf2⟩ := blk_read HB27.out
  obtain ⟨hc5, hf5⟩ := blk_read HB57.out
  go_wp2_with fail
  refine (sameWorld_any M A1 A B1 A' n c1 c n' d1 c' w7 HRk7.out HR7.out HCk7.out HC7.out).mono ?_
  rintro e w8 ⟨rfl, hb⟩
  have HL8 := Lib.hid (HL7.out.trans (hb.mono HL7.out.size))
  clear hb
  go_wp2_with fail
  go_ret
  exact ⟨rfl, HL8.out⟩

open Go.ChangeShapes Go.WideShapes Go.ChangeAt
open Go.ChangeMaps (open_string shut_string)
set_option maxRecDepth 100000 in
theorem txnDoes_lifted (os : Os) (started : os.Started) (H : Type) (enc : TypeId × Value → H) :
    ReturnsInHanded {} Try.checked os 4 .any (Rows.txnDoesSpec.pre6 enc Try.prog Try.f4 Rows.txnDoesRow.domain false) (Rows.txnDoesSpec.post enc Try.prog Try.f4 false true false false) := by
  refine returnsInHanded_of_change_sized (C := Try.checked) own started (by kernel_rfl) Try.func4
    (ChangeSpec.witness6 (enc := enc) (C := Try.checked) false ⟨#[], #[.agg #[.slice none 0 0, .int .i64 0, .slice none 0 0], .agg #[.int .i64 0, .int .i64 0, .string ⟨#[]⟩, .string ⟨#[]⟩]], []⟩ 8 (by kernel_rfl) (by kernel_rfl) (by kernel_rfl) (by kernel_rfl)) ?_
  intro W base args ds gs before hval0 hW hcnd hsz0 _
  have hval : ∀ (j : Nat) t v, Try.f4.params[j]? = some t → args[j]? = some v → Value.okWide Try.prog W .any base t v := hval0
  have hsz : (DataW.weightsEach Try.prog (Try.f4.params.toList ++ Rows.txnDoesSpec.plain.varTypes Try.prog) (ds ++ gs)).all (· ≤ reachBytes) = true := hsz0
  clear hsz0
  have hW' := hW
  obtain ⟨p, q, hA0, hV, rfl, hfz, hnd⟩ := hW
  have hA : DataW.TrodAll enc Try.prog W 0 (fun _ => true) true Try.f4.params.toList args.toList ds p := hA0
  rw [Try.params4] at hA hval hsz
  obtain ⟨v0, vs0, d0, ds0, p0, q0, hargs, rfl, rfl, h0, r0⟩ := trodAll_cons hA
  obtain ⟨v1, vs1, d1, ds1, p1, q1, rfl, rfl, rfl, h1, r1⟩ := trodAll_cons r0
  obtain ⟨rfl, rfl, rfl⟩ := trodAll_nil r1
  obtain rfl : args = #[v0, v1] := by cases args; simp_all
  obtain ⟨rfl, rfl⟩ := trodVars_none hV
  have k0 := h0
  have lt0 : ∀ x ∈ p0, x.block < W.heap.size := by obtain ⟨m, hm⟩ := k0; exact DataW.trod_lt m _ _ _ hm
  have k1 := h1
  have lt1 : ∀ x ∈ p1, x.block < W.heap.size := by obtain ⟨m, hm⟩ := k1; exact DataW.trod_lt m _ _ _ hm
  obtain ⟨m0, A0, B0, n0, c0, d0, e0, rfl, ok0, ko0⟩ := open_world_arg (hval 0 36 v0 rfl rfl) h0 (weights_of hsz (j := 0) rfl rfl)
  obtain ⟨m1, rfl, ok1⟩ := open_act_arg (hval 1 38 v1 rfl rfl) h1
  clear hA0 hval0 hsz
  refine (txnDoes_walk m0 A0 B0 n0 c0 d0 e0 m1 W ok0 ko0 ok1).mono fun e W' ⟨he, bel⟩ => ?_
  subst he
  exact ⟨_, rfl, _, _, _, [], _, [], hW', trodAll_mk1 (shut_bool Try.underlying4 _), (trodAll_cons_mk (Below.trod laidOut (by kernel_rfl) (of_decide_eq_true (by kernel_rfl)) k0 bel lt0) (trodAll_cons_mk (Below.trod laidOut (by kernel_rfl) (of_decide_eq_true (by kernel_rfl)) k1 bel lt1) trodAll_mk0)), rfl, bel.frame _, fun h => by cases h⟩

theorem txnDoes_holds : Rows.TxnDoesSaid :=
  OpenClaim.holds_of_wide 4 Try.f4 rfl rfl rfl rfl rfl rfl rfl ⟨rfl, rfl, rfl, rfl, rfl⟩ rfl rfl rfl rfl rfl (by kernel_rfl) Try.func4 (by kernel_rfl)
    (of_decide_eq_true (by kernel_rfl)) (by unfold Func.isWrapper; first | (rw [if_pos (by decide +kernel)]; kernel_rfl) | (rw [if_neg (by decide +kernel)]; exact ⟨rfl, rfl⟩))
    (fun os started H enc _ => txnDoes_lifted os started H enc)
#print axioms txnDoes_holds
end Go.Proofs.Ytniomgngiiiklab
