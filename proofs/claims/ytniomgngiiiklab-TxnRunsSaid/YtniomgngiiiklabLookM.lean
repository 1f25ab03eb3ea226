/- The memory of the reference's world while it is being changed, told by the blocks' types. No walk. -/
import Derived.Test.YtniomgngiiiklabAtM
import Derived.Test.YtniomgngiiiklabPlainM
import Derived.Test.YtniomgngiiiklabOwnsM
import Derived.LoopTactic
import Derived.Deep.DeepCutAuto
import Derived.Deep.CutBlock
import Derived.Test.YtniomgngiiiklabCopiesM
namespace Go.Proofs.Ytniomgngiiiklab
open Go.RowKit

/-- A world in memory of one's own: its rows, its clients (in block gc). -/
structure RefAt (w : World) (base gc : Nat) (M : MWorld) (A : Option Addr) (n c m c' : Nat) (H H' : Heads) : Prop where
  rows : OwnRows w base A n c M.rows H
  clients : OwnClients w base (some ⟨gc, 0, none⟩) m c' M.clients H'
section
variable {ts : List TypeId} {base gc C n c m c' : Nat} {w w' : World} {M : MWorld} {A : Option Addr} {H H' : Heads}
theorem RefAt.keep (h : RefAt w base gc M A n c m c' H H') (hk : Keeps ts base w w') (ht : 26 ∉ ts ∧ 55 ∉ ts ∧ 58 ∉ ts ∧ 76 ∉ ts) : RefAt w' base gc M A n c m c' H H' :=
  ⟨hk.rows h.rows ht.1 ht.2.1, hk.clients h.clients ht.2.2.1 ht.2.2.2⟩
theorem RefAt.size (h : RefAt w base gc M A n c m c' H H') : base ≤ w.heap.size := by
  obtain ⟨cur, hg, hb⟩ := own_blk h.clients.2.2.1
  exact Nat.le_of_lt (Nat.lt_of_le_of_lt hb (blk_lt hg))
theorem RefAt.lt (h : RefAt w base gc M A n c m c' H H') : base ≤ gc ∧ gc < w.heap.size := by
  obtain ⟨cur, hg, hb⟩ := own_blk h.clients.2.2.1
  exact ⟨hb, blk_lt hg⟩
theorem RefAt.below {B : Nat} (h : RefAt w base gc M A n c m c' H H') (hb : Below B w w') (hB : w.heap.size ≤ B) : RefAt w' base gc M A n c m c' H H' :=
  h.keep (ts := []) (Keeps.of_below hb hB h.size) ⟨by simp, by simp, by simp, by simp⟩
theorem RefAt.rowsTo {A2 : Option Addr} {n2 c2 : Nat} {H2 : Heads} {l : List MRow} {B : Nat} (h : RefAt w base gc M A n c m c' H H') (hb : Below B w w') (hB : w.heap.size ≤ B) (hr : OwnRows w' base A2 n2 c2 l H2) : RefAt w' base gc { M with rows := l } A2 n2 c2 m c' H2 H' :=
  ⟨hr, (h.below hb hB).clients⟩
theorem RefAt.drewN (h : RefAt w base gc M A n c m c' H H') (k : Nat) : RefAt (w.drewN k) base gc M A n c m c' H H' := h.keep (ts := []) ((Keeps.refl [] base w).drewN k) ⟨by simp, by simp, by simp, by simp⟩
theorem RefAt.drew (h : RefAt w base gc M A n c m c' H H') : RefAt w.drew base gc M A n c m c' H H' := h.keep (ts := []) (Keeps.refl [] base w).drew ⟨by simp, by simp, by simp, by simp⟩
theorem RefAt.head (h : RefAt w base gc M A n c m c' H H') {x : MClient} (hx : M.clients[C]? = some x) : C < m ∧ ∃ hd, H'[C]? = some hd := by
  have hl := (List.getElem?_eq_some_iff.1 hx).1
  have h1 := h.clients.1
  have h2 := h.clients.2.1
  exact ⟨by omega, H'[C]'(by omega), List.getElem?_eq_getElem _⟩
/-- The cells of a client. -/
theorem RefAt.cells (h : RefAt w base gc M A n c m c' H H') {x : MClient} {hd : Option Addr × Nat} (hx : M.clients[C]? = some x) (hh : H'[C]? = some hd) :
    w.cell? ⟨gc, C * 5, none⟩ = some (.int .i64 x.phase) ∧ w.cell? ⟨gc, C * 5 + 1, none⟩ = some (.int .i64 x.start) ∧ w.cell? ⟨gc, C * 5 + 2, none⟩ = some (.int .i64 x.commit) ∧ w.cell? ⟨gc, C * 5 + 3, none⟩ = some (.slice hd.1 x.writes.length hd.2) ∧ w.cell? ⟨gc, C * 5 + 4, none⟩ = some (.int .i64 x.at_) := by
  have hc : ∀ i u, (clientCells x hd.1 x.writes.length hd.2)[i]? = some u → w.cell? ⟨gc, C * 5 + i, none⟩ = some u := fun i u hu => by
    obtain ⟨g, e, _, hcell⟩ := own_cell h.clients.2.2.1 (clientsCells_at hx hh hu)
    injection e with e; injection e with e
    rw [e]; exact hcell
  exact ⟨hc 0 _ rfl, hc 1 _ rfl, hc 2 _ rfl, hc 3 _ rfl, hc 4 _ rfl⟩
theorem RefAt.frozen (h : RefAt w base gc M A n c m c' H H') : ∀ i, w.frozen? ⟨gc, i, none⟩ = false := by
  obtain ⟨cur, hg, _⟩ := own_blk h.clients.2.2.1
  exact (blk_read hg).2
/-- The writes of a client. -/
theorem RefAt.writes (h : RefAt w base gc M A n c m c' H H') {x : MClient} {hd : Option Addr × Nat} (hx : M.clients[C]? = some x) (hh : H'[C]? = some hd) : w.ownsRow base 76 2 (.slice hd.1 x.writes.length hd.2) x.writes.length (writeCells x.writes) := h.clients.2.2.2.1 C x hd hx hh
/-- A client put in the place of another. -/
theorem RefAt.put {x : MClient} {A2 : Option Addr} {c2 : Nat} (h : RefAt w base gc M A n c m c' H H') (hC : C < m) (hrec : w.ownsRow base 76 2 (.slice A2 x.writes.length c2) x.writes.length (writeCells x.writes))
    (hd : ∀ (j : Nat) (q : Option Addr × Nat), j ≠ C → H'[j]? = some q → (Value.slice q.1 0 0).ownBlock ≠ none → (Value.slice q.1 0 0).ownBlock ≠ (Value.slice A2 0 0).ownBlock) :
    RefAt (((((w.setCell ⟨gc, C * 5, none⟩ (.int .i64 x.phase)).setCell ⟨gc, C * 5 + 1, none⟩ (.int .i64 x.start)).setCell ⟨gc, C * 5 + 2, none⟩ (.int .i64 x.commit)).setCell ⟨gc, C * 5 + 3, none⟩ (.slice A2 x.writes.length c2)).setCell ⟨gc, C * 5 + 4, none⟩ (.int .i64 x.at_)) base gc (setC M C x) A n c m c' H (H'.set C (A2, c2)) ∧
    Keeps [58] base w (((((w.setCell ⟨gc, C * 5, none⟩ (.int .i64 x.phase)).setCell ⟨gc, C * 5 + 1, none⟩ (.int .i64 x.start)).setCell ⟨gc, C * 5 + 2, none⟩ (.int .i64 x.commit)).setCell ⟨gc, C * 5 + 3, none⟩ (.slice A2 x.writes.length c2)).setCell ⟨gc, C * 5 + 4, none⟩ (.int .i64 x.at_)) := by
  obtain ⟨cur, hg, hb⟩ := own_blk h.clients.2.2.1
  have hk5 := Keeps.set5 (ts := [58]) hg (by simp) hb (C * 5) (C * 5 + 1) (C * 5 + 2) (C * 5 + 3) (C * 5 + 4) (.int .i64 x.phase) (.int .i64 x.start) (.int .i64 x.commit) (.slice A2 x.writes.length c2) (.int .i64 x.at_)
  exact ⟨⟨hk5.rows h.rows (by decide) (by decide), h.clients.put5 hC hrec hd⟩, hk5⟩
theorem RefAt.putZero (h : RefAt w base gc M A n c m c' H H') (hC : C < m) :
    RefAt (((((w.setCell ⟨gc, C * 5, none⟩ (.int .i64 0)).setCell ⟨gc, C * 5 + 1, none⟩ (.int .i64 0)).setCell ⟨gc, C * 5 + 2, none⟩ (.int .i64 0)).setCell ⟨gc, C * 5 + 3, none⟩ (.slice none 0 0)).setCell ⟨gc, C * 5 + 4, none⟩ (.int .i64 0)) base gc (setC M C zeroClient) A n c m c' H (H'.set C (none, 0)) ∧
    Keeps [58] base w (((((w.setCell ⟨gc, C * 5, none⟩ (.int .i64 0)).setCell ⟨gc, C * 5 + 1, none⟩ (.int .i64 0)).setCell ⟨gc, C * 5 + 2, none⟩ (.int .i64 0)).setCell ⟨gc, C * 5 + 3, none⟩ (.slice none 0 0)).setCell ⟨gc, C * 5 + 4, none⟩ (.int .i64 0)) :=
  h.put (x := zeroClient) (A2 := none) (c2 := 0) hC (World.ownsRow_nil _ _ _ _) (fun _ _ _ _ hn => hn)
/-- A client with the writes of the one in whose place it is put. -/
theorem RefAt.putSame {x y : MClient} {hd : Option Addr × Nat} (h : RefAt w base gc M A n c m c' H H') (hx : M.clients[C]? = some y) (hh : H'[C]? = some hd) (hw : x.writes = y.writes) :
    RefAt (((((w.setCell ⟨gc, C * 5, none⟩ (.int .i64 x.phase)).setCell ⟨gc, C * 5 + 1, none⟩ (.int .i64 x.start)).setCell ⟨gc, C * 5 + 2, none⟩ (.int .i64 x.commit)).setCell ⟨gc, C * 5 + 3, none⟩ (.slice hd.1 x.writes.length hd.2)).setCell ⟨gc, C * 5 + 4, none⟩ (.int .i64 x.at_)) base gc (setC M C x) A n c m c' H H' ∧
    Keeps [58] base w (((((w.setCell ⟨gc, C * 5, none⟩ (.int .i64 x.phase)).setCell ⟨gc, C * 5 + 1, none⟩ (.int .i64 x.start)).setCell ⟨gc, C * 5 + 2, none⟩ (.int .i64 x.commit)).setCell ⟨gc, C * 5 + 3, none⟩ (.slice hd.1 x.writes.length hd.2)).setCell ⟨gc, C * 5 + 4, none⟩ (.int .i64 x.at_)) := by
  have hk := h.put (x := x) (A2 := hd.1) (c2 := hd.2) (h.head hx).1 (by rw [hw]; exact h.writes hx hh) (fun j q hj hq hn => h.clients.2.2.2.2 j C q hd hj hq hh hn)
  have e : H'.set C (hd.1, hd.2) = H' := by
    obtain ⟨hl, e⟩ := List.getElem?_eq_some_iff.1 hh
    rw [show (hd.1, hd.2) = hd from rfl, ← e]
    exact List.set_getElem_self hl
  rw [e] at hk
  exact hk
end
/-- What comes behind touches no old block. -/
theorem Keeps.past {w w' w'' : World} {base : Nat} {ts : List TypeId} (h : Keeps ts base w w') (hb : Below w.heap.size w' w'') (hbase : base ≤ w.heap.size) : Keeps ts base w w'' :=
  ⟨h.below.trans (hb.mono hbase), fun g cs t hg ht => (hb.block g (blk_lt hg)).trans (h.block g cs t hg ht), fun g cs t hg h1 h2 => by
    obtain ⟨c1, e1, s1⟩ := h.shape g cs t hg h1 h2
    exact ⟨c1, (hb.block g (blk_lt hg)).trans e1, s1⟩⟩
theorem Keeps.set3r {w : World} {base g : Nat} {ts : List TypeId} {t : TypeId} {cs : Array Value} (hg : w.heap[g]? = some (.cells cs t (0, 0))) (ht : t ∈ ts) (hb : base ≤ g) (i1 i2 i3 : Nat) (a b c : Value) :
    Keeps ts base w (((w.setCell ⟨g, i1, none⟩ a).setCell ⟨g, i2, none⟩ b).setCell ⟨g, i3, none⟩ c) :=
  (((Keeps.refl ts base w).set hg ht hb a).set (blk_set hg i1 a) ht hb b).set (blk_set (blk_set hg i1 a) i2 b) ht hb c
theorem blk_row3r {w : World} {g : Nat} {t : TypeId} {a b c : Value} (h : w.heap[g]? = some (.cells #[a, b, c] t (0, 0))) (a' b' c' : Value) :
    (((w.setCell ⟨g, 0, none⟩ a').setCell ⟨g, 1, none⟩ b').setCell ⟨g, 2, none⟩ c').heap[g]? = some (.cells #[a', b', c'] t (0, 0)) := blk_set (blk_set (blk_set h 0 a') 1 b') 2 c'
end Go.Proofs.Ytniomgngiiiklab

/- The walks of the reference's writeAt and rowOf. -/
namespace Go.Proofs.Ytniomgngiiiklab
open Go.RowKit

/-- Where a key's write stands. -/
def wAt (ws : List MWrite) (k : ByteArray) : Int := fstIdx (fun y : MWrite => decide (y.key = k)) ws
theorem wAt_none {ws : List MWrite} {k : ByteArray} (h : writeOf ws k = none) : wAt ws k = -1 :=
  fstIdx_miss _ _ fun j y hy => by
    have := List.find?_eq_none.1 h y (List.mem_of_getElem? hy)
    simpa using this
theorem wAt_some {ws : List MWrite} {k : ByteArray} {y : MWrite} (h : writeOf ws k = some y) : ∃ j : Nat, wAt ws k = j ∧ ws[j]? = some y := by
  unfold writeOf at h
  obtain ⟨hp, i, hi, he, hb⟩ := List.find?_eq_some_iff_getElem.1 h
  refine ⟨i, ?_, by rw [List.getElem?_eq_getElem hi, he]⟩
  exact fstIdx_hit (fun y : MWrite => decide (y.key = k)) ws i y (by rw [List.getElem?_eq_getElem hi, he]) hp (fun j z hj hz => by
    obtain ⟨hjl, rfl⟩ := List.getElem?_eq_some_iff.1 hz
    have := hb j hj
    simpa using this)

theorem key_dec {a b : ByteArray} : (a.toList == b.toList) = decide (a = b) := by
  by_cases h : a = b
  · subst h; simp
  · rw [decide_eq_false h]
    cases he : (a.toList == b.toList)
    · rfl
    · exact absurd (toList_inj (by simpa using he)) h

set_option maxHeartbeats 1000000 in
theorem writeAt_any (ws : List MWrite) (k : ByteArray) (A : Option Addr) (n c : Nat) (w : World) (h : WritesOk w w.heap.size A n c ws) :
    Calls Try.prog 30 #[.slice A n c, .string k] w fun e w' => e = .returned (.int .i64 (wAt ws k)) ∧ w = w' := by
  have H := Lib.hid h
  have Hn := Lib.hid h.at_.1
  have hsm := h.small
  clear h
  go_enter Try.func30, Try.ntmps30
  go_wp2_with fail
  go_loopw [5] (fun i wr => (∃ j : Nat, j ≤ n ∧ i = .int .i64 j ∧ ∀ (m : Nat) (y : MWrite), m < j → ws[m]? = some y → decide (y.key = k) = false) ∧ w = wr) (fun i _ => n - (intOf i).toNat)
  case atStart => exact ⟨⟨0, Nat.zero_le _, rfl, by intro m y h; omega⟩, rfl⟩
  case round =>
    obtain ⟨⟨j, hj, rfl, hb⟩, rfl⟩ := hrel
    have HB := Lib.hid hb
    clear hb
    by_cases hlt : j < n
    · obtain ⟨y, b, off, hy, rfl, hbb, g0, g1⟩ := H.out.at_.at_ hlt
      have HY := Lib.hid hy
      clear hy
      have hkd := key_dec (a := y.key) (b := k)
      cases hd : decide (y.key = k)
      · rw [hd] at hkd
        have HN := Lib.hid (none_snoc (p := fun y : MWrite => decide (y.key = k)) HY.out hd HB.out)
        clear hd
        go_wp2_with fail
        go_roundw
        case rel => exact ⟨⟨j + 1, by omega, by go_num, HN.out⟩, by first | rfl | trivial⟩
        case measure => simp [intOf]; omega
      · rw [hd] at hkd
        have HE : Hid (wAt ws k = j) := fstIdx_hit (fun y : MWrite => decide (y.key = k)) ws j y HY.out hd HB.out
        clear hd
        go_wp2_with fail
        go_ret
        rw [HE.out]
        exact ⟨rfl, rfl⟩
    · have HE : Hid (wAt ws k = -1) := fstIdx_miss _ _ (none_all (k := j) (by rw [Hn.out]; omega) HB.out)
      go_wp2_with fail
      go_ret
      rw [HE.out]
      exact ⟨rfl, rfl⟩

theorem rowAt_hit {l : List MRow} {k : ByteArray} {j : Nat} {y : MRow} (hy : l[j]? = some y) (hp : decide (y.key = k) = true) (hb : ∀ (m : Nat) (z : MRow), m < j → l[m]? = some z → decide (z.key = k) = false) : rowAt l k = some y := by
  obtain ⟨hj, rfl⟩ := List.getElem?_eq_some_iff.1 hy
  unfold rowAt
  exact List.find?_eq_some_iff_getElem.2 ⟨hp, j, hj, rfl, fun m hm => by rw [hb m _ hm (List.getElem?_eq_getElem (by omega))]; rfl⟩
theorem rowAt_miss {l : List MRow} {k : ByteArray} (hb : ∀ (m : Nat) (z : MRow), l[m]? = some z → decide (z.key = k) = false) : rowAt l k = none := by
  unfold rowAt
  rw [List.find?_eq_none]
  intro z hz
  obtain ⟨m, hm⟩ := List.getElem?_of_mem hz
  rw [hb m z hm]; decide
/-- What rowOf hands back: a key's row, an empty one, if there is none. -/
def RowOfRet (w : World) (l : List MRow) (k : ByteArray) (e : Ending) (w' : World) : Prop :=
  ∃ A n c, e = .returned (.tuple #[.agg #[.string (rv l k).key, .int .i64 (rv l k).ls, .string (rv l k).lp, .string (rv l k).value, .slice A n c], .bool (rowAt l k).isSome]) ∧ RowOk w' w'.heap.size (rv l k) A n c ∧ Below w.heap.size w w'
theorem emptyRow_ok2 {w : World} {B : Nat} {k : ByteArray} (hk : k.size ≤ maxLen) : RowOk w B (emptyRow k) none 0 0 :=
  ⟨⟨⟨rfl, fun j x h => by simp [emptyRow] at h⟩, Nat.le_refl _, by decide, fun _ => rfl⟩, hk, by show (0 : Nat) ≤ _; omega⟩

set_option maxRecDepth 100000 in
set_option maxHeartbeats 2000000 in
theorem rowOf_any (l : List MRow) (clock : Int) (k : ByteArray) (A A' : Option Addr) (n c n' c' : Nat) (w : World) (hr : RowsOk w w.heap.size A n c l) (hks : k.size ≤ maxLen) :
    Calls Try.prog 32 #[.agg #[.slice A n c, .int .i64 clock, .slice A' n' c'], .string k] w (RowOfRet w l k) := by
  have HR := Lib.hid hr
  have Hn := Lib.hid hr.len
  have hsm := hr.small
  have HKS := Lib.hid hks
  clear hr hks
  go_enter Try.func32, Try.ntmps32
  go_upto_region 1 with (fail)
  obtain ⟨v, hv⟩ : ∃ v, v = (w.alloc (.cells #[.slice A n c, .int .i64 clock, .slice A' n' c'] 36)).alloc (.cells #[.string ⟨#[]⟩, .int .i64 0, .string ⟨#[]⟩, .string ⟨#[]⟩, .slice none 0 0] 26) := ⟨_, rfl⟩
  obtain ⟨g2, hg2⟩ : ∃ g2, g2 = w.heap.size := ⟨_, rfl⟩
  obtain ⟨g4, hg4⟩ : ∃ g4, g4 = g2 + 1 := ⟨_, rfl⟩
  rw [← hv, ← hg2, ← hg4]
  have HB2 : Hid (v.heap[g2]? = some (.cells #[.slice A n c, .int .i64 clock, .slice A' n' c'] 36 (0, 0))) := by show _ = _; rw [hv, hg2]; exact blk_old (blk_new w _ _) _
  have HB4 : Hid (v.heap[g4]? = some (.cells #[.string ⟨#[]⟩, .int .i64 0, .string ⟨#[]⟩, .string ⟨#[]⟩, .slice none 0 0] 26 (0, 0))) := by
    show _ = _
    have e : (w.alloc (.cells #[.slice A n c, .int .i64 clock, .slice A' n' c'] 36)).heap.size = g4 := by rw [hg4, hg2]; simp
    rw [← e, hv]; exact blk_new _ _ _
  have HL : Hid (Below w.heap.size w v) := by show Below _ _ _; rw [hv]; exact ((Below.refl _ w).alloc (Nat.le_refl _) _).alloc (by simp) _
  have HG : Hid (w.heap.size ≤ g4) := by show _ ≤ _; omega
  clear hv hg2 hg4
  obtain ⟨hc2, hf2⟩ := blk_read HB2.out
  go_wp2_with fail
  go_loopw [6] (fun i wr => (∃ j : Nat, j ≤ n ∧ i = .int .i64 j ∧ ∀ (m : Nat) (y : MRow), m < j → l[m]? = some y → decide (y.key = k) = false) ∧ v = wr) (fun i _ => n - (intOf i).toNat)
  case atStart => exact ⟨⟨0, Nat.zero_le _, rfl, by intro m y h; omega⟩, rfl⟩
  case round =>
    obtain ⟨⟨j, hj, rfl, hb⟩, rfl⟩ := hrel
    have HB := Lib.hid hb
    clear hb
    by_cases hlt : j < n
    · obtain ⟨r, b, off, A1, n1, c1, hr, rfl, hbb, hok, g0, g1, g2', g3, g4'⟩ := (HR.out.below HL.out (Nat.le_refl _)).row hlt
      have HRR := Lib.hid hr
      have HOK := Lib.hid hok
      clear hr hok
      have hkd := key_dec (a := r.key) (b := k)
      cases hd : decide (r.key = k)
      · rw [hd] at hkd
        have HN := Lib.hid (none_snoc (p := fun y : MRow => decide (y.key = k)) HRR.out hd HB.out)
        clear hd
        go_wp2_with fail
        go_roundw
        case rel => exact ⟨⟨j + 1, by omega, by go_num, HN.out⟩, by first | rfl | trivial⟩
        case measure => simp [intOf]; omega
      · rw [hd] at hkd
        have hat := rowAt_hit HRR.out hd HB.out
        have HAT := Lib.hid hat
        have HRV := Lib.hid (rv_some hat)
        clear hd hat
        obtain ⟨hc4, hf4⟩ := blk_read HB4.out
        go_upto_region 5 with (fail)
        go_cut [5] (fun s wx => s = .bool true ∧ wx.heap[g4]? = some (.cells #[.string r.key, .int .i64 r.ls, .string r.lp, .string r.value, .slice A1 n1 c1] 26 (0, 0)) ∧ Below w.heap.size w wx)
        case first =>
          go_wp2_with fail
          go_meet
          exact ⟨rfl, blk_row5 HB4.out _ _ _ _ _, (((((HL.out.setCell (p := ⟨g4, 0, none⟩) HG.out _).setCell (p := ⟨g4, 1, none⟩) HG.out _).setCell (p := ⟨g4, 2, none⟩) HG.out _).setCell (p := ⟨g4, 3, none⟩) HG.out _).setCell (p := ⟨g4, 4, none⟩) HG.out _)⟩
        case rest =>
          obtain ⟨rfl, hb4, hbx⟩ := hcut
          have HLx := Lib.hid hbx
          clear hbx hc2 hf2 hc4 hf4 hkd
          obtain ⟨hc4, hf4⟩ := blk_read hb4
          go_wp2_with fail
          refine bodyPost_ret (v := .tuple #[.agg #[.string r.key, .int .i64 r.ls, .string r.lp, .string r.value, .slice A1 n1 c1], .bool true]) (by simp [results, Try.results32, go_sem, hc4]) rfl ?_
          refine ⟨A1, n1, c1, by rw [HRV.out, HAT.out]; rfl, ?_, HLx.out⟩
          rw [HRV.out]
          exact (HOK.out.keepAt (fun g hg => (HLx.out.block g hg).trans (HL.out.block g hg).symm) (Nat.le_refl _)).more HLx.out.size
    · have hat : rowAt l k = none := rowAt_miss (none_all (p := fun y : MRow => decide (y.key = k)) (k := j) (by rw [Hn.out]; omega) HB.out)
      have HAT := Lib.hid hat
      have HRV := Lib.hid (rv_none hat)
      clear hat
      obtain ⟨hc4, hf4⟩ := blk_read HB4.out
      go_upto_region 6 with (fail)
      go_cut [5] (fun s wx => s = .bool false ∧ wx.heap[g4]? = some (.cells #[.string k, .int .i64 0, .string ⟨#[]⟩, .string ⟨#[]⟩, .slice none 0 0] 26 (0, 0)) ∧ Below w.heap.size w wx)
      case first =>
        go_wp2_with fail
        go_meet
        exact ⟨rfl, blk_row5 HB4.out _ _ _ _ _, (((((HL.out.setCell (p := ⟨g4, 0, none⟩) HG.out _).setCell (p := ⟨g4, 1, none⟩) HG.out _).setCell (p := ⟨g4, 2, none⟩) HG.out _).setCell (p := ⟨g4, 3, none⟩) HG.out _).setCell (p := ⟨g4, 4, none⟩) HG.out _)⟩
      case rest =>
        obtain ⟨rfl, hb4, hbx⟩ := hcut
        have HLx := Lib.hid hbx
        clear hbx hc2 hf2 hc4 hf4
        obtain ⟨hc4, hf4⟩ := blk_read hb4
        go_wp2_with fail
        refine bodyPost_ret (v := .tuple #[.agg #[.string k, .int .i64 0, .string ⟨#[]⟩, .string ⟨#[]⟩, .slice none 0 0], .bool false]) (by simp [results, Try.results32, go_sem, hc4]) rfl ?_
        exact ⟨none, 0, 0, by rw [HRV.out, HAT.out]; rfl, by rw [HRV.out]; exact emptyRow_ok2 HKS.out, HLx.out⟩
end Go.Proofs.Ytniomgngiiiklab

/- The walk of the reference's plus: a write in its place among others. -/
namespace Go.Proofs.Ytniomgngiiiklab
open Go.RowKit

theorem blk_news' {w : World} {g : Nat} {t : TypeId} {xs : List Value} (h : w.heap[g]? = some (.cells xs.toArray t (0, 0))) : ∀ j u, xs[j]? = some u → w.cell? ((⟨g, 0, none⟩ : Addr).add j) = some u := by
  intro j u hu
  rw [addr_add, (blk_read h).1]
  simpa using hu
/-- THE STEP: append of writes that lie in a block of their own to writes that are one's own. -/
theorem wpList_append_writes (w : World) {ops : Array Oper} {rest : List Oper} {o : Oper} {a : Act} {Q : Exit → Act → World → Prop} (hgd : o.guard = none) (s x : Operand)
    (ho : o.op = .call { callee := .builtin .append, args := #[s, x], argTypes := #[56, 56] }) (base : Nat) (A : Option Addr) (c n : Nat) (l nl : List MWrite) (hs : a.eval s = .slice A n c)
    (hown : w.ownsRow base 76 2 (.slice A n c) n (writeCells l)) (g m : Nat) (hx : a.eval x = .slice (some ⟨g, 0, none⟩) m m) (hm : nl.length = m) (hg : w.heap[g]? = some (.cells (writeCells nl).toArray 76 (0, 0)))
    (hn : n * 32 ≤ 140737488351233) (hm' : m ≤ 60) (hbase : base ≤ w.heap.size)
    (hK : ∀ (A' : Option Addr) (c' : Nat) (w' : World), w'.ownsRow base 76 2 (.slice A' (n + m) c') (n + m) (writeCells (l ++ nl)) → w.grownBy w' (Value.slice A n c).ownBlock → wpList Try.prog ops Q rest (a.put o.dst (.slice A' (n + m) c')) w') :
    wpList Try.prog ops Q (o :: rest) a w := by
  obtain ⟨i0, hi0, hz0, hz1, hz2⟩ := info_parts info_write
  refine wpList_append_own w hgd s x 56 ho base 76 i0 _ 2 32 Try.underlying56 hi0 hz0 hz1 hz2 rfl (by decide) (.slice A n c) n (writeCells l) hs hown ⟨g, 0, none⟩ m m (writeCells nl) hx (by rw [writeCells_length, hm]) (blk_news' hg) writeCells_one (by unfold maxLen; omega) (by omega) hbase ?_
  intro v' w' hown' hgr _
  obtain ⟨A', c', hv⟩ := own_slice hown'
  subst hv
  rw [← writeCells_append] at hown'
  exact hK A' c' w' hown' hgr
theorem geq_lt {a b : ByteArray} {t : Bool} (h : ltK a b = t) : Op.bytesLess a.toList b.toList = t := h
theorem fold_more {α β : Type} {f : α → β → α} {l : List β} {j : Nat} {y : β} (z : α) (h : l[j]? = some y) : (l.take (j + 1)).foldl f z = f ((l.take j).foldl f z) y := by
  obtain ⟨hj, rfl⟩ := List.getElem?_eq_some_iff.1 h
  rw [List.take_succ_eq_append_getElem hj, List.foldl_append]; rfl

set_option maxRecDepth 100000 in
set_option maxHeartbeats 4000000 in
theorem plus_any (ws : List MWrite) (x : MWrite) (A : Option Addr) (n c : Nat) (w : World) (h : WritesOk w w.heap.size A n c ws) (hn : n ≤ 6) :
    Calls Try.prog 34 #[.slice A n c, .agg #[.string x.key, .string x.value]] w fun e w' => ∃ A' c', e = .returned (.slice A' (refPutWrite ws x).length c') ∧ w'.ownsRow w.heap.size 76 2 (.slice A' (refPutWrite ws x).length c') (refPutWrite ws x).length (writeCells (refPutWrite ws x)) ∧ Below w.heap.size w w' := by
  have H := Lib.hid h
  have Hn := Lib.hid h.at_.1
  clear h
  obtain ⟨R, hR⟩ : ∃ R, R = refPutWrite ws x := ⟨_, rfl⟩
  rw [← hR]
  have HR := Lib.hid hR
  clear hR
  obtain ⟨nx, hnx⟩ : ∃ nx, nx = [x] := ⟨_, rfl⟩
  have HNX := Lib.hid hnx
  clear hnx
  go_enter Try.func34, Try.ntmps34
  go_upto_region 1 with (fail)
  obtain ⟨v, hv⟩ : ∃ v, v = w.alloc (.cells #[.string x.key, .string x.value] 76) := ⟨_, rfl⟩
  obtain ⟨g3, hg3⟩ : ∃ g3, g3 = w.heap.size := ⟨_, rfl⟩
  rw [← hv, ← hg3]
  have HB3 : Hid (v.heap[g3]? = some (.cells #[.string x.key, .string x.value] 76 (0, 0))) := by show _ = _; rw [hv, hg3]; exact blk_new w _ _
  have HLv : Hid (Below w.heap.size w v) := by show Below _ _ _; rw [hv]; exact (Below.refl _ w).alloc (Nat.le_refl _) _
  have HG3 : Hid (g3 = w.heap.size ∧ v.heap.size = g3 + 1) := by show _ ∧ _; rw [hv, hg3]; simp
  clear hv hg3
  go_wp2_with fail
  go_loopw [5, 6, 7] (fun s d i wr => (∃ j : Nat, j ≤ n ∧ i = .int .i64 j ∧ ∃ (A1 : Option Addr) (c1 m : Nat) (lst : List MWrite) (dn : Bool), s = .slice A1 m c1 ∧ d = .bool dn ∧ m = lst.length ∧ m ≤ j + 1 ∧ (dn = false → m ≤ j) ∧ (ws.take j).foldl (writeStep x) ([], false) = (lst, dn) ∧
      wr.ownsRow v.heap.size 76 2 (.slice A1 m c1) m (writeCells lst)) ∧ Below v.heap.size v wr) (fun _ _ i _ => n - (intOf i).toNat)
  case atStart => exact ⟨⟨0, Nat.zero_le _, rfl, none, 0, 0, [], false, rfl, rfl, rfl, by omega, fun _ => Nat.le_refl _, rfl, World.ownsRow_nil _ _ _ _⟩, Below.refl _ _⟩
  case round =>
    obtain ⟨⟨j, hj, rfl, A1, c1, m, lst, dn, rfl, rfl, hm, hmj, hmd, hfold, ho⟩, hbel⟩ := hrel
    have HF := Lib.hid hfold
    have HO := Lib.hid ho
    have HL := Lib.hid hbel
    have HM := Lib.hid hm
    have HMJ : Hid (m ≤ j + 1 ∧ (dn = false → m ≤ j)) := ⟨hmj, hmd⟩
    clear hfold ho hbel hm hmj hmd
    have hzw := HL.out.size
    have HB3r := Lib.hid ((HL.out.block _ (blk_lt HB3.out)).trans HB3.out)
    obtain ⟨hc3, hf3⟩ := blk_read HB3r.out
    by_cases hlt : j < n
    · obtain ⟨y, b, off, hy, rfl, hbb, g0, g1⟩ := (H.out.at_.below (HLv.out.trans (HL.out.mono HLv.out.size)) (Nat.le_refl _)).at_ hlt
      have HY := Lib.hid hy
      have hbv : b < v.heap.size := Nat.lt_of_lt_of_le hbb HLv.out.size
      have HGC : Hid (∀ W : World, Below v.heap.size v W → W.cell? ⟨b, off + j * 2, none⟩ = some (.string y.key) ∧ W.cell? ⟨b, off + j * 2 + 1, none⟩ = some (.string y.value)) := fun W hW =>
        ⟨((hW.cell (p := ⟨b, off + j * 2, none⟩) hbv).trans (HL.out.cell (p := ⟨b, off + j * 2, none⟩) hbv).symm).trans g0, ((hW.cell (p := ⟨b, off + j * 2 + 1, none⟩) hbv).trans (HL.out.cell (p := ⟨b, off + j * 2 + 1, none⟩) hbv).symm).trans g1⟩
      clear hy
      go_upto_region 6 with (fail)
      go_cut [25] (fun t wx => t = .bool (!dn && !(ltK y.key x.key)) ∧ ∃ q, wx = wr.drewN q)
      case first =>
        cases dn
        · cases hcmp : ltK y.key x.key
          · have hc' := geq_lt hcmp
            have HCMP := Lib.hid hcmp
            clear hcmp
            go_quiet (fail)
            go_wp2_with fail
            go_meet
            exact ⟨by first | rfl | (rw [HCMP.out]; rfl), _, rfl⟩
          · have hc' := geq_lt hcmp
            have HCMP := Lib.hid hcmp
            clear hcmp
            go_quiet (fail)
            go_wp2_with fail
            go_meet
            exact ⟨by first | rfl | (rw [HCMP.out]; rfl), _, rfl⟩
        · go_quiet (fail)
          go_wp2_with fail
          go_meet
          exact ⟨rfl, _, rfl⟩
      case rest =>
        obtain ⟨rfl, q, hwq⟩ := hcut
        have HOq : Hid (wc.ownsRow v.heap.size 76 2 (.slice A1 m c1) m (writeCells lst)) := by show World.ownsRow _ _ _ _ _ _ _; rw [hwq]; exact own_at HO.out (fun _ _ => rfl)
        have HLq : Hid (Below v.heap.size v wc) := by show Below _ _ _; rw [hwq]; exact below_drewN HL.out q
        have HB3q : Hid (wc.heap[g3]? = some (.cells #[.string x.key, .string x.value] 76 (0, 0))) := by show _ = _; rw [hwq]; exact HB3r.out
        have g0q : wc.cell? ⟨b, off + j * 2, none⟩ = some (.string y.key) := by rw [hwq]; exact g0
        have g1q : wc.cell? ⟨b, off + j * 2 + 1, none⟩ = some (.string y.value) := by rw [hwq]; exact g1
        clear hwq hc3 hf3 g0 g1 HO HL HB3r hzw
        have hzq := HLq.out.size
        obtain ⟨hc3, hf3⟩ := blk_read HB3q.out
        go_upto_if 25 with (fail)
        go_cut [5, 6] (fun s d wx => ∃ (A2 : Option Addr) (c2 m2 : Nat) (l2 : List MWrite) (d2 : Bool), s = .slice A2 m2 c2 ∧ d = .bool d2 ∧ (if !dn && !ltK y.key x.key then (lst ++ [x], true) else (lst, dn)) = (l2, d2) ∧ m2 = l2.length ∧ m2 ≤ j + 1 ∧ (d2 = false → m2 ≤ j) ∧
          wx.ownsRow v.heap.size 76 2 (.slice A2 m2 c2) m2 (writeCells l2) ∧ Below v.heap.size v wx)
        case first =>
          cases hg : (!dn && !ltK y.key x.key)
          · have HGG := Lib.hid hg
            clear hg
            go_wp2_with fail
            go_meet
            exact ⟨A1, c1, m, lst, dn, rfl, rfl, by rw [HGG.out]; rfl, HM.out, HMJ.out.1, HMJ.out.2, HOq.out, HLq.out⟩
          · have hdf : dn = false := by cases dn; (· rfl); (· cases hg)
            have hmj := HMJ.out.2 hdf
            have HGG := Lib.hid hg
            clear hg
            go_wp2_with (at_builtin; refine wpList_append_writes _ rfl _ _ rfl v.heap.size A1 c1 m lst nx rfl (HOq.out.alloc _) wc.heap.size 1 rfl (by rw [HNX.out]; rfl) (by rw [HNX.out]; exact blk_new wc _ _) (by omega) (by decide) (by simp; omega) ?_)
            intro A2 c2 w2 hown2 hgr2
            go_wp2_with fail
            go_meet
            refine ⟨A2, c2, m + 1, lst ++ nx, true, rfl, rfl, by rw [HGG.out, HNX.out]; rfl, by rw [HNX.out, HM.out]; simp, by omega, (fun h => by cases h), hown2, (HLq.out.alloc hzq _).grown hgr2 (by simp; omega) (fun k hk => own_base HOq.out k hk)⟩
        case rest =>
          obtain ⟨A2, c2, m2, l2, d2, rfl, rfl, hst, hm2, hb2, hd2, ho2, hbl2⟩ := hcut
          have HST := Lib.hid hst
          have HM2 := Lib.hid hm2
          have HD2 := Lib.hid hd2
          have HO2 := Lib.hid ho2
          have HL2 := Lib.hid hbl2
          clear hst hm2 hd2 ho2 hbl2 hc3 hf3 g0q g1q hzq
          have HB3x := Lib.hid ((HL2.out.block _ (blk_lt HB3.out)).trans HB3.out)
          obtain ⟨hc3, hf3⟩ := blk_read HB3x.out
          have hz2 := HL2.out.size
          obtain ⟨g0, g1⟩ := HGC.out wc HL2.out
          have hks := key_dec (a := y.key) (b := x.key)
          cases hke : decide (y.key = x.key)
          · rw [hke] at hks
            have HK : Hid (writeStep x (lst, dn) y = (l2 ++ [y], d2)) := by
              show _ = _
              unfold writeStep
              dsimp only
              rw [HST.out, if_neg (of_decide_eq_false hke)]
            clear hke
            obtain ⟨ny, hny⟩ : ∃ ny, ny = [y] := ⟨_, rfl⟩
            have HNY := Lib.hid hny
            clear hny
            go_upto_region 9 with (fail)
            go_quiet (fail)
            go_wp2_with (at_builtin; refine wpList_append_writes _ rfl _ _ rfl v.heap.size A2 c2 m2 l2 ny rfl ((own_at HO2.out (fun _ _ => rfl)).alloc _) wc.heap.size 1 rfl (by rw [HNY.out]; rfl) (by rw [HNY.out]; exact blk_new wc _ _) (by omega) (by decide) (by simp; omega) ?_)
            intro A3 c3 w3 hown3 hgr3
            have HB3' := Lib.hid (((below_drewN HL2.out nq).alloc hz2 (.cells #[.string y.key, .string y.value] 76)).grown hgr3 (by simp; omega) (fun k hk => own_base HO2.out k hk))
            have HF3 : Hid ((ws.take (j + 1)).foldl (writeStep x) ([], false) = (l2 ++ ny, d2)) := by show _ = _; rw [fold_more _ HY.out, HF.out, HK.out, HNY.out]
            have HM3 : Hid (m2 + 1 = (l2 ++ ny).length) := by show _ = _; rw [HNY.out, HM2.out]; simp
            have HO3 := Lib.hid hown3
            have hb3 : d2 = false → m2 + 1 ≤ j + 1 := fun h => by have := HD2.out h; omega
            have HD3 := Lib.hid hb3
            clear hgr3 hown3 hc3 hf3 g0 g1 hb3
            go_wp2_with fail
            go_roundw
            case rel => exact ⟨⟨j + 1, by omega, by go_num, A3, c3, m2 + 1, l2 ++ ny, d2, rfl, rfl, HM3.out, by omega, HD3.out, HF3.out, HO3.out⟩, HB3'.out⟩
            case measure => simp [intOf]; omega
          · rw [hke] at hks
            have HK : Hid (writeStep x (lst, dn) y = (l2, d2)) := by
              show _ = _
              unfold writeStep
              dsimp only
              rw [HST.out, if_pos (of_decide_eq_true hke)]
            clear hke
            have HF3 : Hid ((ws.take (j + 1)).foldl (writeStep x) ([], false) = (l2, d2)) := by show _ = _; rw [fold_more _ HY.out, HF.out, HK.out]
            have hb3 : d2 = false → m2 ≤ j + 1 := fun h => by have := HD2.out h; omega
            have HD3 := Lib.hid hb3
            clear hb3
            go_upto_region 9 with (fail)
            go_quiet (fail)
            clear hc3 hf3 g0 g1
            go_wp2_with fail
            go_roundw
            case rel => exact ⟨⟨j + 1, by omega, by go_num, A2, c2, m2, l2, d2, rfl, rfl, HM2.out, by omega, HD3.out, HF3.out, own_at HO2.out (fun _ _ => rfl)⟩, below_drewN HL2.out _⟩
            case measure => simp [intOf]; omega
    · obtain rfl : j = n := by omega
      have hall : ws.take j = ws := List.take_of_length_le (by rw [Hn.out]; exact Nat.le_refl _)
      have HE : Hid (R = if dn then lst else lst ++ [x]) := by
        show _ = _
        rw [HR.out]
        unfold refPutWrite
        rw [← hall, HF.out]
      have HBW := Lib.hid (HLv.out.trans (HL.out.mono HLv.out.size))
      have hzv := HLv.out.size
      have hmj := HMJ.out.1
      have hzw := HL.out.size
      clear hall
      cases dn
      · go_wp2_with (at_builtin; refine wpList_append_writes _ rfl _ _ rfl v.heap.size A1 c1 m lst nx rfl (HO.out.alloc _) wr.heap.size 1 rfl (by rw [HNX.out]; rfl) (by rw [HNX.out]; exact blk_new wr _ _) (by omega) (by decide) (by simp; omega) ?_)
        intro A3 c3 w3 hown3 hgr3
        have HO3 := Lib.hid hown3
        have HL3 := Lib.hid ((HBW.out.alloc (by omega) (.cells #[.string x.key, .string x.value] 76)).grown hgr3 (by simp; omega) (fun k hk => Nat.le_trans hzv (own_base HO.out k hk)))
        have HE2 : Hid (R = lst ++ nx) := by show _ = _; rw [HE.out, HNX.out]; rfl
        have HLEN : Hid (m + 1 = (lst ++ nx).length) := by show _ = _; rw [HNX.out, HM.out]; simp
        clear hown3 hgr3 hc3 hf3
        go_wp2_with fail
        go_ret
        rw [HE2.out]
        exact ⟨A3, c3, by rw [HLEN.out]; rfl, by rw [← HLEN.out]; exact own_more HO3.out hzv, HL3.out⟩
      · have HE2 : Hid (R = lst) := HE.out
        clear hc3 hf3
        go_wp2_with fail
        go_ret
        rw [HE2.out]
        exact ⟨A1, c1, by rw [HM.out]; rfl, by rw [← HM.out]; exact own_more HO.out hzv, HBW.out⟩
end Go.Proofs.Ytniomgngiiiklab
