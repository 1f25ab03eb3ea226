/- The walk of the reference's stepped. -/
import Derived.Test.YtniomgngiiiklabFailRefM
import Derived.Test.YtniomgngiiiklabRows2M
import Derived.Test.YtniomgngiiiklabCommittedOfM
import Derived.Test.YtniomgngiiiklabRows3M
namespace Go.Proofs.Ytniomgngiiiklab
open Go.RowKit

/-- What stepped hands back: a world, an answer with a code and a time. -/
def StepRet (w : World) (base gc m c' : Nat) (p : MWorld × Int × Int) (e : Ending) (w' : World) : Prop :=
  ∃ A3 n3 c3, e = .returned (.tuple #[.agg #[.slice A3 n3 c3, .int .i64 p.1.clock, .slice (some ⟨gc, 0, none⟩) m c'], .agg #[.int .i64 p.2.1, .bool false, .string ⟨#[]⟩, .int .i64 0, .int .i64 p.2.2]]) ∧ RefRes w base gc m c' p.1 A3 n3 c3 w'
/-- What stands in memory while stepped works: the world (in block g2), the answer (g6), the client (g7), and the two results (g4, g5). -/
structure StAt (w wx : World) (base gc m c' g2 g4 g5 g6 : Nat) (M : MWorld) (A : Option Addr) (n c : Nat) (H H' : Heads) (code time : Int) : Prop where
  at_ : RefAt wx base gc M A n c m c' H H'
  keeps : Keeps [58] base w wx
  b2 : wx.heap[g2]? = some (.cells #[.slice A n c, .int .i64 M.clock, .slice (some ⟨gc, 0, none⟩) m c'] 36 (0, 0))
  b4 : wx.heap[g4]? = some (.cells #[.slice none 0 0, .int .i64 0, .slice none 0 0] 36 (0, 0))
  b5 : wx.heap[g5]? = some (.cells #[.int .i64 0, .bool false, .string ⟨#[]⟩, .int .i64 0, .int .i64 0] 41 (0, 0))
  b6 : wx.heap[g6]? = some (.cells #[.int .i64 code, .bool false, .string ⟨#[]⟩, .int .i64 0, .int .i64 time] 41 (0, 0))
/-- Where these blocks lie. -/
structure StPos (w : World) (base gc g2 g4 g5 g6 g7 : Nat) : Prop where
  e2 : g2 = w.heap.size
  e4 : g4 = w.heap.size + 1
  e5 : g5 = w.heap.size + 2
  e6 : g6 = w.heap.size + 3
  e7 : g7 = w.heap.size + 4
  base : base ≤ w.heap.size
  gc : gc < w.heap.size
section
variable {w wx wy : World} {base gc m c' g2 g4 g5 g6 g7 n c : Nat} {M : MWorld} {A : Option Addr} {H H' : Heads} {code time : Int}
theorem StAt.below (h : StAt w wx base gc m c' g2 g4 g5 g6 M A n c H H' code time) (hb : Below wx.heap.size wx wy) : StAt w wy base gc m c' g2 g4 g5 g6 M A n c H H' code time :=
  ⟨h.at_.below hb (Nat.le_refl _), h.keeps.trans (Keeps.of_below hb (Nat.le_refl _) h.at_.size), blk_keep hb h.b2 (blk_lt h.b2), blk_keep hb h.b4 (blk_lt h.b4), blk_keep hb h.b5 (blk_lt h.b5), blk_keep hb h.b6 (blk_lt h.b6)⟩
theorem drew_blkr {X : World} {g : Nat} {o : Option Obj} (h : X.heap[g]? = o) : X.drew.heap[g]? = o := h
/-- The world and the answer laid into the results. -/
theorem ref_end {v : World} {b g4 g5 : Nat} {a4 b4 c4 a5 b5 c5 d5 e5 : Value} (h4 : v.heap[g4]? = some (.cells #[a4, b4, c4] 36 (0, 0))) (h5 : v.heap[g5]? = some (.cells #[a5, b5, c5, d5, e5] 41 (0, 0)))
    (l4 : b ≤ g4) (l5 : b ≤ g5) (hne : g4 ≠ g5) (a b' c a' b'' c' d' e' : Value) :
    ((((((((v.setCell ⟨g4, 0, none⟩ a).setCell ⟨g4, 1, none⟩ b').setCell ⟨g4, 2, none⟩ c).setCell ⟨g5, 0, none⟩ a').setCell ⟨g5, 1, none⟩ b'').setCell ⟨g5, 2, none⟩ c').setCell ⟨g5, 3, none⟩ d').setCell ⟨g5, 4, none⟩ e').drew.heap[g4]? = some (.cells #[a, b', c] 36 (0, 0)) ∧
    ((((((((v.setCell ⟨g4, 0, none⟩ a).setCell ⟨g4, 1, none⟩ b').setCell ⟨g4, 2, none⟩ c).setCell ⟨g5, 0, none⟩ a').setCell ⟨g5, 1, none⟩ b'').setCell ⟨g5, 2, none⟩ c').setCell ⟨g5, 3, none⟩ d').setCell ⟨g5, 4, none⟩ e').drew.heap[g5]? = some (.cells #[a', b'', c', d', e'] 41 (0, 0)) ∧
    Below b v ((((((((v.setCell ⟨g4, 0, none⟩ a).setCell ⟨g4, 1, none⟩ b').setCell ⟨g4, 2, none⟩ c).setCell ⟨g5, 0, none⟩ a').setCell ⟨g5, 1, none⟩ b'').setCell ⟨g5, 2, none⟩ c').setCell ⟨g5, 3, none⟩ d').setCell ⟨g5, 4, none⟩ e').drew ∧
    Keeps [36, 41] b v ((((((((v.setCell ⟨g4, 0, none⟩ a).setCell ⟨g4, 1, none⟩ b').setCell ⟨g4, 2, none⟩ c).setCell ⟨g5, 0, none⟩ a').setCell ⟨g5, 1, none⟩ b'').setCell ⟨g5, 2, none⟩ c').setCell ⟨g5, 3, none⟩ d').setCell ⟨g5, 4, none⟩ e').drew := by
  have hf : (((v.setCell ⟨g4, 0, none⟩ a).setCell ⟨g4, 1, none⟩ b').setCell ⟨g4, 2, none⟩ c).heap[g5]? = some (.cells #[a5, b5, c5, d5, e5] 41 (0, 0)) := blk_far (blk_far (blk_far h5 (fun e => hne e.symm) a) (fun e => hne e.symm) b') (fun e => hne e.symm) c
  have k := ((Keeps.set3r (ts := [36, 41]) h4 (by simp) l4 0 1 2 a b' c).trans (Keeps.set5 hf (by simp) l5 0 1 2 3 4 a' b'' c' d' e')).drew
  exact ⟨drew_blkr (blk_row5_far (blk_row3r h4 a b' c) hne a' b'' c' d' e'), drew_blkr (blk_row5 hf a' b'' c' d' e'), k.below, k⟩
/-- What is behind the return's stores. -/
theorem StAt.ended (h : StAt w wx base gc m c' g2 g4 g5 g6 M A n c H H' code time) (hp : StPos w base gc g2 g4 g5 g6 g7) (hb : Below w.heap.size wx wy) (hk : Keeps [36, 41] w.heap.size wx wy) : RefRes w base gc m c' M A n c wy :=
  ⟨H, H', ⟨h.at_.rows.typed fun g cs t _ hg ht => hk.block g cs t hg (by rcases ht with rfl | rfl <;> decide), h.at_.clients.typed fun g cs t _ hg ht => hk.block g cs t hg (by rcases ht with rfl | rfl <;> decide)⟩, h.keeps.past hb hp.base⟩
/-- The answer's code turned. -/
theorem StAt.setCode (h : StAt w wx base gc m c' g2 g4 g5 g6 M A n c H H' code time) (hp : StPos w base gc g2 g4 g5 g6 g7) (cd : Int) : StAt w (wx.setCell ⟨g6, 0, none⟩ (.int .i64 cd)) base gc m c' g2 g4 g5 g6 M A n c H H' cd time := by
  have hg6 : w.heap.size ≤ g6 := by have := hp.e6; omega
  have k : Keeps [41] w.heap.size wx (wx.setCell ⟨g6, 0, none⟩ (.int .i64 cd)) := (Keeps.refl _ _ wx).set h.b6 (by simp) hg6 _
  have n56 : ¬ g5 = g6 := by have := hp.e5; have := hp.e6; omega
  exact ⟨⟨h.at_.rows.typed fun g cs t _ hg ht => k.block g cs t hg (by rcases ht with rfl | rfl <;> decide), h.at_.clients.typed fun g cs t _ hg ht => k.block g cs t hg (by rcases ht with rfl | rfl <;> decide)⟩, h.keeps.past k.below hp.base,
    k.blk h.b2 (by decide), k.blk h.b4 (by decide), blk_far h.b5 (p := ⟨g6, 0, none⟩) n56 _, blk_set h.b6 0 _⟩
/-- The answer's time turned. -/
theorem StAt.setTime (h : StAt w wx base gc m c' g2 g4 g5 g6 M A n c H H' code time) (hp : StPos w base gc g2 g4 g5 g6 g7) (tm : Int) : StAt w (wx.setCell ⟨g6, 4, none⟩ (.int .i64 tm)) base gc m c' g2 g4 g5 g6 M A n c H H' code tm := by
  have hg6 : w.heap.size ≤ g6 := by have := hp.e6; omega
  have k : Keeps [41] w.heap.size wx (wx.setCell ⟨g6, 4, none⟩ (.int .i64 tm)) := (Keeps.refl _ _ wx).set h.b6 (by simp) hg6 _
  have n56 : ¬ g5 = g6 := by have := hp.e5; have := hp.e6; omega
  exact ⟨⟨h.at_.rows.typed fun g cs t _ hg ht => k.block g cs t hg (by rcases ht with rfl | rfl <;> decide), h.at_.clients.typed fun g cs t _ hg ht => k.block g cs t hg (by rcases ht with rfl | rfl <;> decide)⟩, h.keeps.past k.below hp.base,
    k.blk h.b2 (by decide), k.blk h.b4 (by decide), blk_far h.b5 (p := ⟨g6, 4, none⟩) n56 _, blk_set h.b6 4 _⟩
/-- A client turned in the world's memory. -/
theorem StAt.turn {M' : MWorld} {H2' : Heads} (h : StAt w wx base gc m c' g2 g4 g5 g6 M A n c H H' code time) (hr : RefAt wy base gc M' A n c m c' H H2' ∧ Keeps [58] base wx wy) (hck : M'.clock = M.clock) :
    StAt w wy base gc m c' g2 g4 g5 g6 M' A n c H H2' code time :=
  ⟨hr.1, h.keeps.trans hr.2, by rw [hck]; exact hr.2.blk h.b2 (by decide), hr.2.blk h.b4 (by decide), hr.2.blk h.b5 (by decide), hr.2.blk h.b6 (by decide)⟩
/-- Another client's block turned: the world's memory is as it was. -/
theorem RefAt.other {g i : Nat} {cs : Array Value} {u : Value} (h : RefAt wx base gc M A n c m c' H H') (hg : wx.heap[g]? = some (.cells cs 58 (0, 0))) (hne : g ≠ gc) : RefAt (wx.setCell ⟨g, i, none⟩ u) base gc M A n c m c' H H' := by
  refine ⟨h.rows.typed fun g' cs' t' _ hg' ht => Below.heap_setCell _ _ _ g' (by
    rintro rfl
    rw [hg] at hg'
    injection hg' with hg'
    injection hg' with _ e
    subst e
    rcases ht with e | e
    · exact absurd e (by decide)
    · exact absurd e (by decide)), ?_⟩
  obtain ⟨h1, h2, h3, h4, h5⟩ := h.clients
  exact ⟨h1, h2, own_far h3 (by simp [Value.ownBlock]; exact hne) u, fun k x hd hx hh => own_far (h4 k x hd hx hh) (own_ne (h4 k x hd hx hh) hg (by decide)) u, h5⟩
/-- The client's block (g7) turned. -/
theorem StAt.setX {i : Nat} {cs : Array Value} {u : Value} (h : StAt w wx base gc m c' g2 g4 g5 g6 M A n c H H' code time) (hp : StPos w base gc g2 g4 g5 g6 g7) (h7 : wx.heap[g7]? = some (.cells cs 58 (0, 0))) : StAt w (wx.setCell ⟨g7, i, none⟩ u) base gc m c' g2 g4 g5 g6 M A n c H H' code time := by
  have hg7 : w.heap.size ≤ g7 := by have := hp.e7; omega
  have k : Keeps [58] w.heap.size wx (wx.setCell ⟨g7, i, none⟩ u) := (Keeps.refl _ _ wx).set h7 (by simp) hg7 _
  exact ⟨h.at_.other h7 (by have := hp.gc; omega), h.keeps.past k.below hp.base, k.blk h.b2 (by decide), k.blk h.b4 (by decide), k.blk h.b5 (by decide), k.blk h.b6 (by decide)⟩
/-- The clock turned. -/
theorem StAt.setClock (h : StAt w wx base gc m c' g2 g4 g5 g6 M A n c H H' code time) (hp : StPos w base gc g2 g4 g5 g6 g7) (ck : Int) : StAt w (wx.setCell ⟨g2, 1, none⟩ (.int .i64 ck)) base gc m c' g2 g4 g5 g6 { M with clock := ck } A n c H H' code time := by
  have hg2 : w.heap.size ≤ g2 := by have := hp.e2; omega
  have k : Keeps [36] w.heap.size wx (wx.setCell ⟨g2, 1, none⟩ (.int .i64 ck)) := (Keeps.refl _ _ wx).set h.b2 (by simp) hg2 _
  have n42 : ¬ g4 = g2 := by have := hp.e4; have := hp.e2; omega
  exact ⟨⟨h.at_.rows.typed fun g cs t _ hg ht => k.block g cs t hg (by rcases ht with rfl | rfl <;> decide), h.at_.clients.typed fun g cs t _ hg ht => k.block g cs t hg (by rcases ht with rfl | rfl <;> decide)⟩, h.keeps.past k.below hp.base,
    blk_set h.b2 1 _, blk_far h.b4 (p := ⟨g2, 1, none⟩) n42 _, k.blk h.b5 (by decide), k.blk h.b6 (by decide)⟩
/-- The world turned. -/
theorem StAt.setWorld {M' : MWorld} {A3 : Option Addr} {n3 c3 : Nat} {H3 H3' : Heads} (h : StAt w wx base gc m c' g2 g4 g5 g6 M A n c H H' code time) (hp : StPos w base gc g2 g4 g5 g6 g7) (hr : RefAt wy base gc M' A3 n3 c3 m c' H3 H3') (hk : Keeps [58] base wx wy) :
    StAt w (((wy.setCell ⟨g2, 0, none⟩ (.slice A3 n3 c3)).setCell ⟨g2, 1, none⟩ (.int .i64 M'.clock)).setCell ⟨g2, 2, none⟩ (.slice (some ⟨gc, 0, none⟩) m c')) base gc m c' g2 g4 g5 g6 M' A3 n3 c3 H3 H3' code time := by
  have hg2 : w.heap.size ≤ g2 := by have := hp.e2; omega
  have hb2 := hk.blk h.b2 (by decide)
  have k := Keeps.set3r (ts := [36]) hb2 (by simp) hg2 0 1 2 (.slice A3 n3 c3) (.int .i64 M'.clock) (.slice (some ⟨gc, 0, none⟩) m c')
  have n42 : ¬ g4 = g2 := by have := hp.e4; have := hp.e2; omega
  exact ⟨⟨hr.rows.typed fun g cs t _ hg ht => k.block g cs t hg (by rcases ht with rfl | rfl <;> decide), hr.clients.typed fun g cs t _ hg ht => k.block g cs t hg (by rcases ht with rfl | rfl <;> decide)⟩, (h.keeps.trans hk).past k.below hp.base,
    blk_row3r hb2 _ _ _, blk_far (blk_far (blk_far (hk.blk h.b4 (by decide)) n42 _) n42 _) n42 _, k.blk (hk.blk h.b5 (by decide)) (by decide), k.blk (hk.blk h.b6 (by decide)) (by decide)⟩
theorem row5_other {v : World} {g g' : Nat} (hne : ¬ g' = g) (a b c d e : Value) (i1 i2 i3 i4 i5 : Nat) : (((((v.setCell ⟨g, i1, none⟩ a).setCell ⟨g, i2, none⟩ b).setCell ⟨g, i3, none⟩ c).setCell ⟨g, i4, none⟩ d).setCell ⟨g, i5, none⟩ e).heap[g']? = v.heap[g']? := by
  rw [Below.heap_setCell _ _ _ _ hne, Below.heap_setCell _ _ _ _ hne, Below.heap_setCell _ _ _ _ hne, Below.heap_setCell _ _ _ _ hne, Below.heap_setCell _ _ _ _ hne]
end
end Go.Proofs.Ytniomgngiiiklab

/- What stands in memory while the reference's DidOf works. No walk. -/
namespace Go.Proofs.Ytniomgngiiiklab
open Go.RowKit

/-- The world (in block gw), the answer (go), and the two results (g4, g5). -/
structure DidAt (w wx : World) (gc m c' gw go g4 g5 : Nat) (M : MWorld) (A : Option Addr) (n c : Nat) (H H' : Heads) (o : MAns) : Prop where
  at_ : RefAt wx w.heap.size gc M A n c m c' H H'
  below : Below w.heap.size w wx
  bw : wx.heap[gw]? = some (.cells #[.slice A n c, .int .i64 M.clock, .slice (some ⟨gc, 0, none⟩) m c'] 36 (0, 0))
  bo : wx.heap[go]? = some (.cells #[.int .i64 o.code, .bool o.is, .string o.value, .int .i64 o.phase, .int .i64 o.time] 41 (0, 0))
  b4 : wx.heap[g4]? = some (.cells #[.slice none 0 0, .int .i64 0, .slice none 0 0] 36 (0, 0))
  b5 : wx.heap[g5]? = some (.cells #[.int .i64 0, .bool false, .string ⟨#[]⟩, .int .i64 0, .int .i64 0] 41 (0, 0))
/-- Where these blocks lie. -/
structure DidPos (w : World) (gc gw gx go g4 g5 : Nat) : Prop where
  pw : w.heap.size ≤ gw
  po : w.heap.size ≤ go
  p4 : w.heap.size ≤ g4
  p5 : w.heap.size ≤ g5
  px : w.heap.size ≤ gx
  n4w : ¬ g4 = gw
  n5o : ¬ g5 = go
  n45 : g4 ≠ g5
  nxc : gx ≠ gc
theorem clientAt_some {M : MWorld} {C : Nat} {x : MClient} (h : M.clients[C]? = some x) : clientAt M C = x := by unfold clientAt; rw [h]; rfl
/-- New writes lie apart from those of the other clients. -/
theorem RefAt.fresh {w w' : World} {base gc C n c m c' n2 c2 s : Nat} {M : MWorld} {A A2 : Option Addr} {H H' : Heads} {t : TypeId} {xs : List Value} (h : RefAt w base gc M A n c m c' H H') (hrec : w'.ownsRow w.heap.size t s (.slice A2 n2 c2) n2 xs) :
    ∀ (j : Nat) (q : Option Addr × Nat), j ≠ C → H'[j]? = some q → (Value.slice q.1 0 0).ownBlock ≠ none → (Value.slice q.1 0 0).ownBlock ≠ (Value.slice A2 0 0).ownBlock := by
  intro j q _ hq hn e
  obtain ⟨hjl, _⟩ := List.getElem?_eq_some_iff.1 hq
  have h1 := h.clients.1
  have h2 := h.clients.2.1
  obtain ⟨z, hz⟩ : ∃ z, M.clients[j]? = some z := ⟨_, List.getElem?_eq_getElem (by omega)⟩
  cases hb : (Value.slice q.1 0 0).ownBlock with
  | none => exact hn hb
  | some b =>
    have k1 := ((h.writes hz hq).lt b (by rw [← hb]; exact ownBlock_any' _ _ _ _ _)).2
    have k2 := (hrec.lt b (by rw [← hb, e]; exact ownBlock_any' _ _ _ _ _)).1
    omega
section
variable {w wx wy : World} {gc m c' gw gx go g4 g5 n c : Nat} {M : MWorld} {A : Option Addr} {H H' : Heads} {o : MAns}
theorem DidAt.bel (h : DidAt w wx gc m c' gw go g4 g5 M A n c H H' o) (hb : Below wx.heap.size wx wy) : DidAt w wy gc m c' gw go g4 g5 M A n c H H' o :=
  ⟨h.at_.below hb (Nat.le_refl _), h.below.trans (hb.mono h.below.size), blk_keep hb h.bw (blk_lt h.bw), blk_keep hb h.bo (blk_lt h.bo), blk_keep hb h.b4 (blk_lt h.b4), blk_keep hb h.b5 (blk_lt h.b5)⟩
/-- The answer turned. -/
theorem DidAt.ans {o' : MAns} (h : DidAt w wx gc m c' gw go g4 g5 M A n c H H' o) (k : Keeps [41] w.heap.size wx wy) (ho : wy.heap[go]? = some (.cells #[.int .i64 o'.code, .bool o'.is, .string o'.value, .int .i64 o'.phase, .int .i64 o'.time] 41 (0, 0)))
    (h5 : wy.heap[g5]? = wx.heap[g5]?) : DidAt w wy gc m c' gw go g4 g5 M A n c H H' o' :=
  ⟨⟨h.at_.rows.typed fun g cs t _ hg ht => k.block g cs t hg (by rcases ht with rfl | rfl <;> decide), h.at_.clients.typed fun g cs t _ hg ht => k.block g cs t hg (by rcases ht with rfl | rfl <;> decide)⟩, h.below.trans k.below,
    k.blk h.bw (by decide), ho, k.blk h.b4 (by decide), h5.trans h.b5⟩
theorem DidAt.ans1 {o' : MAns} {i : Nat} {u : Value} (h : DidAt w wx gc m c' gw go g4 g5 M A n c H H' o) (hp : DidPos w gc gw gx go g4 g5)
    (e : (#[.int .i64 o.code, .bool o.is, .string o.value, .int .i64 o.phase, .int .i64 o.time] : Array Value).setIfInBounds i u = #[.int .i64 o'.code, .bool o'.is, .string o'.value, .int .i64 o'.phase, .int .i64 o'.time]) :
    DidAt w (wx.setCell ⟨go, i, none⟩ u) gc m c' gw go g4 g5 M A n c H H' o' :=
  h.ans ((Keeps.refl _ _ wx).set h.bo (by simp) hp.po _) (by rw [← e]; exact blk_set h.bo i u) (Below.heap_setCell _ _ _ _ hp.n5o)
/-- A client turned in the world's memory. -/
theorem DidAt.turn {M' : MWorld} {H2' : Heads} (h : DidAt w wx gc m c' gw go g4 g5 M A n c H H' o) (hr : RefAt wy w.heap.size gc M' A n c m c' H H2' ∧ Keeps [58] w.heap.size wx wy) (hck : M'.clock = M.clock) :
    DidAt w wy gc m c' gw go g4 g5 M' A n c H H2' o :=
  ⟨hr.1, h.below.trans hr.2.below, by rw [hck]; exact hr.2.blk h.bw (by decide), hr.2.blk h.bo (by decide), hr.2.blk h.b4 (by decide), hr.2.blk h.b5 (by decide)⟩
/-- The client's block (gx) turned. -/
theorem DidAt.setX {i : Nat} {cs : Array Value} {u : Value} (h : DidAt w wx gc m c' gw go g4 g5 M A n c H H' o) (hp : DidPos w gc gw gx go g4 g5) (hx : wx.heap[gx]? = some (.cells cs 58 (0, 0))) : DidAt w (wx.setCell ⟨gx, i, none⟩ u) gc m c' gw go g4 g5 M A n c H H' o := by
  have k : Keeps [58] w.heap.size wx (wx.setCell ⟨gx, i, none⟩ u) := (Keeps.refl _ _ wx).set hx (by simp) hp.px _
  exact ⟨h.at_.other hx hp.nxc, h.below.trans k.below, k.blk h.bw (by decide), k.blk h.bo (by decide), k.blk h.b4 (by decide), k.blk h.b5 (by decide)⟩
/-- The clock turned. -/
theorem DidAt.setClock (h : DidAt w wx gc m c' gw go g4 g5 M A n c H H' o) (hp : DidPos w gc gw gx go g4 g5) (ck : Int) : DidAt w (wx.setCell ⟨gw, 1, none⟩ (.int .i64 ck)) gc m c' gw go g4 g5 { M with clock := ck } A n c H H' o := by
  have k : Keeps [36] w.heap.size wx (wx.setCell ⟨gw, 1, none⟩ (.int .i64 ck)) := (Keeps.refl _ _ wx).set h.bw (by simp) hp.pw _
  exact ⟨⟨h.at_.rows.typed fun g cs t _ hg ht => k.block g cs t hg (by rcases ht with rfl | rfl <;> decide), h.at_.clients.typed fun g cs t _ hg ht => k.block g cs t hg (by rcases ht with rfl | rfl <;> decide)⟩, h.below.trans k.below,
    blk_set h.bw 1 _, k.blk h.bo (by decide), blk_far h.b4 (p := ⟨gw, 1, none⟩) hp.n4w _, k.blk h.b5 (by decide)⟩
/-- The world turned. -/
theorem DidAt.setWorld {M' : MWorld} {A3 : Option Addr} {n3 c3 : Nat} {H3 H3' : Heads} (h : DidAt w wx gc m c' gw go g4 g5 M A n c H H' o) (hp : DidPos w gc gw gx go g4 g5) (hr : RefAt wy w.heap.size gc M' A3 n3 c3 m c' H3 H3') (hk : Keeps [58] w.heap.size wx wy) :
    DidAt w (((wy.setCell ⟨gw, 0, none⟩ (.slice A3 n3 c3)).setCell ⟨gw, 1, none⟩ (.int .i64 M'.clock)).setCell ⟨gw, 2, none⟩ (.slice (some ⟨gc, 0, none⟩) m c')) gc m c' gw go g4 g5 M' A3 n3 c3 H3 H3' o := by
  have hbw := hk.blk h.bw (by decide)
  have k := Keeps.set3r (ts := [36]) hbw (by simp) hp.pw 0 1 2 (.slice A3 n3 c3) (.int .i64 M'.clock) (.slice (some ⟨gc, 0, none⟩) m c')
  exact ⟨⟨hr.rows.typed fun g cs t _ hg ht => k.block g cs t hg (by rcases ht with rfl | rfl <;> decide), hr.clients.typed fun g cs t _ hg ht => k.block g cs t hg (by rcases ht with rfl | rfl <;> decide)⟩, (h.below.trans hk.below).trans k.below,
    blk_row3r hbw _ _ _, k.blk (hk.blk h.bo (by decide)) (by decide), blk_far (blk_far (blk_far (hk.blk h.b4 (by decide)) hp.n4w _) hp.n4w _) hp.n4w _, k.blk (hk.blk h.b5 (by decide)) (by decide)⟩
/-- The world and the answer laid into the results. -/
theorem DidAt.done (h : DidAt w wx gc m c' gw go g4 g5 M A n c H H' o) (hb : Below w.heap.size wx wy) (hk : Keeps [36, 41] w.heap.size wx wy) :
    OwnRows wy w.heap.size A n c M.rows H ∧ OwnClients wy w.heap.size (some ⟨gc, 0, none⟩) m c' M.clients H' ∧ Below w.heap.size w wy :=
  ⟨h.at_.rows.typed fun g cs t _ hg ht => hk.block g cs t hg (by rcases ht with rfl | rfl <;> decide), h.at_.clients.typed fun g cs t _ hg ht => hk.block g cs t hg (by rcases ht with rfl | rfl <;> decide), h.below.trans hb⟩
end
end Go.Proofs.Ytniomgngiiiklab

/- The walk of the reference's rowOf once more: the row's records are those of the world. -/
namespace Go.Proofs.Ytniomgngiiiklab
open Go.RowKit

/-- Whose records a row's slice reads: none, or those of a row of the world. -/
def Tied (w : World) (A0 : Option Addr) (l : List MRow) (k : ByteArray) (A : Option Addr) (n c : Nat) : Prop :=
  (A = none ∧ n = 0 ∧ c = 0 ∧ rowAt l k = none) ∨ ∃ j b off, l[j]? = some (rv l k) ∧ A0 = some ⟨b, off, none⟩ ∧ w.cell? ⟨b, off + j * 5 + 4, none⟩ = some (.slice A n c)
def RowOfTied (w : World) (A0 : Option Addr) (l : List MRow) (k : ByteArray) (e : Ending) (w' : World) : Prop :=
  ∃ A n c, e = .returned (.tuple #[.agg #[.string (rv l k).key, .int .i64 (rv l k).ls, .string (rv l k).lp, .string (rv l k).value, .slice A n c], .bool (rowAt l k).isSome]) ∧ RowOk w' w'.heap.size (rv l k) A n c ∧ Below w.heap.size w w' ∧ Tied w A0 l k A n c
theorem Tied.own {w : World} {base n0 c0 n c : Nat} {A0 A : Option Addr} {l : List MRow} {hs : Heads} {k : ByteArray} (h : Tied w A0 l k A n c) (ho : OwnRows w base A0 n0 c0 l hs) :
    n = (rv l k).recs.length ∧ w.ownsRow base 55 3 (.slice A n c) n (recCells (rv l k).recs) := by
  rcases h with ⟨rfl, rfl, rfl, hr⟩ | ⟨j, b, off, hj, hA, hc⟩
  · rw [rv_none hr]
    exact ⟨rfl, World.ownsRow_nil _ _ _ _⟩
  · have hjl := (List.getElem?_eq_some_iff.1 hj).1
    have h1 := ho.1
    have h2 := ho.2.1
    have hh : hs[j]? = some (hs[j]'(by omega)) := List.getElem?_eq_getElem _
    obtain ⟨g, hA', _, _, _, _, _, q4⟩ := ho.cellsAt hj hh
    rw [hA] at hA'
    have e := Option.some.inj hA'
    injection e with e1 e2
    subst e1 e2
    rw [Nat.zero_add, q4] at hc
    have e3 := Option.some.inj hc
    injection e3 with e4 e5 e6
    subst e4 e5 e6
    exact ⟨rfl, ho.2.2.2 j _ _ hj hh⟩

theorem rv_ok {w : World} {base n c : Nat} {A : Option Addr} {l : List MRow} {k : ByteArray} {ck : Int} (hv : RowsVal ck l) (hk : k.size ≤ maxLen) (ho : w.ownsRow base 55 3 (.slice A n c) n (recCells (rv l k).recs)) (hn : n = (rv l k).recs.length) : RowOk w w.heap.size (rv l k) A n c := by
  refine ⟨RecsOk.own ho ?_, by rw [rv_key]; exact hk, ?_⟩
  · rw [hn]
    cases hr : rowAt l k with
    | none => rw [rv_none hr]; show 0 * 32 ≤ _; omega
    | some r => rw [rv_some hr]; exact (hv.each r (rowAt_mem hr).1).1.small.1
  · cases hr : rowAt l k with
    | none => rw [rv_none hr]; show (0 : Nat) ≤ _; omega
    | some r => rw [rv_some hr]; exact (hv.each r (rowAt_mem hr).1).1.small.2.2
set_option maxRecDepth 100000 in
set_option maxHeartbeats 2000000 in
theorem rowOf_tied (l : List MRow) (clock : Int) (k : ByteArray) (A A' : Option Addr) (n c n' c' : Nat) (w : World) (hr : RowsOk w w.heap.size A n c l) (hks : k.size ≤ maxLen) :
    Calls Try.prog 32 #[.agg #[.slice A n c, .int .i64 clock, .slice A' n' c'], .string k] w (RowOfTied w A l k) := by
  have HR := Lib.hid hr
  have Hn := Lib.hid hr.len
  have hsm := hr.small
  have HKS := Lib.hid hks
  clear hr hks
  go_enter Try.func32, Try.ntmps32
  go_upto_region 1 with (fail)
  obtain ⟨v, hv⟩ : ∃ v, v = (w.alloc (.cells #[.slice A n c, .int .i64 clock, .slice A' n' c'] 36)).alloc (.cells #[.string ⟨#[]⟩, .int .i64 0, .string ⟨#[]⟩, .string ⟨#[]⟩, .slice none 0 0] 26) := ⟨_, rfl⟩
  obtain ⟨g2, hg2⟩ : ∃ g2, g2 = w.heap.size := ⟨_, rfl⟩
  obtain ⟨g4, hg4⟩ : ∃ g4, g4 = g2 + 1 := ⟨_, rfl⟩
  rw [← hv, ← hg2, ← hg4]
  have HB2 : Hid (v.heap[g2]? = some (.cells #[.slice A n c, .int .i64 clock, .slice A' n' c'] 36 (0, 0))) := by show _ = _; rw [hv, hg2]; exact blk_old (blk_new w _ _) _
  have HB4 : Hid (v.heap[g4]? = some (.cells #[.string ⟨#[]⟩, .int .i64 0, .string ⟨#[]⟩, .string ⟨#[]⟩, .slice none 0 0] 26 (0, 0))) := by
    show _ = _
    have e : (w.alloc (.cells #[.slice A n c, .int .i64 clock, .slice A' n' c'] 36)).heap.size = g4 := by rw [hg4, hg2]; simp
    rw [← e, hv]; exact blk_new _ _ _
  have HL : Hid (Below w.heap.size w v) := by show Below _ _ _; rw [hv]; exact ((Below.refl _ w).alloc (Nat.le_refl _) _).alloc (by simp) _
  have HG : Hid (w.heap.size ≤ g4) := by show _ ≤ _; omega
  clear hv hg2 hg4
  obtain ⟨hc2, hf2⟩ := blk_read HB2.out
  go_wp2_with fail
  go_loopw [6] (fun i wr => (∃ j : Nat, j ≤ n ∧ i = .int .i64 j ∧ ∀ (m : Nat) (y : MRow), m < j → l[m]? = some y → decide (y.key = k) = false) ∧ v = wr) (fun i _ => n - (intOf i).toNat)
  case atStart => exact ⟨⟨0, Nat.zero_le _, rfl, by intro m y h; omega⟩, rfl⟩
  case round =>
    obtain ⟨⟨j, hj, rfl, hb⟩, rfl⟩ := hrel
    have HB := Lib.hid hb
    clear hb
    by_cases hlt : j < n
    · obtain ⟨r, b, off, A1, n1, c1, hr, rfl, hbb, hok, g0, g1, g2', g3, g4'⟩ := (HR.out.below HL.out (Nat.le_refl _)).row hlt
      have HRR := Lib.hid hr
      have HOK := Lib.hid hok
      have HC4 : Hid (w.cell? ⟨b, off + j * 5 + 4, none⟩ = some (.slice A1 n1 c1)) := (HL.out.cell (p := ⟨b, off + j * 5 + 4, none⟩) hbb).symm.trans g4'
      clear hr hok
      have hkd := key_dec (a := r.key) (b := k)
      cases hd : decide (r.key = k)
      · rw [hd] at hkd
        have HN := Lib.hid (none_snoc (p := fun y : MRow => decide (y.key = k)) HRR.out hd HB.out)
        clear hd
        go_wp2_with fail
        go_roundw
        case rel => exact ⟨⟨j + 1, by omega, by go_num, HN.out⟩, by first | rfl | trivial⟩
        case measure => simp [intOf]; omega
      · rw [hd] at hkd
        have hat := rowAt_hit HRR.out hd HB.out
        have HAT := Lib.hid hat
        have HRV := Lib.hid (rv_some hat)
        clear hd hat
        obtain ⟨hc4, hf4⟩ := blk_read HB4.out
        go_upto_region 5 with (fail)
        go_cut [5] (fun s wx => s = .bool true ∧ wx.heap[g4]? = some (.cells #[.string r.key, .int .i64 r.ls, .string r.lp, .string r.value, .slice A1 n1 c1] 26 (0, 0)) ∧ Below w.heap.size w wx)
        case first =>
          go_wp2_with fail
          go_meet
          exact ⟨rfl, blk_row5 HB4.out _ _ _ _ _, (((((HL.out.setCell (p := ⟨g4, 0, none⟩) HG.out _).setCell (p := ⟨g4, 1, none⟩) HG.out _).setCell (p := ⟨g4, 2, none⟩) HG.out _).setCell (p := ⟨g4, 3, none⟩) HG.out _).setCell (p := ⟨g4, 4, none⟩) HG.out _)⟩
        case rest =>
          obtain ⟨rfl, hb4, hbx⟩ := hcut
          have HLx := Lib.hid hbx
          clear hbx hc2 hf2 hc4 hf4 hkd
          obtain ⟨hc4, hf4⟩ := blk_read hb4
          go_wp2_with fail
          refine bodyPost_ret (v := .tuple #[.agg #[.string r.key, .int .i64 r.ls, .string r.lp, .string r.value, .slice A1 n1 c1], .bool true]) (by simp [results, Try.results32, go_sem, hc4]) rfl ?_
          refine ⟨A1, n1, c1, by rw [HRV.out, HAT.out]; rfl, ?_, HLx.out, .inr ⟨j, b, off, by rw [HRV.out]; exact HRR.out, rfl, HC4.out⟩⟩
          rw [HRV.out]
          exact (HOK.out.keepAt (fun g hg => (HLx.out.block g hg).trans (HL.out.block g hg).symm) (Nat.le_refl _)).more HLx.out.size
    · have hat : rowAt l k = none := rowAt_miss (none_all (p := fun y : MRow => decide (y.key = k)) (k := j) (by rw [Hn.out]; omega) HB.out)
      have HAT := Lib.hid hat
      have HRV := Lib.hid (rv_none hat)
      clear hat
      obtain ⟨hc4, hf4⟩ := blk_read HB4.out
      go_upto_region 6 with (fail)
      go_cut [5] (fun s wx => s = .bool false ∧ wx.heap[g4]? = some (.cells #[.string k, .int .i64 0, .string ⟨#[]⟩, .string ⟨#[]⟩, .slice none 0 0] 26 (0, 0)) ∧ Below w.heap.size w wx)
      case first =>
        go_wp2_with fail
        go_meet
        exact ⟨rfl, blk_row5 HB4.out _ _ _ _ _, (((((HL.out.setCell (p := ⟨g4, 0, none⟩) HG.out _).setCell (p := ⟨g4, 1, none⟩) HG.out _).setCell (p := ⟨g4, 2, none⟩) HG.out _).setCell (p := ⟨g4, 3, none⟩) HG.out _).setCell (p := ⟨g4, 4, none⟩) HG.out _)⟩
      case rest =>
        obtain ⟨rfl, hb4, hbx⟩ := hcut
        have HLx := Lib.hid hbx
        clear hbx hc2 hf2 hc4 hf4
        obtain ⟨hc4, hf4⟩ := blk_read hb4
        go_wp2_with fail
        refine bodyPost_ret (v := .tuple #[.agg #[.string k, .int .i64 0, .string ⟨#[]⟩, .string ⟨#[]⟩, .slice none 0 0], .bool false]) (by simp [results, Try.results32, go_sem, hc4]) rfl ?_
        exact ⟨none, 0, 0, by rw [HRV.out, HAT.out]; rfl, by rw [HRV.out]; exact emptyRow_ok2 HKS.out, HLx.out, .inl ⟨rfl, rfl, rfl, HAT.out⟩⟩
end Go.Proofs.Ytniomgngiiiklab
