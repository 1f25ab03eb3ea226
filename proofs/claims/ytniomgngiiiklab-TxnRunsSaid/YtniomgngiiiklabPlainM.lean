/- What an act does to a world of rows and clients, as plain functions; no program in sight. -/
import Derived.Test.YtniomgngiiiklabRows1M
import Derived.Test.YtniomgngiiiklabRowsBM
namespace Go.Proofs.Ytniomgngiiiklab
open Go.RowKit

/-! ### what row.Commit and row.Undo answer -/
/-- The records with one more, ahead of the first that began later. -/
def insAt (l : List MRec) (x : MRec) : Nat := l.findIdx fun y => decide (x.start < y.start)
def insRecs (l : List MRec) (x : MRec) : List MRec := l.take (insAt l x) ++ x :: l.drop (insAt l x)
def withF (r : MRow) (x : MRec) : MRow := if r.ls = x.start then ⟨r.key, 0, ⟨#[]⟩, ⟨#[]⟩, insRecs r.recs x⟩ else { r with recs := insRecs r.recs x }
def commitCode (r : MRow) (st cm : Int) : Int :=
  if (statusF r st).2.2 ≠ 0 then (statusF r st).2.2 else if cm ≤ st ∨ 1099511627776 < cm then 2 else if (statusF r st).1 = 3 then 9 else if (statusF r st).1 ≠ 1 then 5 else 0
def commitRow (r : MRow) (st cm : Int) : MRow := if commitCode r st cm = 0 then withF r ⟨st, cm, r.value⟩ else zeroRow
def undoCode (r : MRow) (st : Int) : Int :=
  if (statusF r st).2.2 ≠ 0 then (statusF r st).2.2 else if (statusF r st).1 = 2 then 6 else if (statusF r st).1 = 3 then 0
  else if (statusF r st).1 = 0 ∧ (r.recs.length = 100 ∨ (r.ls ≠ 0 ∧ r.recs.length = 99)) then 1 else 0
def undoRow (r : MRow) (st : Int) : MRow := if undoCode r st = 0 then (if (statusF r st).1 = 3 then r else withF r ⟨st, 0, ⟨#[]⟩⟩) else zeroRow

/-! ### the order of keys -/
theorem bytesLess_lt : ∀ x y : List UInt8, Op.bytesLess x y = decide (x < y)
  | [], [] => by simp [Op.bytesLess]
  | [], _ :: _ => by simp [Op.bytesLess]
  | _ :: _, [] => by simp [Op.bytesLess]
  | a :: x, b :: y => by
    rw [Op.bytesLess, bytesLess_lt x y, Bool.eq_iff_iff]
    simp [List.cons_lt_cons_iff]
def ltK (a b : ByteArray) : Bool := Op.bytesLess a.toList b.toList
theorem ltK_irrefl (a : ByteArray) : ltK a a = false := by
  unfold ltK; rw [bytesLess_lt]; simp
theorem ltK_trans {a b c : ByteArray} (h1 : ltK a b = true) (h2 : ltK b c = true) : ltK a c = true := by
  unfold ltK at *; rw [bytesLess_lt] at *; simp only [decide_eq_true_eq] at *
  exact List.lt_trans h1 h2
theorem ltK_asymm {a b : ByteArray} (h1 : ltK a b = true) : ltK b a = false := by
  cases h : ltK b a with
  | false => rfl
  | true => have := ltK_trans h1 h; rw [ltK_irrefl] at this; cases this
theorem toList_inj {a b : ByteArray} (h : a.toList = b.toList) : a = b := by
  rw [ByteArray.toList_eq, ByteArray.toList_eq] at h
  obtain ⟨x⟩ := a; obtain ⟨y⟩ := b
  have : x = y := Array.toList_inj.1 h
  rw [this]
theorem ltK_total {a b : ByteArray} (h1 : ltK a b = false) (h2 : ltK b a = false) : a = b := by
  unfold ltK at *; rw [bytesLess_lt] at *; simp only [decide_eq_false_iff_not, List.not_lt] at *
  exact toList_inj (List.le_antisymm h2 h1)
theorem ltK_ne {a b : ByteArray} (h : ltK a b = true) : a ≠ b := by rintro rfl; rw [ltK_irrefl] at h; cases h

/-! ### rows by their keys -/
def rowAt (l : List MRow) (k : ByteArray) : Option MRow := l.find? fun r => decide (r.key = k)
def emptyRow (k : ByteArray) : MRow := ⟨k, 0, ⟨#[]⟩, ⟨#[]⟩, []⟩
def putRow : List MRow → MRow → List MRow
  | [], r => [r]
  | x :: l, r => if ltK x.key r.key then x :: putRow l r else if x.key = r.key then r :: l else r :: x :: l
/-- Something is done at a row; a new one comes, if it must. -/
def atRow (l : List MRow) (k : ByteArray) (f : MRow → MRow) (e : MRow → Int) : List MRow × Int :=
  match rowAt l k with
  | some r => if e r = 0 then (putRow l (f r), 0) else (l, e r)
  | none => if l.length = 40 then (l, 1) else if e (emptyRow k) = 0 then (putRow l (f (emptyRow k)), 0) else (l, e (emptyRow k))
def undoAt (l : List MRow) (k : ByteArray) (st : Int) : List MRow × Int := atRow l k (fun r => undoRow r st) (fun r => undoCode r st)
def statusAt (l : List MRow) (k : ByteArray) (st : Int) : Int × Int := match rowAt l k with | some r => ((statusF r st).1, (statusF r st).2.1) | none => (0, 0)
def failStep (st : Int) (l : List MRow) (x : MWrite) : List MRow := if (statusAt l x.key st).1 = 1 then (undoAt l x.key st).1 else l
def failRows (l : List MRow) (ws : List MWrite) (st : Int) : List MRow := ws.foldl (failStep st) l

def putWrite : List MWrite → MWrite → List MWrite
  | [], x => [x]
  | y :: l, x => if ltK y.key x.key then y :: putWrite l x else if y.key = x.key then x :: l else x :: y :: l
def writeOf (l : List MWrite) (k : ByteArray) : Option MWrite := l.find? fun x => decide (x.key = k)

/-! ### acts -/
structure MAct where
  kind : Int
  c : Int
  key : ByteArray
  value : ByteArray
structure MAns where
  code : Int
  is : Bool
  value : ByteArray
  phase : Int
  time : Int
def zeroAns : MAns := ⟨0, false, ⟨#[]⟩, 0, 0⟩
def zeroClient : MClient := ⟨0, 0, 0, [], 0⟩
def zeroWorld : MWorld := ⟨[], 0, []⟩
def zeroWrite : MWrite := ⟨⟨#[]⟩, ⟨#[]⟩⟩

def writesB : List MWrite → Bool
  | [] => true
  | [x] => keyB x.key && decide (x.value.size ≤ 20)
  | x :: y :: l => keyB x.key && (decide (x.value.size ≤ 20) && (ltK x.key y.key && writesB (y :: l)))
def clientB (x : MClient) (clock : Int) : Bool :=
  decide (x.writes.length ≤ 6) && (writesB x.writes &&
    if x.phase = 0 then decide (x.start = 0 ∧ x.commit = 0 ∧ x.writes.length = 0 ∧ x.at_ = 0)
    else if x.phase = 1 then decide ((1 ≤ x.start ∧ x.start ≤ clock) ∧ x.commit = 0 ∧ x.at_ = 0)
    else if x.phase = 2 then decide ((1 ≤ x.start ∧ x.start ≤ clock) ∧ x.commit = 0 ∧ 0 ≤ x.at_ ∧ x.at_ ≤ x.writes.length ∧ 0 < x.writes.length)
    else if x.phase = 3 then decide ((1 ≤ x.start ∧ x.start ≤ clock) ∧ (x.start < x.commit ∧ x.commit ≤ clock) ∧ x.at_ = 0 ∧ 0 < x.writes.length)
    else if x.phase = 4 then decide ((1 ≤ x.start ∧ x.start ≤ clock) ∧ (x.start < x.commit ∧ x.commit ≤ clock) ∧ 1 ≤ x.at_ ∧ x.at_ < x.writes.length)
    else false)
def rowIn (clock : Int) (r : MRow) : Bool := rowB r && (decide (r.ls ≤ clock) && r.recs.all fun x => decide (x.start ≤ clock) && decide (x.commit ≤ clock))
def sortedRows : List MRow → Bool
  | [] => true
  | [_] => true
  | x :: y :: l => ltK x.key y.key && sortedRows (y :: l)
/-- Is the world valid? -/
def worldB (w : MWorld) : Bool :=
  decide (w.rows.length ≤ 40) && (decide (w.clients.length ≤ 5) && (decide (0 ≤ w.clock ∧ w.clock ≤ 1099511627376) && (w.rows.all (rowIn w.clock) && (sortedRows w.rows && w.clients.all fun c => clientB c w.clock))))

def clientAt (w : MWorld) (c : Nat) : MClient := w.clients[c]?.getD zeroClient
def setC (w : MWorld) (c : Nat) (x : MClient) : MWorld := { w with clients := w.clients.set c x }
def writeNo (x : MClient) (k : Int) : MWrite := x.writes[k.toNat]?.getD zeroWrite
def failM (w : MWorld) (c : Nat) (x : MClient) : MWorld := { w with rows := failRows w.rows x.writes x.start, clients := w.clients.set c zeroClient }
def lockAt (l : List MRow) (x : MClient) : List MRow × Int :=
  atRow l (writeNo x x.at_).key (fun r => lockRow r x.start (writeNo x 0).key (writeNo x x.at_).value) (fun r => lockCode r x.start (writeNo x 0).key (writeNo x x.at_).value)
def lockM (w : MWorld) (c : Nat) (x : MClient) : MWorld × Int :=
  if (lockAt w.rows x).2 = 0 then ({ w with rows := (lockAt w.rows x).1, clients := w.clients.set c { x with at_ := x.at_ + 1 } }, 0)
  else if (lockAt w.rows x).2 = 7 then (setC w c x, 7) else (failM w c x, (lockAt w.rows x).2)
def closeAt (l : List MRow) (x : MClient) : List MRow × Int :=
  atRow l (writeNo x x.at_).key (fun r => commitRow r x.start x.commit) (fun r => commitCode r x.start x.commit)
def closeM (w : MWorld) (c : Nat) (x : MClient) : MWorld × Int :=
  if x.at_ = 0 ∧ (closeAt w.rows x).2 ≠ 0 then (failM w c x, 9)
  else ({ w with rows := (closeAt w.rows x).1, clients := w.clients.set c (if x.at_ + 1 = x.writes.length then zeroClient else { x with phase := 4, at_ := x.at_ + 1 }) }, 0)
/-- One step of a commit: the world, the code, the time. -/
def stepM (w : MWorld) (c : Nat) (x : MClient) : MWorld × Int × Int :=
  if x.phase = 0 then (w, 6, 0)
  else if x.phase = 1 ∧ x.writes.length = 0 then (setC w c zeroClient, 0, 0)
  else if x.phase = 1 then ((lockM w c { x with phase := 2 }).1, (lockM w c { x with phase := 2 }).2, 0)
  else if x.phase = 2 ∧ x.at_ < x.writes.length then ((lockM w c x).1, (lockM w c x).2, 0)
  else if x.phase = 2 then ({ w with clock := w.clock + 1, clients := w.clients.set c { x with phase := 3, at_ := 0, commit := w.clock + 1 } }, 0, w.clock + 1)
  else ((closeM w c x).1, (closeM w c x).2, 0)
def resolveR (l : List MRow) (k : ByteArray) : List MRow × Int :=
  if keyB k = false then (l, 4) else match rowAt l k with
  | none => (l, 5)
  | some r => if r.ls = 0 then (l, 5)
    else if (statusAt l r.lp r.ls).1 = 2 then atRow l k (fun q => commitRow q r.ls (statusAt l r.lp r.ls).2) (fun q => commitCode q r.ls (statusAt l r.lp r.ls).2)
    else if (undoAt l r.lp r.ls).2 ≠ 0 then (l, (undoAt l r.lp r.ls).2) else undoAt (undoAt l r.lp r.ls).1 k r.ls
def getM (w : MWorld) (x : MClient) (k : ByteArray) : ByteArray × Bool × Int :=
  if keyB k = false then (⟨#[]⟩, false, 4) else match writeOf x.writes k with
  | some y => (y.value, true, 0)
  | none => match rowAt w.rows k with
    | none => (⟨#[]⟩, false, 0)
    | some r => readF r x.start
def putM (w : MWorld) (c : Nat) (x : MClient) (k v : ByteArray) : MWorld × Int :=
  if keyB k = false then (w, 4) else if 20 < v.size then (w, 1)
  else if (writeOf x.writes k).isNone ∧ x.writes.length = 6 then (w, 1)
  else (setC w c { x with writes := putWrite x.writes ⟨k, v⟩ }, 0)
/-- An act of a client: the world, and the answer but for the phase. -/
def actM (w : MWorld) (a : MAct) (c : Nat) (x : MClient) : MWorld × MAns :=
  if (a.kind = 1 ∧ x.phase ≠ 0) ∨ ((a.kind = 2 ∨ a.kind = 3) ∧ x.phase ≠ 1) ∨ (a.kind = 5 ∧ x.phase = 0) then (w, { zeroAns with code := 6 })
  else if a.kind = 1 then ({ w with clock := w.clock + 1, clients := w.clients.set c ⟨1, w.clock + 1, 0, [], 0⟩ }, { zeroAns with time := w.clock + 1 })
  else if a.kind = 2 then (w, { zeroAns with code := (getM w x a.key).2.2, value := (getM w x a.key).1, is := (getM w x a.key).2.1 })
  else if a.kind = 3 then ((putM w c x a.key a.value).1, { zeroAns with code := (putM w c x a.key a.value).2 })
  else if a.kind = 4 then ((stepM w c x).1, { zeroAns with code := (stepM w c x).2.1, time := (stepM w c x).2.2 })
  else if a.kind = 5 then (setC w c zeroClient, zeroAns)
  else ({ w with rows := (resolveR w.rows a.key).1 }, { zeroAns with code := (resolveR w.rows a.key).2 })
/-- txn.Do. -/
def doCode (w : MWorld) (a : MAct) : Int :=
  if worldB w = false then 6 else if a.kind < 1 ∨ 6 < a.kind then 3 else if a.c < 0 ∨ (w.clients.length : Int) ≤ a.c then 2 else if w.clock = 1099511627376 then 1 else 0
def doM (w : MWorld) (a : MAct) : MWorld × MAns × Int :=
  if doCode w a = 0 then
    let p := actM w a a.c.toNat (clientAt w a.c.toNat)
    (p.1, { p.2 with phase := (clientAt p.1 a.c.toNat).phase }, 0)
  else (zeroWorld, zeroAns, doCode w a)
/-- txn.Run. -/
def runStep (p : List MAns × MWorld) (a : MAct) : List MAns × MWorld :=
  if (doM p.2 a).2.2 = 0 then (p.1 ++ [(doM p.2 a).2.1], (doM p.2 a).1) else (p.1 ++ [{ zeroAns with code := (doM p.2 a).2.2 }], p.2)
def startW (n : Nat) : MWorld := ⟨[], 0, List.replicate n zeroClient⟩
def runM (n : Nat) (l : List MAct) : List MAns × MWorld := l.foldl runStep ([], startW n)
def runCode (n : Int) (l : List MAct) : Int := if n < 1 ∨ 5 < n then 2 else if 400 < l.length then 1 else 0
end Go.Proofs.Ytniomgngiiiklab

/- What a valid row is, said element by element; and that the operations on rows keep it; no program in sight. -/
namespace Go.Proofs.Ytniomgngiiiklab
open Go.RowKit

def RecGood (x : MRec) : Prop := 1 ≤ x.start ∧ x.start ≤ 1099511627776 ∧ x.value.size ≤ 20 ∧ (x.commit = 0 → x.value = ⟨#[]⟩) ∧ (x.commit ≠ 0 → x.start < x.commit ∧ x.commit ≤ 1099511627776)
def RecRel (a b : MRec) : Prop := a.start < b.start ∧ (b.commit ≠ 0 → a.commit ≤ b.start)
structure RecsGood (l : List MRec) : Prop where
  each : ∀ x ∈ l, RecGood x
  pair : l.Pairwise RecRel

theorem size_empty_iff {s : ByteArray} : s = ⟨#[]⟩ ↔ ¬ 1 ≤ s.size := ⟨by rintro rfl; decide, str_eq_empty⟩

theorem recStep_iff {prev last last' : Int} {x : MRec} : recStep prev last x = some last' ↔
    RecGood x ∧ prev < x.start ∧ ((x.commit = 0 ∧ last' = last) ∨ (x.commit ≠ 0 ∧ last ≤ x.start ∧ last' = x.commit)) := by
  constructor
  · intro h
    obtain ⟨t, hp, hs, hc⟩ := recStep_some h
    have hb := timeB_bounds t
    rcases hc with ⟨c0, rfl, hv⟩ | ⟨c0, c1, c2, c3, rfl⟩
    · exact ⟨⟨hb.1, hb.2, hs, fun _ => str_eq_empty hv, fun h => absurd c0 h⟩, hp, .inl ⟨c0, rfl⟩⟩
    · exact ⟨⟨hb.1, hb.2, hs, fun h => absurd h c0, fun _ => ⟨c1, c2⟩⟩, hp, .inr ⟨c0, c3, rfl⟩⟩
  · rintro ⟨⟨h1, h2, h3, h4, h5⟩, hp, hc⟩
    have t : timeB x.start = true := by simp [timeB, inB, h1, h2]
    rcases hc with ⟨c0, rfl⟩ | ⟨c0, c3, rfl⟩
    · exact step_zero t hp h3 c0 (size_empty_iff.1 (h4 c0))
    · exact step_ok t hp h3 c0 (h5 c0).1 (h5 c0).2 c3

theorem recsFold_iff : ∀ (l : List MRec) (prev last : Int), 0 ≤ prev → 0 ≤ last → last ≤ prev + 1099511627776 * 2 →
    ((∃ last', recsFold prev last l = some last') ↔ (∀ x ∈ l, RecGood x ∧ prev < x.start ∧ (x.commit ≠ 0 → last ≤ x.start)) ∧ l.Pairwise RecRel)
  | [], prev, last, _, _, _ => by simp [recsFold]
  | x :: l, prev, last, hp, hl, hb => by
    simp only [recsFold]
    constructor
    · rintro ⟨last', h⟩
      cases hs : recStep prev last x with
      | none => rw [hs] at h; cases h
      | some l1 =>
        rw [hs] at h
        obtain ⟨hg, hpx, hc⟩ := recStep_iff.1 hs
        obtain ⟨g1, g2, g3, g4, g5⟩ := hg
        have hl1 : 0 ≤ l1 ∧ last ≤ l1 ∧ l1 ≤ x.start + 1099511627776 * 2 ∧ (x.commit ≠ 0 → last ≤ x.start) ∧ x.commit ≤ l1 := by
          rcases hc with ⟨c0, rfl⟩ | ⟨c0, c3, rfl⟩
          · exact ⟨hl, by omega, by omega, fun h => absurd c0 h, by omega⟩
          · have := g5 c0; exact ⟨by omega, by omega, by omega, fun _ => c3, by omega⟩
        obtain ⟨h1, h2⟩ := (recsFold_iff l x.start l1 (by omega) hl1.1 hl1.2.2.1).1 ⟨last', h⟩
        refine ⟨?_, List.pairwise_cons.2 ⟨fun y hy => ?_, h2⟩⟩
        · intro y hy
          rcases List.mem_cons.1 hy with rfl | hy
          · exact ⟨⟨g1, g2, g3, g4, g5⟩, hpx, hl1.2.2.2.1⟩
          · obtain ⟨a, b, c⟩ := h1 y hy
            exact ⟨a, by omega, fun h => by have := c h; omega⟩
        · obtain ⟨a, b, c⟩ := h1 y hy
          exact ⟨b, fun h => by have := c h; omega⟩
    · rintro ⟨h1, h2⟩
      obtain ⟨g, hpx, hlx⟩ := h1 x List.mem_cons_self
      obtain ⟨h2a, h2b⟩ := List.pairwise_cons.1 h2
      have hex : ∃ l1, recStep prev last x = some l1 ∧ 0 ≤ l1 ∧ l1 ≤ x.start + 1099511627776 * 2 ∧ (l1 = last ∨ l1 = x.commit) := by
        by_cases c0 : x.commit = 0
        · exact ⟨last, recStep_iff.2 ⟨g, hpx, .inl ⟨c0, rfl⟩⟩, hl, by omega, .inl rfl⟩
        · obtain ⟨g1, g2, g3, g4, g5⟩ := g
          have := g5 c0
          exact ⟨x.commit, recStep_iff.2 ⟨⟨g1, g2, g3, g4, g5⟩, hpx, .inr ⟨c0, hlx c0, rfl⟩⟩, by omega, by omega, .inr rfl⟩
      obtain ⟨l1, hs, h0, hb1, hor⟩ := hex
      rw [hs]
      have g1 := g.1
      refine (recsFold_iff l x.start l1 (by omega) h0 hb1).2 ⟨fun y hy => ?_, h2b⟩
      obtain ⟨a, b, c⟩ := h1 y (List.mem_cons_of_mem _ hy)
      have hr := h2a y hy
      refine ⟨a, hr.1, fun h => ?_⟩
      rcases hor with rfl | rfl
      · exact c h
      · exact hr.2 h

theorem recsFold_good {l : List MRec} : (∃ last, recsFold 0 0 l = some last) ↔ RecsGood l := by
  rw [recsFold_iff l 0 0 (by omega) (by omega) (by omega)]
  constructor
  · rintro ⟨h1, h2⟩; exact ⟨fun x hx => (h1 x hx).1, h2⟩
  · rintro ⟨h1, h2⟩
    refine ⟨fun x hx => ?_, h2⟩
    have g := h1 x hx
    have := g.1
    exact ⟨g, by omega, fun _ => by omega⟩

structure RowGood (r : MRow) : Prop where
  key : keyB r.key = true
  recs : RecsGood r.recs
  size : r.value.size ≤ 20
  len : r.recs.length ≤ 100
  free : r.ls = 0 → r.lp = ⟨#[]⟩ ∧ r.value = ⟨#[]⟩
  lock : r.ls ≠ 0 → 1 ≤ r.ls ∧ r.ls ≤ 1099511627776 ∧ keyB r.lp = true ∧ (∀ x ∈ r.recs, x.start ≠ r.ls ∧ x.commit ≤ r.ls) ∧ r.recs.length ≤ 99

theorem findB_neg {r : MRow} {st : Int} : findB r st < 0 ↔ ∀ x ∈ r.recs, x.start ≠ st := by
  have h := recFind_find r st
  rw [Bool.eq_iff_iff] at h
  simp only [decide_eq_true_eq, Bool.not_eq_true'] at h
  rw [h]
  unfold recFind
  cases hf : r.recs.find? (fun x => x.start == st) with
  | none =>
    rw [List.find?_eq_none] at hf
    simp only [Option.isSome_none, true_iff]
    intro x hx e
    exact hf x hx (by simpa using e)
  | some y =>
    simp only [Option.isSome_some, Bool.true_eq_false, false_iff]
    intro hall
    exact hall y (List.mem_of_find?_eq_some hf) (by simpa using List.find?_some hf)

theorem rowB_iff {r : MRow} : rowB r = true ↔ RowGood r := by
  constructor
  · intro h
    unfold rowB at h
    simp only [Bool.and_eq_true] at h
    obtain ⟨hh, ht⟩ := h
    cases hf : recsFold 0 0 r.recs with
    | none => rw [hf] at ht; cases ht
    | some last =>
      rw [hf] at ht
      have hg := recsFold_good.1 ⟨last, hf⟩
      obtain ⟨hm0, hm1, hm2⟩ := recsTo_max (rs := r.recs) (k := r.recs.length) (Nat.le_refl _) (by rw [recsTo_all (Nat.le_refl _)]; exact hf)
      have hmx : ∀ x ∈ r.recs, x.commit ≤ last := fun x hx => by
        obtain ⟨j, hj, rfl⟩ := List.mem_iff_getElem.1 hx
        exact hm1 j _ hj (List.getElem?_eq_getElem hj)
      unfold headB at hh
      simp only [Bool.and_eq_true, decide_eq_true_eq] at hh
      obtain ⟨h1, h2, h3, h4⟩ := hh
      simp only [tailB, Bool.or_eq_true, Bool.and_eq_true, decide_eq_true_eq, Bool.not_eq_true', decide_eq_false_iff_not] at ht
      unfold lockB at h4
      refine ⟨h1, hg, h2, h3, fun h0 => ?_, fun h0 => ?_⟩
      · rw [if_pos h0] at h4
        simp only [Bool.and_eq_true, decide_eq_true_eq] at h4
        exact ⟨str_eq_empty (by omega), str_eq_empty (by omega)⟩
      · rw [if_neg h0] at h4
        simp only [Bool.and_eq_true, decide_eq_true_eq] at h4
        have hb := timeB_bounds h4.1
        rcases ht with ht | ht
        · exact absurd ht h0
        · refine ⟨hb.1, hb.2, h4.2.1, fun x hx => ⟨findB_neg.1 h4.2.2 x hx, ?_⟩, ?_⟩
          · have := hmx x hx; omega
          · omega
  · intro ⟨h1, h2, h3, h4, h5, h6⟩
    obtain ⟨last, hf⟩ := recsFold_good.2 h2
    obtain ⟨hm0, hm1, hm2⟩ := recsTo_max (rs := r.recs) (k := r.recs.length) (Nat.le_refl _) (by rw [recsTo_all (Nat.le_refl _)]; exact hf)
    unfold rowB
    rw [hf]
    have hlast : r.ls ≠ 0 → last ≤ r.ls := fun h0 => by
      obtain ⟨a, b, c, d, e⟩ := h6 h0
      rcases hm2 with h | ⟨j, x, hj, hx, hc⟩
      · omega
      · have := (d x (List.mem_of_getElem? hx)).2; omega
    have hlk : lockB r = true := by
      unfold lockB
      by_cases h0 : r.ls = 0
      · rw [if_pos h0]
        obtain ⟨a, b⟩ := h5 h0
        rw [a, b]
        decide
      · rw [if_neg h0]
        obtain ⟨a, b, c, d, e⟩ := h6 h0
        have t : timeB r.ls = true := by simp [timeB, inB, a, b]
        have f : findB r r.ls < 0 := findB_neg.2 fun x hx => (d x hx).1
        simp [t, c, f]
    have htl : tailB r last = true := by
      unfold tailB
      by_cases h0 : r.ls = 0
      · simp [h0]
      · have := hlast h0
        obtain ⟨a, b, c, d, e⟩ := h6 h0
        simp [h0, this]; omega
    simp [headB, h1, h3, h4, hlk, htl]

/-! ### one record more -/
theorem insAt_le (l : List MRec) (x : MRec) : insAt l x ≤ l.length := List.findIdx_le_length
theorem insAt_before {l : List MRec} {x : MRec} : ∀ y ∈ l.take (insAt l x), y.start ≤ x.start := by
  intro y hy
  obtain ⟨j, hj, rfl⟩ := List.mem_iff_getElem.1 hy
  rw [List.getElem_take]
  have hj' : j < insAt l x := by rw [List.length_take] at hj; omega
  have := List.not_of_lt_findIdx hj'
  simp at this
  exact this
theorem insAt_behind {l : List MRec} {x : MRec} (hp : l.Pairwise RecRel) : ∀ y ∈ l.drop (insAt l x), x.start < y.start := by
  intro y hy
  obtain ⟨j, hj, rfl⟩ := List.mem_iff_getElem.1 hy
  rw [List.length_drop] at hj
  rw [List.getElem_drop]
  have hlt : insAt l x < l.length := by omega
  have h0 : x.start < l[insAt l x].start := by
    have := List.findIdx_getElem (xs := l) (p := fun y : MRec => decide (x.start < y.start)) (w := hlt)
    exact of_decide_eq_true this
  by_cases hj0 : j = 0
  · subst hj0; exact h0
  · have := (List.pairwise_iff_getElem.1 hp (insAt l x) (insAt l x + j) hlt (by omega) (by omega)).1
    omega
theorem mem_insRecs {l : List MRec} {x y : MRec} : y ∈ insRecs l x ↔ y = x ∨ y ∈ l := by
  unfold insRecs
  rw [List.mem_append, List.mem_cons]
  conv => rhs; rw [← List.take_append_drop (insAt l x) l, List.mem_append]
  constructor
  · rintro (h | h | h)
    · exact .inr (.inl h)
    · exact .inl h
    · exact .inr (.inr h)
  · rintro (h | h | h)
    · exact .inr (.inl h)
    · exact .inl h
    · exact .inr (.inr h)
theorem length_insRecs (l : List MRec) (x : MRec) : (insRecs l x).length = l.length + 1 := by
  have := insAt_le l x
  simp only [insRecs, List.length_append, List.length_take, List.length_cons, List.length_drop]; omega
theorem insRecs_good {l : List MRec} {x : MRec} (h : RecsGood l) (hx : RecGood x) (hne : ∀ y ∈ l, y.start ≠ x.start) (hc : x.commit ≠ 0 → ∀ y ∈ l, y.commit ≤ x.start) : RecsGood (insRecs l x) := by
  refine ⟨fun y hy => ?_, ?_⟩
  · rcases mem_insRecs.1 hy with rfl | hy
    · exact hx
    · exact h.each y hy
  · unfold insRecs
    have hp := h.pair
    have hb := insAt_before (l := l) (x := x)
    have ha := insAt_behind (x := x) hp
    rw [← List.take_append_drop (insAt l x) l, List.pairwise_append] at hp
    rw [List.pairwise_append, List.pairwise_cons]
    refine ⟨hp.1, ⟨fun y hy => ⟨ha y hy, fun h0 => ?_⟩, hp.2.1⟩, fun y hy z hz => ?_⟩
    · have hyl := List.mem_of_mem_drop hy
      by_cases hx0 : x.commit = 0
      · have := (h.each y hyl).1; omega
      · have h1 := hc hx0 y hyl
        have h2 := ha y hy
        have h3 := ((h.each y hyl).2.2.2.2 h0).1
        omega
    · have hyl := List.mem_of_mem_take hy
      rcases List.mem_cons.1 hz with rfl | hz
      · have h1 := hb y hy
        have h2 := hne y hyl
        exact ⟨by omega, fun h0 => hc h0 y hyl⟩
      · exact hp.2.2 y hy z hz

/-! ### the operations on rows -/
theorem statusF_good {r : MRow} {st : Int} (h : (statusF r st).2.2 = 0) : rowB r = true ∧ timeB st = true := by
  unfold statusF at h
  cases hr : rowB r
  · simp [hr] at h
  · cases ht : timeB st
    · simp [hr, ht] at h
    · exact ⟨rfl, rfl⟩
theorem statusF_of {r : MRow} {st : Int} (hr : rowB r = true) (ht : timeB st = true) :
    statusF r st = (if r.ls = st then ((1, 0, 0) : Int × Int × Int) else match recFind r.recs st with
    | none => (0, 0, 0)
    | some x => if x.commit = 0 then (3, 0, 0) else (2, x.commit, 0)) := by
  unfold statusF
  rw [hr, ht]
  rfl
theorem recFind_mem {l : List MRec} {st : Int} {x : MRec} (h : recFind l st = some x) : x ∈ l ∧ x.start = st := by
  unfold recFind at h
  exact ⟨List.mem_of_find?_eq_some h, by simpa using List.find?_some h⟩
theorem recFind_none {l : List MRec} {st : Int} (h : recFind l st = none) : ∀ y ∈ l, y.start ≠ st := by
  unfold recFind at h
  rw [List.find?_eq_none] at h
  intro y hy e
  exact h y hy (by simpa using e)
theorem recFind_of_mem {l : List MRec} (hp : l.Pairwise RecRel) {x : MRec} (hx : x ∈ l) : recFind l x.start = some x := by
  cases h : recFind l x.start with
  | none => exact absurd rfl (recFind_none h x hx)
  | some y =>
    obtain ⟨hy, he⟩ := recFind_mem h
    obtain ⟨i, hi, rfl⟩ := List.mem_iff_getElem.1 hx
    obtain ⟨j, hj, rfl⟩ := List.mem_iff_getElem.1 hy
    rcases Nat.lt_trichotomy i j with hlt | rfl | hlt
    · have := (List.pairwise_iff_getElem.1 hp i j hi hj hlt).1; omega
    · rfl
    · have := (List.pairwise_iff_getElem.1 hp j i hj hi hlt).1; omega
theorem status_one {r : MRow} {st : Int} (h0 : (statusF r st).2.2 = 0) (h : (statusF r st).1 = 1) : r.ls = st := by
  obtain ⟨hr, ht⟩ := statusF_good h0
  rw [statusF_of hr ht] at h
  by_cases hl : r.ls = st
  · exact hl
  · rw [if_neg hl] at h
    cases hf : recFind r.recs st with
    | none => rw [hf] at h; simp at h
    | some x => rw [hf] at h; by_cases h0 : x.commit = 0 <;> simp [h0] at h
theorem status_zero {r : MRow} {st : Int} (h0 : (statusF r st).2.2 = 0) (h : (statusF r st).1 = 0) : r.ls ≠ st ∧ recFind r.recs st = none := by
  obtain ⟨hr, ht⟩ := statusF_good h0
  rw [statusF_of hr ht] at h
  by_cases hl : r.ls = st
  · rw [if_pos hl] at h; simp at h
  · rw [if_neg hl] at h
    cases hf : recFind r.recs st with
    | none => exact ⟨hl, rfl⟩
    | some x => rw [hf] at h; by_cases h0 : x.commit = 0 <;> simp [h0] at h
theorem status_two {r : MRow} {st : Int} (h : (statusF r st).1 = 2) : r.ls ≠ st ∧ ∃ x, recFind r.recs st = some x ∧ x.commit ≠ 0 ∧ (statusF r st).2.1 = x.commit := by
  unfold statusF at h ⊢
  cases hr : rowB r
  · simp [hr] at h
  cases ht : timeB st
  · simp [hr, ht] at h
  simp only [hr, ht, if_true] at h ⊢
  by_cases hl : r.ls = st
  · rw [if_pos hl] at h; simp at h
  · rw [if_neg hl] at h ⊢
    cases hf : recFind r.recs st with
    | none => rw [hf] at h; simp at h
    | some x =>
      rw [hf] at h
      by_cases h0 : x.commit = 0
      · simp [h0] at h
      · exact ⟨hl, x, rfl, h0, by simp [h0]⟩
theorem status_three {r : MRow} {st : Int} (h : (statusF r st).1 = 3) : r.ls ≠ st ∧ ∃ x, recFind r.recs st = some x ∧ x.commit = 0 := by
  unfold statusF at h
  cases hr : rowB r
  · simp [hr] at h
  cases ht : timeB st
  · simp [hr, ht] at h
  simp only [hr, ht, if_true] at h
  by_cases hl : r.ls = st
  · rw [if_pos hl] at h; simp at h
  · rw [if_neg hl] at h
    cases hf : recFind r.recs st with
    | none => rw [hf] at h; simp at h
    | some x =>
      rw [hf] at h
      by_cases h0 : x.commit = 0
      · exact ⟨hl, x, rfl, h0⟩
      · simp [h0] at h

theorem lockCode_ok {r : MRow} {st : Int} {p v : ByteArray} (h : lockCode r st p v = 0) :
    rowB r = true ∧ timeB st = true ∧ keyB p = true ∧ v.size ≤ 20 ∧ (∀ x ∈ r.recs, x.commit ≤ st) ∧ r.ls = 0 ∧ r.recs.length ≤ 99 ∧ recFind r.recs st = none := by
  unfold lockCode at h
  by_cases h1 : (statusF r st).2.2 ≠ 0
  · rw [if_pos h1] at h; exact absurd h h1
  rw [if_neg h1] at h
  have h1 := Decidable.not_not.1 h1
  obtain ⟨hr, ht⟩ := statusF_good h1
  by_cases h2 : keyB p = false
  · rw [if_pos h2] at h; omega
  rw [if_neg h2] at h
  by_cases h3 : 20 < v.size
  · rw [if_pos h3] at h; omega
  rw [if_neg h3] at h
  by_cases h4 : (statusF r st).1 = 3
  · rw [if_pos h4] at h; omega
  rw [if_neg h4] at h
  by_cases h5 : (statusF r st).1 = 2 ∨ (r.recs.any fun x => decide (st < x.commit)) = true
  · rw [if_pos h5] at h; omega
  rw [if_neg h5] at h
  by_cases h6 : r.ls ≠ 0
  · rw [if_pos h6] at h; omega
  rw [if_neg h6] at h
  have h6 := Decidable.not_not.1 h6
  by_cases h7 : r.recs.length = 100
  · rw [if_pos h7] at h; omega
  have hg := rowB_iff.1 hr
  have hlen := hg.len
  refine ⟨hr, ht, by simpa using h2, by omega, fun x hx => ?_, h6, by omega, ?_⟩
  · apply Int.not_lt.1
    intro hlt
    exact h5 (.inr (List.any_eq_true.2 ⟨x, hx, by simpa using hlt⟩))
  · have hb := statusF_bounds r st
    have hls : ¬ r.ls = st := by have := timeB_bounds ht; omega
    rw [statusF_of hr ht, if_neg hls] at h4 h5
    cases hf : recFind r.recs st with
    | none => rfl
    | some x =>
      rw [hf] at h4 h5
      by_cases h0 : x.commit = 0
      · simp [h0] at h4
      · simp [h0] at h5

theorem lockRow_good {r : MRow} {st : Int} {p v : ByteArray} (h : lockCode r st p v = 0) : RowGood (lockRow r st p v) ∧ (lockRow r st p v) = { r with ls := st, lp := p, value := v } := by
  have he : lockRow r st p v = { r with ls := st, lp := p, value := v } := by unfold lockRow; rw [if_pos h]
  refine ⟨?_, he⟩
  obtain ⟨hr, ht, hp, hv, hc, hl, hn, hf⟩ := lockCode_ok h
  have hg := rowB_iff.1 hr
  have hb := timeB_bounds ht
  rw [he]
  exact ⟨hg.key, hg.recs, hv, hg.len, fun h0 => absurd (show st = 0 from h0) (by omega), fun _ => ⟨hb.1, hb.2, hp, fun x hx => ⟨recFind_none hf x hx, hc x hx⟩, hn⟩⟩

theorem withF_key (r : MRow) (x : MRec) : (withF r x).key = r.key := by unfold withF; split <;> rfl
theorem withF_recs (r : MRow) (x : MRec) : (withF r x).recs = insRecs r.recs x := by unfold withF; split <;> rfl

theorem withF_good {r : MRow} {x : MRec} (hr : RowGood r) (hx : RecGood x) (hne : ∀ y ∈ r.recs, y.start ≠ x.start) (hc : x.commit ≠ 0 → r.ls = x.start) (hlen : r.ls = x.start ∨ (r.ls = 0 ∧ r.recs.length ≤ 99) ∨ r.recs.length ≤ 98) : RowGood (withF r x) := by
  have hx1 := hx.1
  have hg : RecsGood (insRecs r.recs x) := insRecs_good hr.recs hx hne fun h0 y hy => by
    have hl := hc h0
    have := (hr.lock (by omega)).2.2.2.1 y hy
    omega
  have hli := length_insRecs r.recs x
  unfold withF
  by_cases hl : r.ls = x.start
  · rw [if_pos hl]
    have := (hr.lock (by omega)).2.2.2.2
    exact ⟨hr.key, hg, by show (0 : Nat) ≤ 20; omega, by show (insRecs r.recs x).length ≤ 100; omega, fun _ => ⟨rfl, rfl⟩, fun h => absurd rfl h⟩
  · rw [if_neg hl]
    have hx0 : x.commit = 0 := by
      apply Decidable.byContradiction
      intro h0; exact hl (hc h0)
    refine ⟨hr.key, hg, hr.size, by show (insRecs r.recs x).length ≤ 100; omega, hr.free, fun h0 => ?_⟩
    obtain ⟨a, b, c, d, e⟩ := hr.lock h0
    refine ⟨a, b, c, fun y hy => ?_, ?_⟩
    · rcases mem_insRecs.1 hy with rfl | hy
      · exact ⟨fun e => hl e.symm, by show y.commit ≤ r.ls; omega⟩
      · exact d y hy
    · have h0' : r.ls ≠ 0 := h0
      show (insRecs r.recs x).length ≤ 99; omega

theorem commitCode_ok {r : MRow} {st cm : Int} (h : commitCode r st cm = 0) : rowB r = true ∧ timeB st = true ∧ st < cm ∧ cm ≤ 1099511627776 ∧ r.ls = st := by
  unfold commitCode at h
  by_cases h1 : (statusF r st).2.2 ≠ 0
  · rw [if_pos h1] at h; exact absurd h h1
  rw [if_neg h1] at h
  have h1 := Decidable.not_not.1 h1
  obtain ⟨hr, ht⟩ := statusF_good h1
  by_cases h2 : cm ≤ st ∨ 1099511627776 < cm
  · rw [if_pos h2] at h; omega
  rw [if_neg h2] at h
  by_cases h3 : (statusF r st).1 = 3
  · rw [if_pos h3] at h; omega
  rw [if_neg h3] at h
  by_cases h4 : (statusF r st).1 ≠ 1
  · rw [if_pos h4] at h; omega
  exact ⟨hr, ht, by omega, by omega, status_one h1 (Decidable.not_not.1 h4)⟩
theorem commitCode_mk {r : MRow} {st cm : Int} (hr : rowB r = true) (ht : timeB st = true) (h1 : st < cm) (h2 : cm ≤ 1099511627776) (hl : r.ls = st) : commitCode r st cm = 0 := by
  unfold commitCode
  rw [statusF_of hr ht, if_pos hl]
  have e : ¬ (cm ≤ st ∨ 1099511627776 < cm) := by omega
  simp [e]
theorem commitRow_good {r : MRow} {st cm : Int} (h : commitCode r st cm = 0) : RowGood (commitRow r st cm) ∧ commitRow r st cm = withF r ⟨st, cm, r.value⟩ := by
  have he : commitRow r st cm = withF r ⟨st, cm, r.value⟩ := by unfold commitRow; rw [if_pos h]
  refine ⟨?_, he⟩
  obtain ⟨hr, ht, h1, h2, hl⟩ := commitCode_ok h
  have hb := timeB_bounds ht
  have hg := rowB_iff.1 hr
  have hlk := hg.lock (by omega)
  rw [he]
  refine withF_good hg ⟨hb.1, hb.2, hg.size, fun h0 => ?_, fun _ => ⟨h1, h2⟩⟩ (fun y hy => ?_) (fun _ => hl) (.inl hl)
  · exact absurd (show cm = 0 from h0) (by omega)
  · have := (hlk.2.2.2.1 y hy).1
    rw [hl] at this; exact this

theorem undoCode_ok {r : MRow} {st : Int} (h : undoCode r st = 0) : rowB r = true ∧ timeB st = true ∧
    (((statusF r st).1 = 3 ∧ undoRow r st = r) ∨ (undoRow r st = withF r ⟨st, 0, ⟨#[]⟩⟩ ∧ recFind r.recs st = none ∧ (r.ls = st ∨ (r.ls = 0 ∧ r.recs.length ≤ 99) ∨ r.recs.length ≤ 98))) := by
  have he : undoRow r st = if (statusF r st).1 = 3 then r else withF r ⟨st, 0, ⟨#[]⟩⟩ := by unfold undoRow; rw [if_pos h]
  unfold undoCode at h
  by_cases h1 : (statusF r st).2.2 ≠ 0
  · rw [if_pos h1] at h; exact absurd h h1
  rw [if_neg h1] at h
  have h1 := Decidable.not_not.1 h1
  obtain ⟨hr, ht⟩ := statusF_good h1
  refine ⟨hr, ht, ?_⟩
  by_cases h2 : (statusF r st).1 = 2
  · rw [if_pos h2] at h; omega
  rw [if_neg h2] at h
  by_cases h3 : (statusF r st).1 = 3
  · rw [if_pos h3] at he; exact .inl ⟨h3, he⟩
  rw [if_neg h3] at h he
  by_cases h4 : (statusF r st).1 = 0 ∧ (r.recs.length = 100 ∨ (r.ls ≠ 0 ∧ r.recs.length = 99))
  · rw [if_pos h4] at h; omega
  have hg := rowB_iff.1 hr
  have hlen := hg.len
  refine .inr ⟨he, ?_, ?_⟩
  · rcases (statusF_bounds r st).1 with h0 | h0 | h0 | h0
    · exact (status_zero h1 h0).2
    · have hl := status_one h1 h0
      cases hf : recFind r.recs st with
      | none => rfl
      | some x =>
        obtain ⟨hx, e⟩ := recFind_mem hf
        have hb := timeB_bounds ht
        exact absurd (e.trans hl.symm) ((hg.lock (by omega)).2.2.2.1 x hx).1
    · exact absurd h0 h2
    · exact absurd h0 h3
  · rcases (statusF_bounds r st).1 with h0 | h0 | h0 | h0
    · rw [h0] at h4
      have hlk := hg.lock
      by_cases hls : r.ls = 0
      · exact .inr (.inl ⟨hls, by omega⟩)
      · have := (hlk hls).2.2.2.2
        exact .inr (.inr (by omega))
    · exact .inl (status_one h1 h0)
    · exact absurd h0 h2
    · exact absurd h0 h3
theorem undoRow_good {r : MRow} {st : Int} (h : undoCode r st = 0) : RowGood (undoRow r st) := by
  obtain ⟨hr, ht, hc⟩ := undoCode_ok h
  have hg := rowB_iff.1 hr
  have hb := timeB_bounds ht
  rcases hc with ⟨_, e⟩ | ⟨e, hf, hlen⟩
  · rw [e]; exact hg
  · rw [e]
    exact withF_good hg ⟨hb.1, hb.2, by show (0 : Nat) ≤ 20; omega, fun _ => rfl, fun h0 => absurd rfl h0⟩ (recFind_none hf) (fun h0 => absurd rfl h0) hlen
end Go.Proofs.Ytniomgngiiiklab

/- A valid world stays valid whatever a client does; no program in sight. -/
namespace Go.Proofs.Ytniomgngiiiklab
open Go.RowKit

def RowIn (clock : Int) (r : MRow) : Prop := r.ls ≤ clock ∧ ∀ x ∈ r.recs, x.start ≤ clock ∧ x.commit ≤ clock
structure RowsVal (clock : Int) (l : List MRow) : Prop where
  each : ∀ r ∈ l, RowGood r ∧ RowIn clock r
  sorted : l.Pairwise fun a b => ltK a.key b.key = true
  len : l.length ≤ 40
structure WorldGood (w : MWorld) : Prop where
  rows : RowsVal w.clock w.rows
  few : w.clients.length ≤ 5
  clock : 0 ≤ w.clock ∧ w.clock ≤ 1099511627376
  clients : ∀ c ∈ w.clients, clientB c w.clock = true

theorem rowIn_iff {clock : Int} {r : MRow} : rowIn clock r = true ↔ RowGood r ∧ RowIn clock r := by
  unfold rowIn RowIn
  rw [Bool.and_eq_true, Bool.and_eq_true, rowB_iff]
  simp
theorem sortedRows_iff : ∀ {l : List MRow}, sortedRows l = true ↔ l.Pairwise fun a b => ltK a.key b.key = true
  | [] => by simp [sortedRows]
  | [x] => by simp [sortedRows]
  | x :: y :: l => by
    rw [sortedRows, Bool.and_eq_true, sortedRows_iff, List.pairwise_cons (a := x)]
    constructor
    · rintro ⟨h1, h2⟩
      refine ⟨fun z hz => ?_, h2⟩
      rcases List.mem_cons.1 hz with rfl | hz
      · exact h1
      · exact ltK_trans h1 ((List.pairwise_cons.1 h2).1 z hz)
    · rintro ⟨h1, h2⟩
      exact ⟨h1 y List.mem_cons_self, h2⟩
theorem worldB_iff {w : MWorld} : worldB w = true ↔ WorldGood w := by
  unfold worldB
  simp only [Bool.and_eq_true, decide_eq_true_eq, List.all_eq_true, rowIn_iff, sortedRows_iff]
  constructor
  · rintro ⟨h1, h2, h3, h4, h5, h6⟩; exact ⟨⟨h4, h5, h1⟩, h2, h3, h6⟩
  · rintro ⟨⟨h4, h5, h1⟩, h2, h3, h6⟩; exact ⟨h1, h2, h3, h4, h5, h6⟩

/-! ### rows by their keys -/
theorem rowAt_mem {l : List MRow} {k : ByteArray} {r : MRow} (h : rowAt l k = some r) : r ∈ l ∧ r.key = k :=
  ⟨List.mem_of_find?_eq_some h, by simpa using List.find?_some h⟩
theorem rowAt_none {l : List MRow} {k : ByteArray} (h : rowAt l k = none) : ∀ r ∈ l, r.key ≠ k := by
  intro r hr e
  exact List.find?_eq_none.1 h r hr (by simpa using e)
theorem rowAt_of_mem {l : List MRow} (hs : l.Pairwise fun a b => ltK a.key b.key = true) {r : MRow} (hr : r ∈ l) : rowAt l r.key = some r := by
  cases h : rowAt l r.key with
  | none => exact absurd rfl (rowAt_none h r hr)
  | some y =>
    obtain ⟨hy, he⟩ := rowAt_mem h
    obtain ⟨i, hi, rfl⟩ := List.mem_iff_getElem.1 hr
    obtain ⟨j, hj, rfl⟩ := List.mem_iff_getElem.1 hy
    rcases Nat.lt_trichotomy i j with hlt | rfl | hlt
    · exact absurd he (ltK_ne (List.pairwise_iff_getElem.1 hs i j hi hj hlt)).symm
    · rfl
    · exact absurd he (ltK_ne (List.pairwise_iff_getElem.1 hs j i hj hi hlt))
theorem mem_putRow : ∀ {l : List MRow} {r y : MRow}, y ∈ putRow l r → y = r ∨ y ∈ l
  | [], r, y, h => by simp [putRow] at h; exact .inl h
  | x :: l, r, y, h => by
    unfold putRow at h
    split at h
    · rcases List.mem_cons.1 h with rfl | h
      · exact .inr List.mem_cons_self
      · rcases mem_putRow h with h | h
        · exact .inl h
        · exact .inr (List.mem_cons_of_mem _ h)
    · split at h
      · rcases List.mem_cons.1 h with rfl | h
        · exact .inl rfl
        · exact .inr (List.mem_cons_of_mem _ h)
      · rcases List.mem_cons.1 h with rfl | h
        · exact .inl rfl
        · exact .inr h
theorem putRow_sorted : ∀ {l : List MRow} {r : MRow}, (l.Pairwise fun a b => ltK a.key b.key = true) → (putRow l r).Pairwise fun a b => ltK a.key b.key = true
  | [], r, _ => by simp [putRow]
  | x :: l, r, h => by
    obtain ⟨h1, h2⟩ := List.pairwise_cons.1 h
    unfold putRow
    split
    · rename_i hlt
      refine List.pairwise_cons.2 ⟨fun y hy => ?_, putRow_sorted h2⟩
      rcases mem_putRow hy with rfl | hy
      · exact hlt
      · exact h1 y hy
    · rename_i hlt
      split
      · rename_i he
        exact List.pairwise_cons.2 ⟨fun y hy => by rw [← he]; exact h1 y hy, h2⟩
      · rename_i hne
        have hgt : ltK r.key x.key = true := by
          cases hg : ltK r.key x.key with
          | true => rfl
          | false => exact absurd (ltK_total (by simpa using hlt) hg) hne
        refine List.pairwise_cons.2 ⟨fun y hy => ?_, h⟩
        rcases List.mem_cons.1 hy with rfl | hy
        · exact hgt
        · exact ltK_trans hgt (h1 y hy)
theorem rowAt_putRow : ∀ {l : List MRow} {r : MRow} (k : ByteArray), (l.Pairwise fun a b => ltK a.key b.key = true) → rowAt (putRow l r) k = if r.key = k then some r else rowAt l k
  | [], r, k, _ => by by_cases h : r.key = k <;> simp [putRow, rowAt, h]
  | x :: l, r, k, h => by
    obtain ⟨h1, h2⟩ := List.pairwise_cons.1 h
    have hx : ∀ m : List MRow, rowAt (x :: m) k = if x.key = k then some x else rowAt m k := fun m => by
      by_cases e : x.key = k <;> simp [rowAt, e]
    have hr : ∀ m : List MRow, rowAt (r :: m) k = if r.key = k then some r else rowAt m k := fun m => by
      by_cases e : r.key = k <;> simp [rowAt, e]
    unfold putRow
    split
    · rename_i hlt
      rw [hx, hx, rowAt_putRow k h2]
      by_cases e : x.key = k
      · rw [if_pos e, if_pos e, if_neg]
        rintro e'
        exact ltK_ne hlt (e.trans e'.symm)
      · rw [if_neg e, if_neg e]
    · split
      · rename_i he
        rw [hr, hx]
        by_cases e : r.key = k
        · rw [if_pos e, if_pos e]
        · rw [if_neg e, if_neg e, if_neg (by rw [he]; exact e)]
      · rw [hr]
theorem length_putRow_some : ∀ {l : List MRow} {r : MRow}, (l.Pairwise fun a b => ltK a.key b.key = true) → (∃ y ∈ l, y.key = r.key) → (putRow l r).length = l.length
  | [], r, _, h => by obtain ⟨y, hy, _⟩ := h; cases hy
  | x :: l, r, h, hex => by
    obtain ⟨h1, h2⟩ := List.pairwise_cons.1 h
    unfold putRow
    split
    · rename_i hlt
      have hex' : ∃ y ∈ l, y.key = r.key := by
        obtain ⟨y, hy, he⟩ := hex
        rcases List.mem_cons.1 hy with rfl | hy
        · exact absurd he (ltK_ne hlt)
        · exact ⟨y, hy, he⟩
      simp [length_putRow_some h2 hex']
    · rename_i hlt
      split
      · rfl
      · rename_i hne
        obtain ⟨y, hy, he⟩ := hex
        rcases List.mem_cons.1 hy with rfl | hy
        · exact absurd he hne
        · have := h1 y hy
          rw [he] at this
          exact absurd this hlt
theorem length_putRow_le : ∀ {l : List MRow} {r : MRow}, (putRow l r).length ≤ l.length + 1
  | [], r => by simp [putRow]
  | x :: l, r => by
    unfold putRow
    split
    · have := length_putRow_le (l := l) (r := r); simp; omega
    · split <;> simp

theorem putRow_good {clock : Int} {l : List MRow} {r : MRow} (h : RowsVal clock l) (hr : RowGood r ∧ RowIn clock r) (hlen : (∃ y ∈ l, y.key = r.key) ∨ l.length ≠ 40) : RowsVal clock (putRow l r) := by
  refine ⟨fun y hy => ?_, putRow_sorted h.sorted, ?_⟩
  · rcases mem_putRow hy with rfl | hy
    · exact hr
    · exact h.each y hy
  · have h1 := h.len
    have h2 := length_putRow_le (l := l) (r := r)
    rcases hlen with hex | hne
    · rw [length_putRow_some h.sorted hex]; exact h1
    · omega

theorem emptyRow_in {clock : Int} {k : ByteArray} (h : 0 ≤ clock) : RowIn clock (emptyRow k) := ⟨h, fun x hx => by cases hx⟩
/-- What is done at a row keeps the rows valid. -/
theorem atRow_good {clock : Int} {l : List MRow} {k : ByteArray} {f : MRow → MRow} {e : MRow → Int} (hc : 0 ≤ clock) (h : RowsVal clock l)
    (hf : ∀ r, e r = 0 → RowIn clock r → (RowGood (f r) ∧ RowIn clock (f r)) ∧ (f r).key = r.key) : RowsVal clock (atRow l k f e).1 := by
  unfold atRow
  cases hr : rowAt l k with
  | some r =>
    obtain ⟨hm, hk⟩ := rowAt_mem hr
    dsimp only
    split
    · rename_i he
      obtain ⟨h1, h2⟩ := hf r he (h.each r hm).2
      exact putRow_good h h1 (.inl ⟨r, hm, h2.symm⟩)
    · exact h
  | none =>
    dsimp only
    split
    · exact h
    · rename_i hne
      split
      · rename_i he
        obtain ⟨h1, h2⟩ := hf (emptyRow k) he (emptyRow_in hc)
        exact putRow_good h h1 (.inr hne)
      · exact h
theorem insRecs_in {clock : Int} {l : List MRec} {x : MRec} (h : ∀ y ∈ l, y.start ≤ clock ∧ y.commit ≤ clock) (h1 : x.start ≤ clock) (h2 : x.commit ≤ clock) : ∀ y ∈ insRecs l x, y.start ≤ clock ∧ y.commit ≤ clock := by
  intro y hy
  rcases mem_insRecs.1 hy with rfl | hy
  · exact ⟨h1, h2⟩
  · exact h y hy
theorem withF_in {clock : Int} {r : MRow} {x : MRec} (hc : 0 ≤ clock) (h : RowIn clock r) (h1 : x.start ≤ clock) (h2 : x.commit ≤ clock) : RowIn clock (withF r x) := by
  have hi := insRecs_in h.2 h1 h2
  unfold withF
  split
  · exact ⟨hc, hi⟩
  · exact ⟨h.1, hi⟩
theorem lock_keeps {clock st : Int} {p v : ByteArray} (hs : st ≤ clock) (r : MRow) (he : lockCode r st p v = 0) (hr : RowIn clock r) : (RowGood (lockRow r st p v) ∧ RowIn clock (lockRow r st p v)) ∧ (lockRow r st p v).key = r.key := by
  obtain ⟨h1, h2⟩ := lockRow_good he
  rw [h2] at h1 ⊢
  exact ⟨⟨h1, hs, hr.2⟩, rfl⟩
theorem commit_keeps {clock st cm : Int} (hc : 0 ≤ clock) (hs : st ≤ clock) (hm : cm ≤ clock) (r : MRow) (he : commitCode r st cm = 0) (hr : RowIn clock r) : (RowGood (commitRow r st cm) ∧ RowIn clock (commitRow r st cm)) ∧ (commitRow r st cm).key = r.key := by
  obtain ⟨h1, h2⟩ := commitRow_good he
  refine ⟨⟨h1, ?_⟩, ?_⟩
  · rw [h2]; exact withF_in hc hr hs hm
  · rw [h2]; exact withF_key _ _
theorem undoRow_key {r : MRow} {st : Int} (he : undoCode r st = 0) : (undoRow r st).key = r.key := by
  obtain ⟨_, _, h⟩ := undoCode_ok he
  rcases h with ⟨_, e⟩ | ⟨e, _, _⟩
  · rw [e]
  · rw [e]; exact withF_key _ _
theorem undo_keeps {clock st : Int} (hc : 0 ≤ clock) (hs : st ≤ clock) (r : MRow) (he : undoCode r st = 0) (hr : RowIn clock r) : (RowGood (undoRow r st) ∧ RowIn clock (undoRow r st)) ∧ (undoRow r st).key = r.key := by
  refine ⟨⟨undoRow_good he, ?_⟩, undoRow_key he⟩
  obtain ⟨_, _, h⟩ := undoCode_ok he
  rcases h with ⟨_, e⟩ | ⟨e, _, _⟩
  · rw [e]; exact hr
  · rw [e]; exact withF_in hc hr hs hc
theorem undoAt_good {clock st : Int} {l : List MRow} {k : ByteArray} (hc : 0 ≤ clock) (hs : st ≤ clock) (h : RowsVal clock l) : RowsVal clock (undoAt l k st).1 := atRow_good hc h (undo_keeps hc hs)
theorem failStep_good {clock st : Int} {l : List MRow} {x : MWrite} (hc : 0 ≤ clock) (hs : st ≤ clock) (h : RowsVal clock l) : RowsVal clock (failStep st l x) := by
  unfold failStep
  split
  · exact undoAt_good hc hs h
  · exact h
theorem failRows_good {clock st : Int} (hc : 0 ≤ clock) (hs : st ≤ clock) : ∀ {ws : List MWrite} {l : List MRow}, RowsVal clock l → RowsVal clock (failRows l ws st)
  | [], _, h => h
  | x :: ws, l, h => by
    show RowsVal clock (failRows (failStep st l x) ws st)
    exact failRows_good hc hs (failStep_good hc hs h)

/-! ### clients -/
theorem clientB_zero (clock : Int) : clientB zeroClient clock = true := by
  simp [clientB, zeroClient, writesB]
theorem clientB_mono {x : MClient} {c c' : Int} (h : clientB x c = true) (hc : c ≤ c') : clientB x c' = true := by
  unfold clientB at *
  rw [Bool.and_eq_true, Bool.and_eq_true] at *
  refine ⟨h.1, h.2.1, ?_⟩
  have h2 := h.2.2
  by_cases p0 : x.phase = 0
  · rw [if_pos p0] at h2 ⊢; exact h2
  rw [if_neg p0] at h2 ⊢
  by_cases p1 : x.phase = 1
  · rw [if_pos p1] at h2 ⊢; simp only [decide_eq_true_eq] at *; omega
  rw [if_neg p1] at h2 ⊢
  by_cases p2 : x.phase = 2
  · rw [if_pos p2] at h2 ⊢; simp only [decide_eq_true_eq] at *; omega
  rw [if_neg p2] at h2 ⊢
  by_cases p3 : x.phase = 3
  · rw [if_pos p3] at h2 ⊢; simp only [decide_eq_true_eq] at *; omega
  rw [if_neg p3] at h2 ⊢
  by_cases p4 : x.phase = 4
  · rw [if_pos p4] at h2 ⊢; simp only [decide_eq_true_eq] at *; omega
  rw [if_neg p4] at h2; cases h2
/-- A client that is not idle. -/
structure Busy (x : MClient) (clock : Int) : Prop where
  few : x.writes.length ≤ 6
  writes : writesB x.writes = true
  start : 1 ≤ x.start ∧ x.start ≤ clock
  phase : (x.phase = 1 ∧ x.commit = 0 ∧ x.at_ = 0) ∨ (x.phase = 2 ∧ x.commit = 0 ∧ 0 ≤ x.at_ ∧ x.at_ ≤ x.writes.length ∧ 0 < x.writes.length) ∨
    (x.phase = 3 ∧ (x.start < x.commit ∧ x.commit ≤ clock) ∧ x.at_ = 0 ∧ 0 < x.writes.length) ∨ (x.phase = 4 ∧ (x.start < x.commit ∧ x.commit ≤ clock) ∧ 1 ≤ x.at_ ∧ x.at_ < x.writes.length)
theorem busy_of {x : MClient} {clock : Int} (h : clientB x clock = true) (hp : x.phase ≠ 0) : Busy x clock := by
  unfold clientB at h
  rw [Bool.and_eq_true, Bool.and_eq_true, if_neg hp] at h
  obtain ⟨h1, h2, h3⟩ := h
  simp only [decide_eq_true_eq] at h1
  by_cases p1 : x.phase = 1
  · rw [if_pos p1] at h3; simp only [decide_eq_true_eq] at h3; exact ⟨h1, h2, h3.1, .inl ⟨p1, h3.2⟩⟩
  rw [if_neg p1] at h3
  by_cases p2 : x.phase = 2
  · rw [if_pos p2] at h3; simp only [decide_eq_true_eq] at h3; exact ⟨h1, h2, h3.1, .inr (.inl ⟨p2, h3.2⟩)⟩
  rw [if_neg p2] at h3
  by_cases p3 : x.phase = 3
  · rw [if_pos p3] at h3; simp only [decide_eq_true_eq] at h3; exact ⟨h1, h2, h3.1, .inr (.inr (.inl ⟨p3, h3.2⟩))⟩
  rw [if_neg p3] at h3
  by_cases p4 : x.phase = 4
  · rw [if_pos p4] at h3; simp only [decide_eq_true_eq] at h3; exact ⟨h1, h2, h3.1, .inr (.inr (.inr ⟨p4, h3.2⟩))⟩
  rw [if_neg p4] at h3; cases h3
theorem Busy.mk' {x : MClient} {clock : Int} (h : Busy x clock) : clientB x clock = true := by
  obtain ⟨h1, h2, h3, h4⟩ := h
  unfold clientB
  rw [Bool.and_eq_true, Bool.and_eq_true]
  refine ⟨by simpa using h1, h2, ?_⟩
  rcases h4 with h | h | h | h
  · rw [if_neg (by omega), if_pos h.1]; simp only [decide_eq_true_eq]; omega
  · rw [if_neg (by omega), if_neg (by omega), if_pos h.1]; simp only [decide_eq_true_eq]; omega
  · rw [if_neg (by omega), if_neg (by omega), if_neg (by omega), if_pos h.1]; simp only [decide_eq_true_eq]; omega
  · rw [if_neg (by omega), if_neg (by omega), if_neg (by omega), if_neg (by omega), if_pos h.1]; simp only [decide_eq_true_eq]; omega
theorem idle_of {x : MClient} {clock : Int} (h : clientB x clock = true) (hp : x.phase = 0) : x = zeroClient := by
  unfold clientB at h
  rw [Bool.and_eq_true, Bool.and_eq_true, if_pos hp] at h
  have h3 := h.2.2
  simp only [decide_eq_true_eq] at h3
  obtain ⟨a, b, c, d⟩ := h3
  obtain ⟨ph, s, cm, ws, at_⟩ := x
  dsimp only at *
  subst hp a b d
  rw [List.eq_nil_of_length_eq_zero c]; rfl

def WritesGood (l : List MWrite) : Prop := (∀ x ∈ l, keyB x.key = true ∧ x.value.size ≤ 20) ∧ l.Pairwise fun a b => ltK a.key b.key = true
theorem writesB_iff : ∀ {l : List MWrite}, writesB l = true ↔ WritesGood l
  | [] => by simp [writesB, WritesGood]
  | [x] => by simp [writesB, WritesGood]
  | x :: y :: l => by
    rw [writesB, Bool.and_eq_true, Bool.and_eq_true, Bool.and_eq_true, writesB_iff]
    unfold WritesGood
    rw [List.pairwise_cons (a := x)]
    simp only [decide_eq_true_eq]
    constructor
    · rintro ⟨h1, h2, h3, h4, h5⟩
      refine ⟨fun z hz => ?_, fun z hz => ?_, h5⟩
      · rcases List.mem_cons.1 hz with rfl | hz
        · exact ⟨h1, h2⟩
        · exact h4 z hz
      · rcases List.mem_cons.1 hz with rfl | hz
        · exact h3
        · exact ltK_trans h3 ((List.pairwise_cons.1 h5).1 z hz)
    · rintro ⟨h1, h2, h3⟩
      exact ⟨(h1 x List.mem_cons_self).1, (h1 x List.mem_cons_self).2, h2 y List.mem_cons_self, fun z hz => h1 z (List.mem_cons_of_mem _ hz), h3⟩
theorem mem_putWrite : ∀ {l : List MWrite} {r y : MWrite}, y ∈ putWrite l r → y = r ∨ y ∈ l
  | [], r, y, h => by simp [putWrite] at h; exact .inl h
  | x :: l, r, y, h => by
    unfold putWrite at h
    split at h
    · rcases List.mem_cons.1 h with rfl | h
      · exact .inr List.mem_cons_self
      · rcases mem_putWrite h with h | h
        · exact .inl h
        · exact .inr (List.mem_cons_of_mem _ h)
    · split at h
      · rcases List.mem_cons.1 h with rfl | h
        · exact .inl rfl
        · exact .inr (List.mem_cons_of_mem _ h)
      · rcases List.mem_cons.1 h with rfl | h
        · exact .inl rfl
        · exact .inr h
theorem putWrite_sorted : ∀ {l : List MWrite} {r : MWrite}, (l.Pairwise fun a b => ltK a.key b.key = true) → (putWrite l r).Pairwise fun a b => ltK a.key b.key = true
  | [], r, _ => by simp [putWrite]
  | x :: l, r, h => by
    obtain ⟨h1, h2⟩ := List.pairwise_cons.1 h
    unfold putWrite
    split
    · rename_i hlt
      refine List.pairwise_cons.2 ⟨fun y hy => ?_, putWrite_sorted h2⟩
      rcases mem_putWrite hy with rfl | hy
      · exact hlt
      · exact h1 y hy
    · rename_i hlt
      split
      · rename_i he
        exact List.pairwise_cons.2 ⟨fun y hy => by rw [← he]; exact h1 y hy, h2⟩
      · rename_i hne
        have hgt : ltK r.key x.key = true := by
          cases hg : ltK r.key x.key with
          | true => rfl
          | false => exact absurd (ltK_total (by simpa using hlt) hg) hne
        refine List.pairwise_cons.2 ⟨fun y hy => ?_, h⟩
        rcases List.mem_cons.1 hy with rfl | hy
        · exact hgt
        · exact ltK_trans hgt (h1 y hy)
theorem length_putWrite_some : ∀ {l : List MWrite} {r : MWrite}, (l.Pairwise fun a b => ltK a.key b.key = true) → (∃ y ∈ l, y.key = r.key) → (putWrite l r).length = l.length
  | [], r, _, h => by obtain ⟨y, hy, _⟩ := h; cases hy
  | x :: l, r, h, hex => by
    obtain ⟨h1, h2⟩ := List.pairwise_cons.1 h
    unfold putWrite
    split
    · rename_i hlt
      have hex' : ∃ y ∈ l, y.key = r.key := by
        obtain ⟨y, hy, he⟩ := hex
        rcases List.mem_cons.1 hy with rfl | hy
        · exact absurd he (ltK_ne hlt)
        · exact ⟨y, hy, he⟩
      simp [length_putWrite_some h2 hex']
    · rename_i hlt
      split
      · rfl
      · rename_i hne
        obtain ⟨y, hy, he⟩ := hex
        rcases List.mem_cons.1 hy with rfl | hy
        · exact absurd he hne
        · have := h1 y hy
          rw [he] at this
          exact absurd this hlt
theorem length_putWrite_le : ∀ {l : List MWrite} {r : MWrite}, (putWrite l r).length ≤ l.length + 1
  | [], r => by simp [putWrite]
  | x :: l, r => by
    unfold putWrite
    split
    · have := length_putWrite_le (l := l) (r := r); simp; omega
    · split <;> simp
theorem writeOf_mem {l : List MWrite} {k : ByteArray} {x : MWrite} (h : writeOf l k = some x) : x ∈ l ∧ x.key = k :=
  ⟨List.mem_of_find?_eq_some h, by simpa using List.find?_some h⟩
theorem writeOf_none {l : List MWrite} {k : ByteArray} (h : writeOf l k = none) : ∀ x ∈ l, x.key ≠ k := by
  intro x hx e
  exact List.find?_eq_none.1 h x hx (by simpa using e)
theorem putWrite_good {l : List MWrite} {k v : ByteArray} (h : WritesGood l) (hk : keyB k = true) (hv : v.size ≤ 20) : WritesGood (putWrite l ⟨k, v⟩) := by
  refine ⟨fun y hy => ?_, putWrite_sorted h.2⟩
  rcases mem_putWrite hy with rfl | hy
  · exact ⟨hk, hv⟩
  · exact h.1 y hy

/-! ### acts -/
theorem mem_set_clients {l : List MClient} {c : Nat} {x y : MClient} (h : y ∈ l.set c x) : y = x ∨ y ∈ l := by
  rcases List.mem_or_eq_of_mem_set h with h | h
  · exact .inr h
  · exact .inl h
/-- A world with other rows and one client turned, at a clock that is as late or later. -/
theorem world_turn {w : MWorld} {c : Nat} {x : MClient} {l : List MRow} (h : WorldGood w) (hl : RowsVal w.clock l) (hx : clientB x w.clock = true) : WorldGood { w with rows := l, clients := w.clients.set c x } :=
  ⟨hl, by simpa using h.few, h.clock, fun y hy => by
    rcases mem_set_clients hy with rfl | hy
    · exact hx
    · exact h.clients y hy⟩
theorem rowsVal_mono {l : List MRow} {c c' : Int} (h : RowsVal c l) (hc : c ≤ c') : RowsVal c' l :=
  ⟨fun r hr => ⟨(h.each r hr).1, by have := (h.each r hr).2.1; omega, fun x hx => by have := (h.each r hr).2.2 x hx; omega⟩, h.sorted, h.len⟩
theorem world_tick {w : MWorld} {c : Nat} {x : MClient} (h : WorldGood w) (hc : w.clock ≠ 1099511627376) (hx : clientB x (w.clock + 1) = true) : WorldGood { w with clock := w.clock + 1, clients := w.clients.set c x } :=
  ⟨rowsVal_mono h.rows (by show w.clock ≤ w.clock + 1; omega), by simpa using h.few, by have := h.clock; exact ⟨by show 0 ≤ w.clock + 1; omega, by show w.clock + 1 ≤ 1099511627376; omega⟩, fun y hy => by
    rcases mem_set_clients hy with rfl | hy
    · exact hx
    · exact clientB_mono (h.clients y hy) (by show w.clock ≤ w.clock + 1; omega)⟩
theorem failM_good {w : MWorld} {c : Nat} {x : MClient} (h : WorldGood w) (hb : x.start ≤ w.clock) : WorldGood (failM w c x) :=
  world_turn h (failRows_good h.clock.1 hb h.rows) (clientB_zero _)
theorem lockAt_good {w : MWorld} {x : MClient} (h : WorldGood w) (hb : x.start ≤ w.clock) : RowsVal w.clock (lockAt w.rows x).1 := atRow_good h.clock.1 h.rows (lock_keeps hb)
theorem lockM_good {w : MWorld} {c : Nat} {x : MClient} (h : WorldGood w) (hb : Busy x w.clock) (hp : x.phase = 2) (hat : x.at_ < x.writes.length) : WorldGood (lockM w c x).1 := by
  have hst := hb.start
  have hph : x.phase = 2 ∧ x.commit = 0 ∧ 0 ≤ x.at_ ∧ x.at_ ≤ x.writes.length ∧ 0 < x.writes.length := by
    rcases hb.phase with h | h | h | h
    · omega
    · exact h
    · omega
    · omega
  unfold lockM
  split
  · exact world_turn h (lockAt_good h hst.2) (Busy.mk' ⟨hb.few, hb.writes, hst, .inr (.inl ⟨hp, hph.2.1, by show 0 ≤ x.at_ + 1; omega, by show x.at_ + 1 ≤ x.writes.length; omega, hph.2.2.2.2⟩)⟩)
  · split
    · exact world_turn h h.rows (Busy.mk' hb)
    · exact failM_good h hst.2
theorem closeAt_good {w : MWorld} {x : MClient} (h : WorldGood w) (hb : x.start ≤ w.clock) (hc : x.commit ≤ w.clock) : RowsVal w.clock (closeAt w.rows x).1 := atRow_good h.clock.1 h.rows (commit_keeps h.clock.1 hb hc)
theorem closeM_good {w : MWorld} {c : Nat} {x : MClient} (h : WorldGood w) (hb : Busy x w.clock) (hp : x.phase = 3 ∨ x.phase = 4) : WorldGood (closeM w c x).1 := by
  have hst := hb.start
  have hph : (x.start < x.commit ∧ x.commit ≤ w.clock) ∧ 0 ≤ x.at_ ∧ x.at_ < x.writes.length := by
    rcases hb.phase with h | h | h | h
    · omega
    · omega
    · exact ⟨h.2.1, by omega, by omega⟩
    · exact ⟨h.2.1, by omega, by omega⟩
  unfold closeM
  split
  · exact failM_good h hst.2
  · refine world_turn h (closeAt_good h hst.2 hph.1.2) ?_
    split
    · exact clientB_zero _
    · rename_i hne
      exact Busy.mk' ⟨hb.few, hb.writes, hst, .inr (.inr (.inr ⟨rfl, hph.1, by show 1 ≤ x.at_ + 1; omega, by show x.at_ + 1 < x.writes.length; omega⟩))⟩
theorem stepM_good {w : MWorld} {c : Nat} {x : MClient} (h : WorldGood w) (hx : clientB x w.clock = true) (hc : w.clock ≠ 1099511627376) : WorldGood (stepM w c x).1 := by
  unfold stepM
  split
  · exact h
  rename_i hp0
  have hb := busy_of hx hp0
  have hst := hb.start
  have hph := hb.phase
  split
  · exact world_turn h h.rows (clientB_zero _)
  rename_i h1
  split
  · rename_i hp1
    refine lockM_good h ⟨hb.few, hb.writes, hst, .inr (.inl ⟨rfl, ?_, ?_, ?_, ?_⟩)⟩ rfl ?_
    · show x.commit = 0; omega
    · show 0 ≤ x.at_; omega
    · show x.at_ ≤ x.writes.length; omega
    · show 0 < x.writes.length; omega
    · show x.at_ < x.writes.length; omega
  rename_i hp1
  split
  · rename_i hp2
    exact lockM_good h hb hp2.1 hp2.2
  rename_i hp2
  split
  · rename_i hp2'
    refine world_tick h hc (Busy.mk' ⟨hb.few, hb.writes, ⟨hst.1, ?_⟩, .inr (.inr (.inl ⟨rfl, ⟨?_, ?_⟩, rfl, ?_⟩))⟩)
    · show x.start ≤ w.clock + 1; omega
    · show x.start < w.clock + 1; omega
    · show w.clock + 1 ≤ w.clock + 1; omega
    · show 0 < x.writes.length; omega
  · exact closeM_good h hb (by omega)
theorem status_bound {clock st : Int} {l : List MRow} {k : ByteArray} (h : RowsVal clock l) (h2 : (statusAt l k st).1 = 2) : st < (statusAt l k st).2 ∧ (statusAt l k st).2 ≤ clock ∧ (statusAt l k st).2 ≤ 1099511627776 := by
  unfold statusAt at *
  cases hr : rowAt l k with
  | none => rw [hr] at h2; simp at h2
  | some r =>
    rw [hr] at h2
    dsimp only at h2 ⊢
    obtain ⟨hm, _⟩ := rowAt_mem hr
    obtain ⟨_, x, hf, h0, he⟩ := status_two h2
    obtain ⟨hx, hs⟩ := recFind_mem hf
    have := (h.each r hm).2.2 x hx
    have := ((h.each r hm).1.recs.each x hx).2.2.2.2 h0
    omega
theorem resolveR_good {clock : Int} {l : List MRow} {k : ByteArray} (hc : 0 ≤ clock) (h : RowsVal clock l) : RowsVal clock (resolveR l k).1 := by
  unfold resolveR
  split
  · exact h
  cases hr : rowAt l k with
  | none => exact h
  | some r =>
    obtain ⟨hm, _⟩ := rowAt_mem hr
    have hls := (h.each r hm).2.1
    dsimp only
    split
    · exact h
    split
    · rename_i h2
      exact atRow_good hc h (commit_keeps hc hls (status_bound h h2).2.1)
    split
    · exact h
    · exact undoAt_good hc hls (undoAt_good hc hls h)
theorem putM_good {w : MWorld} {c : Nat} {x : MClient} {k v : ByteArray} (h : WorldGood w) (hb : Busy x w.clock) (hp : x.phase = 1) : WorldGood (putM w c x k v).1 := by
  unfold putM
  split
  · exact h
  rename_i hk
  split
  · exact h
  rename_i hv
  split
  · exact h
  rename_i hn
  have hph := hb.phase
  refine world_turn h h.rows (Busy.mk' ⟨?_, writesB_iff.2 (putWrite_good (writesB_iff.1 hb.writes) (by simpa using hk) (by omega)), hb.start, .inl ⟨hp, ?_, ?_⟩⟩)
  · show (putWrite x.writes ⟨k, v⟩).length ≤ 6
    have h6 := hb.few
    have hle := length_putWrite_le (l := x.writes) (r := ⟨k, v⟩)
    cases hw : writeOf x.writes k with
    | none => rw [hw] at hn; simp at hn; omega
    | some y =>
      obtain ⟨hy, he⟩ := writeOf_mem hw
      rw [length_putWrite_some (writesB_iff.1 hb.writes).2 ⟨y, hy, he⟩]; exact h6
  · show x.commit = 0; omega
  · show x.at_ = 0; omega
theorem actM_good {w : MWorld} {a : MAct} {c : Nat} {x : MClient} (h : WorldGood w) (hx : clientB x w.clock = true) (hc : w.clock ≠ 1099511627376) : WorldGood (actM w a c x).1 := by
  unfold actM
  split
  · exact h
  rename_i hno
  split
  · refine world_tick h hc (Busy.mk' ⟨?_, rfl, ⟨?_, ?_⟩, .inl ⟨rfl, rfl, rfl⟩⟩)
    · show (0 : Nat) ≤ 6; omega
    · show 1 ≤ w.clock + 1; have := h.clock; omega
    · show w.clock + 1 ≤ w.clock + 1; omega
  split
  · exact h
  split
  · rename_i hk3
    have hp : x.phase = 1 := by omega
    exact putM_good h (busy_of hx (by omega)) hp
  split
  · exact stepM_good h hx hc
  split
  · exact world_turn h h.rows (clientB_zero _)
  · have := resolveR_good (k := a.key) h.clock.1 h.rows
    exact ⟨this, h.few, h.clock, h.clients⟩
theorem clientAt_mem {w : MWorld} {c : Nat} (h : c < w.clients.length) : clientAt w c ∈ w.clients := by
  unfold clientAt
  rw [List.getElem?_eq_getElem h]
  exact List.getElem_mem h
theorem doCode_ok {w : MWorld} {a : MAct} (h : doCode w a = 0) : WorldGood w ∧ (1 ≤ a.kind ∧ a.kind ≤ 6) ∧ (0 ≤ a.c ∧ a.c < w.clients.length) ∧ w.clock ≠ 1099511627376 := by
  unfold doCode at h
  split at h
  · omega
  rename_i h1
  split at h
  · omega
  split at h
  · omega
  split at h
  · omega
  exact ⟨worldB_iff.1 (by simpa using h1), by omega, by omega, by omega⟩
theorem doM_good {w : MWorld} {a : MAct} (h : doCode w a = 0) : WorldGood (doM w a).1 := by
  obtain ⟨hw, _, hcl, hc⟩ := doCode_ok h
  unfold doM
  rw [if_pos h]
  exact actM_good hw (hw.clients _ (clientAt_mem (by omega))) hc
theorem startW_good {n : Nat} (h : n ≤ 5) : WorldGood (startW n) :=
  ⟨⟨fun r hr => (by cases hr), List.Pairwise.nil, Nat.zero_le _⟩, by simpa [startW] using h, ⟨by show (0 : Int) ≤ 0; omega, by show (0 : Int) ≤ 1099511627376; omega⟩, fun c hc => by
    have := List.eq_of_mem_replicate hc
    rw [this]; exact clientB_zero _⟩
end Go.Proofs.Ytniomgngiiiklab

/- Where a key would be among sorted rows or writes; no program in sight. -/
namespace Go.Proofs.Ytniomgngiiiklab
open Go.RowKit

def bsI {α : Type} (f : α → ByteArray) (l : List α) (k : ByteArray) : Nat := l.findIdx fun x => !ltK (f x) k
def bsB {α : Type} (f : α → ByteArray) (l : List α) (k : ByteArray) : Bool := match l[bsI f l k]? with | some x => decide (f x = k) | none => false
def SortedBy {α : Type} (f : α → ByteArray) (l : List α) : Prop := l.Pairwise fun a b => ltK (f a) (f b) = true
section
variable {α : Type} {f : α → ByteArray} {l : List α} {k : ByteArray}
theorem bsI_le : bsI f l k ≤ l.length := List.findIdx_le_length
theorem bsI_of {i : Nat} (hi : i ≤ l.length) (h1 : ∀ (j : Nat) x, l[j]? = some x → j < i → ltK (f x) k = true) (h2 : ∀ (j : Nat) x, l[j]? = some x → i ≤ j → ltK (f x) k = false) : bsI f l k = i := by
  unfold bsI
  by_cases h : i < l.length
  · rw [List.findIdx_eq h]
    refine ⟨by rw [h2 i _ (List.getElem?_eq_getElem h) (Nat.le_refl _)]; rfl, fun j hj => by rw [h1 j _ (List.getElem?_eq_getElem (by omega)) hj]; rfl⟩
  · obtain rfl : i = l.length := by omega
    exact List.findIdx_eq_length.2 fun x hx => by
      obtain ⟨j, hj, rfl⟩ := List.mem_iff_getElem.1 hx
      rw [h1 j _ (List.getElem?_eq_getElem hj) hj]; rfl
theorem low_more (hs : SortedBy f l) {h : Nat} {x : α} (hx : l[h]? = some x) (hlt : ltK (f x) k = true) : ∀ (j : Nat) y, l[j]? = some y → j < h + 1 → ltK (f y) k = true := by
  intro j y hy hj
  by_cases e : j = h
  · subst e; rw [hx] at hy; injection hy with hy; rwa [← hy]
  · obtain ⟨h1, rfl⟩ := List.getElem?_eq_some_iff.1 hx
    obtain ⟨h2, rfl⟩ := List.getElem?_eq_some_iff.1 hy
    exact ltK_trans (List.pairwise_iff_getElem.1 hs j h h2 h1 (by omega)) hlt
theorem high_more (hs : SortedBy f l) {h : Nat} {x : α} (hx : l[h]? = some x) (hlt : ltK (f x) k = false) : ∀ (j : Nat) y, l[j]? = some y → h ≤ j → ltK (f y) k = false := by
  intro j y hy hj
  by_cases e : j = h
  · subst e; rw [hx] at hy; injection hy with hy; rwa [← hy]
  · obtain ⟨h1, rfl⟩ := List.getElem?_eq_some_iff.1 hx
    obtain ⟨h2, rfl⟩ := List.getElem?_eq_some_iff.1 hy
    cases hc : ltK (f l[j]) k with
    | false => rfl
    | true =>
      have := ltK_trans (List.pairwise_iff_getElem.1 hs h j h1 h2 (by omega)) hc
      rw [hlt] at this; cases this
theorem bsI_before (_hs : SortedBy f l) : ∀ x ∈ l.take (bsI f l k), ltK (f x) k = true := by
  intro x hx
  obtain ⟨j, hj, rfl⟩ := List.mem_iff_getElem.1 hx
  have hj' : j < bsI f l k := by rw [List.length_take] at hj; omega
  rw [List.getElem_take]
  have := List.not_of_lt_findIdx hj'
  simpa using this
theorem bsI_at {x : α} (hx : l[bsI f l k]? = some x) : ltK (f x) k = false := by
  obtain ⟨h1, rfl⟩ := List.getElem?_eq_some_iff.1 hx
  have : (fun x => !ltK (f x) k) (l[bsI f l k]'h1) = true := List.findIdx_getElem (w := h1)
  simpa using this
theorem bsI_drop (hs : SortedBy f l) : ∀ x ∈ l.drop (bsI f l k + 1), ltK k (f x) = true ∨ bsI f l k ≥ l.length := by
  intro x hx
  obtain ⟨j, hj, rfl⟩ := List.mem_iff_getElem.1 hx
  rw [List.length_drop] at hj
  rw [List.getElem_drop]
  left
  have hi : bsI f l k < l.length := by omega
  have h1 := bsI_at (f := f) (l := l) (k := k) (List.getElem?_eq_getElem hi)
  have h2 := List.pairwise_iff_getElem.1 hs (bsI f l k) (bsI f l k + 1 + j) hi (by omega) (by omega)
  cases hc : ltK k (f l[bsI f l k + 1 + j]) with
  | true => rfl
  | false =>
    have h3 := high_more (k := k) hs (List.getElem?_eq_getElem hi) h1 (bsI f l k + 1 + j) _ (List.getElem?_eq_getElem (by omega)) (by omega)
    have e := ltK_total h3 hc
    rw [e] at h2; rw [h1] at h2; cases h2
end

/-! ### rows -/
theorem splitAt_eq {α : Type} {l : List α} {i : Nat} {x : α} (h : l[i]? = some x) : l = l.take i ++ x :: l.drop (i + 1) := by
  obtain ⟨h1, rfl⟩ := List.getElem?_eq_some_iff.1 h
  rw [List.getElem_cons_drop, List.take_append_drop]
theorem putRow_pass : ∀ {a b : List MRow} {r : MRow}, (∀ x ∈ a, ltK x.key r.key = true) → putRow (a ++ b) r = a ++ putRow b r
  | [], _, _, _ => rfl
  | x :: a, b, r, h => by
    show (if ltK x.key r.key then x :: putRow (a ++ b) r else _) = _
    rw [if_pos (h x List.mem_cons_self), putRow_pass fun y hy => h y (List.mem_cons_of_mem _ hy)]
    rfl
theorem find_pass {α : Type} {p : α → Bool} : ∀ {a b : List α}, (∀ x ∈ a, p x = false) → (a ++ b).find? p = b.find? p
  | [], _, _ => rfl
  | x :: a, b, h => by
    rw [List.cons_append, List.find?_cons_of_neg (by rw [h x List.mem_cons_self]; decide)]
    exact find_pass fun y hy => h y (List.mem_cons_of_mem _ hy)
theorem search_there {l : List MRow} {k : ByteArray} (hs : SortedBy MRow.key l) {r : MRow} (hr : l[bsI MRow.key l k]? = some r) (hk : r.key = k) :
    rowAt l k = some r ∧ ∀ q : MRow, q.key = k → putRow l q = l.set (bsI MRow.key l k) q := by
  have hb := bsI_before (k := k) hs
  have hsp := splitAt_eq hr
  refine ⟨?_, fun q hq => ?_⟩
  · unfold rowAt
    conv => lhs; rw [hsp]
    rw [find_pass fun x hx => decide_eq_false (ltK_ne (hb x hx)), List.find?_cons_of_pos (by simpa using hk)]
  · conv => lhs; rw [hsp]
    rw [putRow_pass fun x hx => by rw [hq]; exact hb x hx]
    have e : putRow (r :: l.drop (bsI MRow.key l k + 1)) q = q :: l.drop (bsI MRow.key l k + 1) := by
      show (if ltK r.key q.key then _ else if r.key = q.key then _ else _) = _
      rw [hq, hk, ltK_irrefl]
      simp
    rw [e]
    obtain ⟨h1, _⟩ := List.getElem?_eq_some_iff.1 hr
    rw [List.set_eq_take_append_cons_drop, if_pos h1]
theorem search_not {l : List MRow} {k : ByteArray} (hs : SortedBy MRow.key l) (hb : bsB MRow.key l k = false) :
    rowAt l k = none ∧ ∀ q : MRow, q.key = k → putRow l q = l.take (bsI MRow.key l k) ++ q :: l.drop (bsI MRow.key l k) := by
  have hbf := bsI_before (k := k) hs
  have hhead : ∀ r, l[bsI MRow.key l k]? = some r → r.key ≠ k ∧ ltK r.key k = false := fun r hr => by
    unfold bsB at hb
    rw [hr] at hb
    exact ⟨by simpa using hb, bsI_at hr⟩
  cases hr : l[bsI MRow.key l k]? with
  | none =>
    have hle := List.getElem?_eq_none_iff.1 hr
    have ht : l.take (bsI MRow.key l k) = l := List.take_of_length_le hle
    rw [ht] at hbf
    have hd : l.drop (bsI MRow.key l k) = [] := List.drop_eq_nil_of_le hle
    refine ⟨?_, fun q hq => ?_⟩
    · unfold rowAt
      rw [List.find?_eq_none]
      intro x hx
      simpa using ltK_ne (hbf x hx)
    · rw [ht, hd]
      have := putRow_pass (a := l) (b := []) (r := q) fun x hx => by rw [hq]; exact hbf x hx
      rwa [List.append_nil] at this
  | some r =>
    obtain ⟨h1, h2⟩ := hhead r hr
    have hsp := splitAt_eq hr
    have hdrop : l.drop (bsI MRow.key l k) = r :: l.drop (bsI MRow.key l k + 1) := by
      obtain ⟨h3, rfl⟩ := List.getElem?_eq_some_iff.1 hr
      exact (List.getElem_cons_drop ..).symm
    refine ⟨?_, fun q hq => ?_⟩
    · unfold rowAt
      rw [List.find?_eq_none]
      intro x hx
      rw [hsp] at hx
      rcases List.mem_append.1 hx with hx | hx
      · simpa using ltK_ne (hbf x hx)
      · rcases List.mem_cons.1 hx with rfl | hx
        · simpa using h1
        · rcases bsI_drop (k := k) hs x hx with h | h
          · simpa using fun e => ltK_ne h e.symm
          · have := (List.getElem?_eq_some_iff.1 hr).1; omega
    · conv => lhs; rw [hsp]
      rw [putRow_pass fun x hx => by rw [hq]; exact hbf x hx, hdrop]
      congr 1
      show (if ltK r.key q.key then _ else if r.key = q.key then _ else _) = _
      rw [hq, h2, if_neg (by decide), if_neg h1]

/-! ### writes -/
theorem putWrite_pass : ∀ {a b : List MWrite} {r : MWrite}, (∀ x ∈ a, ltK x.key r.key = true) → putWrite (a ++ b) r = a ++ putWrite b r
  | [], _, _, _ => rfl
  | x :: a, b, r, h => by
    show (if ltK x.key r.key then x :: putWrite (a ++ b) r else _) = _
    rw [if_pos (h x List.mem_cons_self), putWrite_pass fun y hy => h y (List.mem_cons_of_mem _ hy)]
    rfl
theorem wsearch_there {l : List MWrite} {k : ByteArray} (hs : SortedBy MWrite.key l) {r : MWrite} (hr : l[bsI MWrite.key l k]? = some r) (hk : r.key = k) :
    writeOf l k = some r ∧ ∀ q : MWrite, q.key = k → putWrite l q = l.set (bsI MWrite.key l k) q := by
  have hb := bsI_before (k := k) hs
  have hsp := splitAt_eq hr
  refine ⟨?_, fun q hq => ?_⟩
  · unfold writeOf
    conv => lhs; rw [hsp]
    rw [find_pass fun x hx => decide_eq_false (ltK_ne (hb x hx)), List.find?_cons_of_pos (by simpa using hk)]
  · conv => lhs; rw [hsp]
    rw [putWrite_pass fun x hx => by rw [hq]; exact hb x hx]
    have e : putWrite (r :: l.drop (bsI MWrite.key l k + 1)) q = q :: l.drop (bsI MWrite.key l k + 1) := by
      show (if ltK r.key q.key then _ else if r.key = q.key then _ else _) = _
      rw [hq, hk, ltK_irrefl]
      simp
    rw [e]
    obtain ⟨h1, _⟩ := List.getElem?_eq_some_iff.1 hr
    rw [List.set_eq_take_append_cons_drop, if_pos h1]
theorem wsearch_not {l : List MWrite} {k : ByteArray} (hs : SortedBy MWrite.key l) (hb : bsB MWrite.key l k = false) :
    writeOf l k = none ∧ ∀ q : MWrite, q.key = k → putWrite l q = l.take (bsI MWrite.key l k) ++ q :: l.drop (bsI MWrite.key l k) := by
  have hbf := bsI_before (k := k) hs
  have hhead : ∀ r, l[bsI MWrite.key l k]? = some r → r.key ≠ k ∧ ltK r.key k = false := fun r hr => by
    unfold bsB at hb
    rw [hr] at hb
    exact ⟨by simpa using hb, bsI_at hr⟩
  cases hr : l[bsI MWrite.key l k]? with
  | none =>
    have hle := List.getElem?_eq_none_iff.1 hr
    have ht : l.take (bsI MWrite.key l k) = l := List.take_of_length_le hle
    rw [ht] at hbf
    have hd : l.drop (bsI MWrite.key l k) = [] := List.drop_eq_nil_of_le hle
    refine ⟨?_, fun q hq => ?_⟩
    · unfold writeOf
      rw [List.find?_eq_none]
      intro x hx
      simpa using ltK_ne (hbf x hx)
    · rw [ht, hd]
      have := putWrite_pass (a := l) (b := []) (r := q) fun x hx => by rw [hq]; exact hbf x hx
      rwa [List.append_nil] at this
  | some r =>
    obtain ⟨h1, h2⟩ := hhead r hr
    have hsp := splitAt_eq hr
    have hdrop : l.drop (bsI MWrite.key l k) = r :: l.drop (bsI MWrite.key l k + 1) := by
      obtain ⟨h3, rfl⟩ := List.getElem?_eq_some_iff.1 hr
      exact (List.getElem_cons_drop ..).symm
    refine ⟨?_, fun q hq => ?_⟩
    · unfold writeOf
      rw [List.find?_eq_none]
      intro x hx
      rw [hsp] at hx
      rcases List.mem_append.1 hx with hx | hx
      · simpa using ltK_ne (hbf x hx)
      · rcases List.mem_cons.1 hx with rfl | hx
        · simpa using h1
        · rcases bsI_drop (k := k) hs x hx with h | h
          · simpa using fun e => ltK_ne h e.symm
          · have := (List.getElem?_eq_some_iff.1 hr).1; omega
    · conv => lhs; rw [hsp]
      rw [putWrite_pass fun x hx => by rw [hq]; exact hbf x hx, hdrop]
      congr 1
      show (if ltK r.key q.key then _ else if r.key = q.key then _ else _) = _
      rw [hq, h2, if_neg (by decide), if_neg h1]
end Go.Proofs.Ytniomgngiiiklab

/- A world's rows seen as locks and records, and what the operations do to them; no program in sight. -/
namespace Go.Proofs.Ytniomgngiiiklab
open Go.RowKit

/-- The row of a key; the empty one, if there is none. -/
def rv (l : List MRow) (k : ByteArray) : MRow := (rowAt l k).getD (emptyRow k)
def Lk (l : List MRow) (k : ByteArray) (s : Int) (p v : ByteArray) : Prop := s ≠ 0 ∧ (rv l k).ls = s ∧ (rv l k).lp = p ∧ (rv l k).value = v
def Rc (l : List MRow) (k : ByteArray) (s c : Int) (v : ByteArray) : Prop := (⟨s, c, v⟩ : MRec) ∈ (rv l k).recs

theorem rv_key {l : List MRow} {k : ByteArray} : (rv l k).key = k := by
  unfold rv
  cases h : rowAt l k with
  | none => rfl
  | some r => exact (rowAt_mem h).2
theorem rv_putRow {l : List MRow} {r : MRow} (hs : l.Pairwise fun a b => ltK a.key b.key = true) (k : ByteArray) : rv (putRow l r) k = if r.key = k then r else rv l k := by
  unfold rv
  rw [rowAt_putRow k hs]
  by_cases h : r.key = k
  · rw [if_pos h, if_pos h]; rfl
  · rw [if_neg h, if_neg h]
/-- What holds of a valid row but for its key. -/
structure BodyGood (clock : Int) (r : MRow) : Prop where
  recs : RecsGood r.recs
  free : r.ls = 0 → r.value = ⟨#[]⟩
  lock : r.ls ≠ 0 → 1 ≤ r.ls ∧ r.ls ≤ 1099511627776 ∧ ∀ x ∈ r.recs, x.start ≠ r.ls ∧ x.commit ≤ r.ls
  in_ : RowIn clock r
theorem rv_good {clock : Int} {l : List MRow} (hc : 0 ≤ clock) (h : RowsVal clock l) (k : ByteArray) : BodyGood clock (rv l k) := by
  unfold rv
  cases hr : rowAt l k with
  | none => exact ⟨⟨fun x hx => (by cases hx), List.Pairwise.nil⟩, fun _ => rfl, fun h0 => absurd rfl h0, emptyRow_in hc⟩
  | some r =>
    obtain ⟨hm, _⟩ := rowAt_mem hr
    obtain ⟨hg, hi⟩ := h.each r hm
    exact ⟨hg.recs, fun h0 => (hg.free h0).2, fun h0 => ⟨(hg.lock h0).1, (hg.lock h0).2.1, (hg.lock h0).2.2.2.1⟩, hi⟩

section
variable {clock : Int} {l : List MRow} {k p v p' v' : ByteArray} {s s' c c' : Int}
theorem lk_uniq (h1 : Lk l k s p v) (h2 : Lk l k s' p' v') : s = s' ∧ p = p' ∧ v = v' := by
  obtain ⟨_, a, b, d⟩ := h1
  obtain ⟨_, a', b', d'⟩ := h2
  exact ⟨a.symm.trans a', b.symm.trans b', d.symm.trans d'⟩
theorem rc_uniq (hc : 0 ≤ clock) (h : RowsVal clock l) (h1 : Rc l k s c v) (h2 : Rc l k s c' v') : c = c' ∧ v = v' := by
  have hg := rv_good hc h k
  have e1 := recFind_of_mem hg.recs.pair h1
  have e2 := recFind_of_mem hg.recs.pair h2
  dsimp only at e1 e2
  rw [e1] at e2
  injection e2 with e2
  injection e2 with _ e3 e4
  exact ⟨e3, e4⟩
theorem lk_rc (hc : 0 ≤ clock) (h : RowsVal clock l) (h1 : Lk l k s p v) (h2 : Rc l k s c v') : False := by
  have hg := rv_good hc h k
  obtain ⟨h0, a, _, _⟩ := h1
  exact ((hg.lock (by rw [a]; exact h0)).2.2 _ h2).1 a.symm
theorem lk_bound (hc : 0 ≤ clock) (h : RowsVal clock l) (h1 : Lk l k s p v) : 1 ≤ s ∧ s ≤ clock ∧ s ≤ 1099511627776 := by
  have hg := rv_good hc h k
  obtain ⟨h0, a, _, _⟩ := h1
  have := hg.lock (by rw [a]; exact h0)
  have := hg.in_.1
  rw [a] at *
  omega
theorem rc_bound (hc : 0 ≤ clock) (h : RowsVal clock l) (h1 : Rc l k s c v) : (1 ≤ s ∧ s ≤ clock ∧ c ≤ clock) ∧ (c = 0 → v = ⟨#[]⟩) ∧ (c ≠ 0 → s < c ∧ c ≤ 1099511627776) := by
  have hg := rv_good hc h k
  have h2 := hg.recs.each _ h1
  have h3 := hg.in_.2 _ h1
  exact ⟨⟨h2.1, h3⟩, h2.2.2.2⟩
theorem rc_sep (hc : 0 ≤ clock) (h : RowsVal clock l) (h1 : Rc l k s c v) (h2 : Rc l k s' c' v') (h0 : c' ≠ 0) (hlt : s < s') : c ≤ s' := by
  have hg := rv_good hc h k
  obtain ⟨i, hi, e1⟩ := List.mem_iff_getElem.1 h1
  obtain ⟨j, hj, e2⟩ := List.mem_iff_getElem.1 h2
  rcases Nat.lt_trichotomy i j with hlt' | rfl | hlt'
  · have := List.pairwise_iff_getElem.1 hg.recs.pair i j hi hj hlt'
    rw [e1, e2] at this
    exact this.2 h0
  · rw [e1] at e2; injection e2 with e2; omega
  · have := List.pairwise_iff_getElem.1 hg.recs.pair j i hj hi hlt'
    rw [e1, e2] at this
    have := this.1
    dsimp only at this; omega
theorem lk_rc_sep (hc : 0 ≤ clock) (h : RowsVal clock l) (h1 : Lk l k s p v) (h2 : Rc l k s' c' v') : c' ≤ s := by
  have hg := rv_good hc h k
  obtain ⟨h0, a, _, _⟩ := h1
  have := ((hg.lock (by rw [a]; exact h0)).2.2 _ h2).2
  dsimp only at this; omega
end

/-! ### what an operation at a row does -/
theorem atRow_hit {l : List MRow} {k : ByteArray} {f : MRow → MRow} {e : MRow → Int} (h : (atRow l k f e).2 = 0) : e (rv l k) = 0 ∧ (atRow l k f e).1 = putRow l (f (rv l k)) := by
  unfold atRow rv at *
  cases hr : rowAt l k with
  | some r =>
    rw [hr] at h
    dsimp only at h ⊢
    by_cases h0 : e r = 0
    · simp only [h0, if_true, Option.getD_some]; exact ⟨trivial, trivial⟩
    · rw [if_neg h0] at h; exact absurd h h0
  | none =>
    rw [hr] at h
    dsimp only at h ⊢
    by_cases h4 : l.length = 40
    · rw [if_pos h4] at h; simp at h
    · rw [if_neg h4] at h ⊢
      by_cases h0 : e (emptyRow k) = 0
      · simp only [h0, if_true, Option.getD_none]; exact ⟨trivial, trivial⟩
      · rw [if_neg h0] at h; exact absurd h h0
theorem atRow_miss {l : List MRow} {k : ByteArray} {f : MRow → MRow} {e : MRow → Int} (h : (atRow l k f e).2 ≠ 0) : (atRow l k f e).1 = l := by
  unfold atRow at *
  cases hr : rowAt l k with
  | some r =>
    rw [hr] at h
    dsimp only at h ⊢
    by_cases h0 : e r = 0
    · rw [if_pos h0] at h; exact absurd rfl h
    · rw [if_neg h0]
  | none =>
    rw [hr] at h
    dsimp only at h ⊢
    by_cases h4 : l.length = 40
    · rw [if_pos h4]
    · rw [if_neg h4] at h ⊢
      by_cases h0 : e (emptyRow k) = 0
      · rw [if_pos h0] at h; exact absurd rfl h
      · rw [if_neg h0]
/-- At a row that is there only its own code counts. -/
theorem atRow_there {l : List MRow} {k : ByteArray} {f : MRow → MRow} {e : MRow → Int} {r : MRow} (hr : rowAt l k = some r) (h : e r = 0) : (atRow l k f e).2 = 0 := by
  unfold atRow
  rw [hr]
  dsimp only
  rw [if_pos h]

section
variable {clock : Int} {l : List MRow} {k p v : ByteArray} {st cm : Int}

theorem lock_step (hc : 0 ≤ clock) (h : RowsVal clock l) (h0 : (atRow l k (fun r => lockRow r st p v) (fun r => lockCode r st p v)).2 = 0) :
    (∀ s' p' v', ¬ Lk l k s' p' v') ∧ (∀ c v', ¬ Rc l k st c v') ∧ (∀ s c v', Rc l k s c v' → c ≤ st) ∧
    (∀ k' s' p' v', Lk (atRow l k (fun r => lockRow r st p v) (fun r => lockCode r st p v)).1 k' s' p' v' ↔ (k' = k ∧ s' = st ∧ p' = p ∧ v' = v) ∨ Lk l k' s' p' v') ∧
    (∀ k' s' c v', Rc (atRow l k (fun r => lockRow r st p v) (fun r => lockCode r st p v)).1 k' s' c v' ↔ Rc l k' s' c v') := by
  obtain ⟨he, hl⟩ := atRow_hit h0
  obtain ⟨hr, ht, hp, hv, hcm, hls, hn, hf⟩ := lockCode_ok he
  have hb := timeB_bounds ht
  have hg := rv_good hc h k
  have e2 := (lockRow_good he).2
  have ekey : (lockRow (rv l k) st p v).key = k := by rw [e2]; exact rv_key
  have erv : ∀ k', rv (putRow l (lockRow (rv l k) st p v)) k' = if k = k' then lockRow (rv l k) st p v else rv l k' := fun k' => by rw [rv_putRow h.sorted, ekey]
  rw [hl]
  refine ⟨?_, ?_, ?_, ?_, ?_⟩
  · rintro s' p' v' ⟨h1, h2, _, _⟩; exact h1 (h2.symm.trans hls)
  · intro c v' hrc; exact recFind_none hf _ hrc rfl
  · intro s c v' hrc; exact hcm _ hrc
  · intro k' s' p' v'
    unfold Lk
    rw [erv]
    by_cases hk : k = k'
    · subst hk
      rw [if_pos rfl, e2]
      dsimp only
      constructor
      · rintro ⟨_, a, b, c⟩; exact .inl ⟨rfl, a.symm, b.symm, c.symm⟩
      · rintro (⟨_, rfl, rfl, rfl⟩ | ⟨h1, h2, _, _⟩)
        · exact ⟨by omega, rfl, rfl, rfl⟩
        · exact absurd (h2.symm.trans hls) h1
    · rw [if_neg hk]
      constructor
      · exact .inr
      · rintro (⟨h1, _⟩ | h1)
        · exact absurd h1.symm hk
        · exact h1
  · intro k' s' c v'
    unfold Rc
    rw [erv]
    by_cases hk : k = k'
    · subst hk; rw [if_pos rfl, e2]
    · rw [if_neg hk]

theorem with_view {x : MRec} (h : RowsVal clock l) (k' : ByteArray) :
    (∀ s' p' v', (rv l k).ls = 0 ∨ x.start ≠ 0 → (Lk (putRow l (withF (rv l k) x)) k' s' p' v' ↔ Lk l k' s' p' v' ∧ ¬ (k' = k ∧ s' = x.start))) ∧
    (∀ s' c v', Rc (putRow l (withF (rv l k) x)) k' s' c v' ↔ Rc l k' s' c v' ∨ (k' = k ∧ s' = x.start ∧ c = x.commit ∧ v' = x.value)) := by
  have ekey : (withF (rv l k) x).key = k := (withF_key _ _).trans rv_key
  have erv : rv (putRow l (withF (rv l k) x)) k' = if k = k' then withF (rv l k) x else rv l k' := by rw [rv_putRow h.sorted, ekey]
  refine ⟨fun s' p' v' hx => ?_, fun s' c v' => ?_⟩
  · unfold Lk
    rw [erv]
    by_cases hk : k = k'
    · subst hk
      rw [if_pos rfl]
      unfold withF
      by_cases hs : (rv l k).ls = x.start
      · rw [if_pos hs]
        dsimp only
        constructor
        · rintro ⟨a, b, _, _⟩; exact absurd b.symm a
        · rintro ⟨⟨a, b, _, _⟩, d⟩; exact absurd ⟨rfl, b.symm.trans hs⟩ d
      · rw [if_neg hs]
        dsimp only
        constructor
        · rintro ⟨a, b, c, d⟩; exact ⟨⟨a, b, c, d⟩, fun e => hs (b.trans e.2)⟩
        · exact fun e => e.1
    · rw [if_neg hk]
      constructor
      · exact fun e => ⟨e, fun e' => hk e'.1.symm⟩
      · exact fun e => e.1
  · unfold Rc
    rw [erv]
    by_cases hk : k = k'
    · subst hk
      rw [if_pos rfl, withF_recs, mem_insRecs]
      constructor
      · rintro (e | e)
        · subst e; exact .inr ⟨rfl, rfl, rfl, rfl⟩
        · exact .inl e
      · rintro (e | ⟨_, rfl, rfl, rfl⟩)
        · exact .inr e
        · exact .inl rfl
    · rw [if_neg hk]
      constructor
      · exact .inl
      · rintro (e | e)
        · exact e
        · exact absurd e.1.symm hk

theorem undo_step (hc : 0 ≤ clock) (h : RowsVal clock l) (h0 : (undoAt l k st).2 = 0) :
    (∀ c v', Rc l k st c v' → c = 0) ∧
    (∀ k' s' p' v', Lk (undoAt l k st).1 k' s' p' v' ↔ Lk l k' s' p' v' ∧ ¬ (k' = k ∧ s' = st)) ∧
    (∀ k' s' c v', Rc (undoAt l k st).1 k' s' c v' ↔ Rc l k' s' c v' ∨ (k' = k ∧ s' = st ∧ c = 0 ∧ v' = ⟨#[]⟩)) := by
  unfold undoAt at h0 ⊢
  obtain ⟨he, hl⟩ := atRow_hit h0
  obtain ⟨hr, ht, hcs⟩ := undoCode_ok he
  have hb := timeB_bounds ht
  rw [hl]
  rcases hcs with ⟨h3, e⟩ | ⟨e, hf, _⟩
  · rw [e]
    obtain ⟨hls, x, hx, hx0⟩ := status_three h3
    obtain ⟨hxm, hxs⟩ := recFind_mem hx
    have hxe : x = ⟨st, 0, ⟨#[]⟩⟩ := by
      have := ((rv_good hc h k).recs.each x hxm).2.2.2.1 hx0
      obtain ⟨a, b, c⟩ := x
      dsimp only at *
      subst hxs hx0 this; rfl
    have hrc : Rc l k st 0 ⟨#[]⟩ := by rw [hxe] at hxm; exact hxm
    have erv : ∀ k', rv (putRow l (rv l k)) k' = rv l k' := fun k' => by
      rw [rv_putRow h.sorted, rv_key]
      by_cases hk : k = k'
      · subst hk; rw [if_pos rfl]
      · rw [if_neg hk]
    refine ⟨fun c v' hc' => (rc_uniq hc h hc' hrc).1, fun k' s' p' v' => ?_, fun k' s' c v' => ?_⟩
    · unfold Lk
      rw [erv]
      constructor
      · intro e'
        refine ⟨e', ?_⟩
        rintro ⟨rfl, rfl⟩
        exact hls e'.2.1
      · exact fun e => e.1
    · unfold Rc
      rw [erv]
      constructor
      · exact .inl
      · rintro (e | ⟨rfl, rfl, rfl, rfl⟩)
        · exact e
        · exact hrc
  · rw [e]
    refine ⟨fun c v' hc' => absurd rfl (recFind_none hf _ hc'), fun k' s' p' v' => (with_view h k').1 s' p' v' (.inr (by show st ≠ 0; omega)), fun k' s' c v' => (with_view h k').2 s' c v'⟩
theorem commit_step (h : RowsVal clock l) (h0 : (atRow l k (fun r => commitRow r st cm) (fun r => commitCode r st cm)).2 = 0) :
    st < cm ∧ ∃ p v, Lk l k st p v ∧
    (∀ k' s' p' v', Lk (atRow l k (fun r => commitRow r st cm) (fun r => commitCode r st cm)).1 k' s' p' v' ↔ Lk l k' s' p' v' ∧ ¬ (k' = k ∧ s' = st)) ∧
    (∀ k' s' c v', Rc (atRow l k (fun r => commitRow r st cm) (fun r => commitCode r st cm)).1 k' s' c v' ↔ Rc l k' s' c v' ∨ (k' = k ∧ s' = st ∧ c = cm ∧ v' = v)) := by
  obtain ⟨he, hl⟩ := atRow_hit h0
  obtain ⟨hr, ht, h1, h2, hls⟩ := commitCode_ok he
  have hb := timeB_bounds ht
  rw [hl, (commitRow_good he).2]
  exact ⟨h1, (rv l k).lp, (rv l k).value, ⟨by omega, hls, rfl, rfl⟩, fun k' s' p' v' => (with_view h k').1 s' p' v' (.inr (by show st ≠ 0; omega)), fun k' s' c v' => (with_view h k').2 s' c v'⟩

/-! ### when they succeed -/
theorem rowAt_of_lk {s : Int} (h : Lk l k s p v) : rowAt l k = some (rv l k) := by
  unfold rv
  cases hr : rowAt l k with
  | some r => rfl
  | none =>
    obtain ⟨h0, h1, _⟩ := h
    unfold rv at h1
    rw [hr] at h1
    exact absurd h1.symm h0
theorem rowAt_of_rc {s c : Int} (h : Rc l k s c v) : rowAt l k = some (rv l k) := by
  unfold rv
  cases hr : rowAt l k with
  | some r => rfl
  | none =>
    unfold Rc rv at h
    rw [hr] at h
    cases h
theorem rv_rowB (h : RowsVal clock l) (hr : rowAt l k = some (rv l k)) : rowB (rv l k) = true := rowB_iff.2 (h.each _ (rowAt_mem hr).1).1
theorem timeB_of {s : Int} (h1 : 1 ≤ s) (h2 : s ≤ 1099511627776) : timeB s = true := by simp [timeB, inB, h1, h2]
theorem undo_lk (hc : 0 ≤ clock) (h : RowsVal clock l) (h1 : Lk l k st p v) : (undoAt l k st).2 = 0 := by
  have hr := rowAt_of_lk h1
  obtain ⟨a, b, d⟩ := lk_bound hc h h1
  refine atRow_there hr ?_
  unfold undoCode
  rw [statusF_of (rv_rowB h hr) (timeB_of a d), if_pos h1.2.1]
  simp
theorem undo_rc (hc : 0 ≤ clock) (h : RowsVal clock l) (h1 : Rc l k st 0 v) (hm : st ≤ 1099511627776) : (undoAt l k st).2 = 0 := by
  have hr := rowAt_of_rc h1
  have hb := rc_bound hc h h1
  have hg := rv_good hc h k
  have hls : ¬ (rv l k).ls = st := fun e => ((hg.lock (by omega)).2.2 _ h1).1 e.symm
  refine atRow_there hr ?_
  unfold undoCode
  rw [statusF_of (rv_rowB h hr) (timeB_of hb.1.1 hm), if_neg hls, show recFind (rv l k).recs st = some ⟨st, 0, v⟩ from recFind_of_mem hg.recs.pair h1]
  simp
theorem commit_lk (hc : 0 ≤ clock) (h : RowsVal clock l) (h1 : Lk l k st p v) (h2 : st < cm) (h3 : cm ≤ 1099511627776) : (atRow l k (fun r => commitRow r st cm) (fun r => commitCode r st cm)).2 = 0 := by
  have hr := rowAt_of_lk h1
  obtain ⟨a, b, d⟩ := lk_bound hc h h1
  exact atRow_there hr (commitCode_mk (rv_rowB h hr) (timeB_of a d) h2 h3 h1.2.1)
theorem statusAt_rv (h : RowsVal clock l) (hs : timeB st = true) : (statusAt l k st).1 = (if (rv l k).ls = st then 1 else match recFind (rv l k).recs st with | none => 0 | some x => if x.commit = 0 then 3 else 2) ∧
    (statusAt l k st).2 = (if (rv l k).ls = st then 0 else match recFind (rv l k).recs st with | none => 0 | some x => if x.commit = 0 then 0 else x.commit) := by
  have hb := timeB_bounds hs
  unfold statusAt
  cases hr : rowAt l k with
  | none =>
    have e : rv l k = emptyRow k := by unfold rv; rw [hr]; rfl
    have hne : ¬ (emptyRow k).ls = st := by show ¬ (0 : Int) = st; omega
    rw [e, if_neg hne, if_neg hne]
    exact ⟨rfl, rfl⟩
  | some r =>
    have e : rv l k = r := by unfold rv; rw [hr]; rfl
    dsimp only
    rw [e, statusF_of (rowB_iff.2 (h.each r (rowAt_mem hr).1).1) hs]
    by_cases hls : r.ls = st
    · simp [hls]
    · simp only [if_neg hls]
      cases recFind r.recs st with
      | none => exact ⟨rfl, rfl⟩
      | some x => by_cases h0 : x.commit = 0 <;> simp [h0]
theorem statusAt_one (h : RowsVal clock l) (hs : timeB st = true) : (statusAt l k st).1 = 1 ↔ ∃ p v, Lk l k st p v := by
  have hb := timeB_bounds hs
  rw [(statusAt_rv h hs).1]
  constructor
  · intro e
    by_cases hls : (rv l k).ls = st
    · exact ⟨_, _, by omega, hls, rfl, rfl⟩
    · rw [if_neg hls] at e
      cases hf : recFind (rv l k).recs st with
      | none => rw [hf] at e; simp at e
      | some x => rw [hf] at e; by_cases h0 : x.commit = 0 <;> simp [h0] at e
  · rintro ⟨p, v, _, e, _⟩
    rw [if_pos e]
theorem statusAt_two (h : RowsVal clock l) (hs : timeB st = true) (h2 : (statusAt l k st).1 = 2) : (statusAt l k st).2 ≠ 0 ∧ ∃ v, Rc l k st (statusAt l k st).2 v := by
  rw [(statusAt_rv h hs).1] at h2
  rw [(statusAt_rv h hs).2]
  by_cases hls : (rv l k).ls = st
  · rw [if_pos hls] at h2; simp at h2
  · rw [if_neg hls] at h2 ⊢
    cases hf : recFind (rv l k).recs st with
    | none => rw [hf] at h2; simp at h2
    | some x =>
      rw [hf] at h2
      dsimp only at h2 ⊢
      by_cases h0 : x.commit = 0
      · simp [h0] at h2
      · rw [if_neg h0]
        obtain ⟨hx, he⟩ := recFind_mem hf
        refine ⟨h0, x.value, ?_⟩
        show (⟨st, x.commit, x.value⟩ : MRec) ∈ _
        rw [← he]; exact hx
theorem statusAt_not_two (hc : 0 ≤ clock) (h : RowsVal clock l) (hs : timeB st = true) (h2 : (statusAt l k st).1 ≠ 2) {c : Int} (hr : Rc l k st c v) : c = 0 := by
  have hg := rv_good hc h k
  have hls : ¬ (rv l k).ls = st := fun e => by
    have hb := timeB_bounds hs
    exact ((hg.lock (by omega)).2.2 _ hr).1 e.symm
  rw [(statusAt_rv h hs).1, if_neg hls, show recFind (rv l k).recs st = some ⟨st, c, v⟩ from recFind_of_mem hg.recs.pair hr] at h2
  dsimp only at h2
  by_cases h0 : c = 0
  · exact h0
  · rw [if_neg h0] at h2; exact absurd rfl h2
end
end Go.Proofs.Ytniomgngiiiklab

/- The protocol's invariant: what the locks and records of a transaction have to do with each other, with its client, and with what was committed; no program in sight. -/
namespace Go.Proofs.Ytniomgngiiiklab
open Go.RowKit

structure Deal where
  start : Int
  commit : Int
  writes : List MWrite

def NoneOf (l : List MRow) (s : Int) : Prop := (∀ k p v, ¬ Lk l k s p v) ∧ ∀ k c v, ¬ Rc l k s c v

/-- What a client that is not idle can lean on. -/
structure CInv (l : List MRow) (P : Int → ByteArray) (x : MClient) : Prop where
  none : x.phase = 1 ∨ (x.phase = 2 ∧ x.at_ = 0) → NoneOf l x.start
  mild : x.phase = 2 ∨ x.phase = 3 → ∀ k c v, Rc l k x.start c v → c = 0
  held : ∀ (j : Nat) y, x.writes[j]? = some y → x.phase = 3 ∨ (x.phase = 2 ∧ j < x.at_) → Lk l y.key x.start (P x.start) y.value ∨ ∃ v, Rc l y.key x.start 0 v
  prim : x.phase = 3 ∨ x.phase = 4 ∨ (x.phase = 2 ∧ 0 < x.at_) → P x.start = (writeNo x 0).key
  done : x.phase = 4 → ∃ v, Rc l (P x.start) x.start x.commit v
  own : ∀ k p v, Lk l k x.start p v → (⟨k, v⟩ : MWrite) ∈ x.writes

structure Inv (l : List MRow) (P : Int → ByteArray) (D : List Deal) : Prop where
  lock : ∀ k s p v, Lk l k s p v → p = P s ∧ ((∃ p' v', Lk l (P s) s p' v') ∨ ∃ c v', Rc l (P s) s c v')
  recs : ∀ k s c v, Rc l k s c v → ∃ v', Rc l (P s) s c v'
  deal : ∀ d ∈ D, d.commit ≠ 0 ∧ (∃ v, Rc l (P d.start) d.start d.commit v) ∧ (∀ y ∈ d.writes, (∃ p, Lk l y.key d.start p y.value) ∨ Rc l y.key d.start d.commit y.value) ∧ (∀ k p v, Lk l k d.start p v → (⟨k, v⟩ : MWrite) ∈ d.writes)
  told : ∀ k s c v, Rc l k s c v → c ≠ 0 → ∃ d ∈ D, d.start = s ∧ d.commit = c ∧ (⟨k, v⟩ : MWrite) ∈ d.writes
  apart : D.Pairwise fun a b => a.start ≠ b.start

section
variable {clock : Int} {l l' : List MRow} {P : Int → ByteArray} {D : List Deal} {k : ByteArray} {s cm : Int} {x : MClient}

/-- Another transaction's client does not see it. -/
theorem CInv.far (h : CInv l P x) (hl : ∀ k p v, Lk l' k x.start p v ↔ Lk l k x.start p v) (hr : ∀ k c v, Rc l' k x.start c v ↔ Rc l k x.start c v) : CInv l' P x := by
  refine ⟨fun hp => ⟨fun k p v => ?_, fun k c v => ?_⟩, fun hp k c v => ?_, fun j y hj hp => ?_, h.prim, fun hp => ?_, fun k p v => ?_⟩
  · rw [hl]; exact (h.none hp).1 k p v
  · rw [hr]; exact (h.none hp).2 k c v
  · rw [hr]; exact h.mild hp k c v
  · rw [hl]
    rcases h.held j y hj hp with h1 | ⟨v, h1⟩
    · exact .inl h1
    · exact .inr ⟨v, (hr _ _ _).2 h1⟩
  · obtain ⟨v, h1⟩ := h.done hp
    exact ⟨v, (hr _ _ _).2 h1⟩
  · rw [hl]; exact h.own k p v

/-! ### undoing -/
theorem inv_undo (hc : 0 ≤ clock) (hv : RowsVal clock l) (h : Inv l P D) (h0 : (undoAt l k s).2 = 0) (u1 : ∀ k' c v, Rc l k' s c v → c = 0) (u2 : k = P s ∨ ∃ v, Rc l (P s) s 0 v) : Inv (undoAt l k s).1 P D := by
  obtain ⟨_, hl, hr⟩ := undo_step hc hv h0
  refine ⟨fun k' s' p v h1 => ?_, fun k' s' c v h1 => ?_, fun d hd => ?_, fun k' s' c v h1 hne => ?_, h.apart⟩
  · obtain ⟨h1, h2⟩ := (hl _ _ _ _).1 h1
    obtain ⟨e, h3⟩ := h.lock _ _ _ _ h1
    refine ⟨e, ?_⟩
    by_cases hk : P s' = k ∧ s' = s
    · exact .inr ⟨0, ⟨#[]⟩, (hr _ _ _ _).2 (.inr ⟨hk.1, hk.2, rfl, rfl⟩)⟩
    · rcases h3 with ⟨p', v', h3⟩ | ⟨c, v', h3⟩
      · exact .inl ⟨p', v', (hl _ _ _ _).2 ⟨h3, hk⟩⟩
      · exact .inr ⟨c, v', (hr _ _ _ _).2 (.inl h3)⟩
  · rcases (hr _ _ _ _).1 h1 with h1 | ⟨rfl, rfl, rfl, rfl⟩
    · obtain ⟨v', h2⟩ := h.recs _ _ _ _ h1
      exact ⟨v', (hr _ _ _ _).2 (.inl h2)⟩
    · rcases u2 with e | ⟨v', h2⟩
      · exact ⟨⟨#[]⟩, (hr _ _ _ _).2 (.inr ⟨e.symm, rfl, rfl, rfl⟩)⟩
      · exact ⟨v', (hr _ _ _ _).2 (.inl h2)⟩
  · obtain ⟨a, ⟨v, b⟩, c, e⟩ := h.deal d hd
    have hne : d.start ≠ s := by
      intro he
      rw [he] at b
      exact a (u1 _ _ _ b)
    refine ⟨a, ⟨v, (hr _ _ _ _).2 (.inl b)⟩, fun y hy => ?_, fun k' p v h1 => e k' p v ((hl _ _ _ _).1 h1).1⟩
    rcases c y hy with ⟨p, h1⟩ | h1
    · exact .inl ⟨p, (hl _ _ _ _).2 ⟨h1, fun h2 => hne h2.2⟩⟩
    · exact .inr ((hr _ _ _ _).2 (.inl h1))
  · rcases (hr _ _ _ _).1 h1 with h1 | ⟨_, _, h2, _⟩
    · exact h.told _ _ _ _ h1 hne
    · exact absurd h2 hne

theorem cinv_undo (hc : 0 ≤ clock) (hv : RowsVal clock l) (hx : CInv l P x) (h0 : (undoAt l k s).2 = 0) (hcm : x.phase = 4 → x.commit ≠ 0)
    (u0 : (∃ k' p v, Lk l k' s p v) ∨ ∃ k' c v, Rc l k' s c v) (u1 : ∀ k' c v, Rc l k' s c v → c = 0) : CInv (undoAt l k s).1 P x := by
  obtain ⟨_, hl, hr⟩ := undo_step hc hv h0
  by_cases hs : x.start = s
  · have hno : ¬ (x.phase = 1 ∨ (x.phase = 2 ∧ x.at_ = 0)) := fun hp => by
      have hn := hx.none hp
      rw [hs] at hn
      rcases u0 with ⟨k', p, v, h⟩ | ⟨k', c, v, h⟩
      · exact hn.1 _ _ _ h
      · exact hn.2 _ _ _ h
    refine ⟨fun hp => absurd hp hno, fun hp k' c v h1 => ?_, fun j y hj hp => ?_, hx.prim, fun hp => ?_, fun k' p v h1 => hx.own k' p v ((hl _ _ _ _).1 h1).1⟩
    · rcases (hr _ _ _ _).1 h1 with h1 | ⟨_, _, h2, _⟩
      · exact hx.mild hp _ _ _ h1
      · exact h2
    · rcases hx.held j y hj hp with h1 | ⟨v, h1⟩
      · by_cases hk : y.key = k
        · exact .inr ⟨⟨#[]⟩, (hr _ _ _ _).2 (.inr ⟨hk, hs, rfl, rfl⟩)⟩
        · exact .inl ((hl _ _ _ _).2 ⟨h1, fun e => hk e.1⟩)
      · exact .inr ⟨v, (hr _ _ _ _).2 (.inl h1)⟩
    · obtain ⟨v, h1⟩ := hx.done hp
      rw [hs] at h1
      exact absurd (u1 _ _ _ h1) (hcm hp)
  · refine hx.far (fun k' p v => ?_) (fun k' c v => ?_)
    · rw [hl]
      exact ⟨fun e => e.1, fun e => ⟨e, fun e' => hs e'.2⟩⟩
    · rw [hr]
      exact ⟨fun e => e.elim id fun e' => absurd e'.2.1 hs, .inl⟩

/-! ### committing where the primary says so -/
theorem inv_commit (hc : 0 ≤ clock) (hv : RowsVal clock l) (h : Inv l P D) (h0 : (atRow l k (fun r => commitRow r s cm) (fun r => commitCode r s cm)).2 = 0) (hp : ∃ v, Rc l (P s) s cm v) :
    Inv (atRow l k (fun r => commitRow r s cm) (fun r => commitCode r s cm)).1 P D := by
  obtain ⟨hlt, p0, v0, hk0, hl, hr⟩ := commit_step hv h0
  have hb := lk_bound hc hv hk0
  refine ⟨fun k' s' p v h1 => ?_, fun k' s' c v h1 => ?_, fun d hd => ?_, fun k' s' c v h1 hne => ?_, h.apart⟩
  · obtain ⟨h1, h2⟩ := (hl _ _ _ _).1 h1
    obtain ⟨e, h3⟩ := h.lock _ _ _ _ h1
    refine ⟨e, ?_⟩
    by_cases hk : P s' = k ∧ s' = s
    · exact .inr ⟨cm, v0, (hr _ _ _ _).2 (.inr ⟨hk.1, hk.2, rfl, rfl⟩)⟩
    · rcases h3 with ⟨p', v', h3⟩ | ⟨c, v', h3⟩
      · exact .inl ⟨p', v', (hl _ _ _ _).2 ⟨h3, hk⟩⟩
      · exact .inr ⟨c, v', (hr _ _ _ _).2 (.inl h3)⟩
  · rcases (hr _ _ _ _).1 h1 with h1 | ⟨rfl, rfl, rfl, rfl⟩
    · obtain ⟨v', h2⟩ := h.recs _ _ _ _ h1
      exact ⟨v', (hr _ _ _ _).2 (.inl h2)⟩
    · obtain ⟨v', h2⟩ := hp
      exact ⟨v', (hr _ _ _ _).2 (.inl h2)⟩
  · obtain ⟨a, ⟨v, b⟩, c, e⟩ := h.deal d hd
    refine ⟨a, ⟨v, (hr _ _ _ _).2 (.inl b)⟩, fun y hy => ?_, fun k' p v h1 => e k' p v ((hl _ _ _ _).1 h1).1⟩
    rcases c y hy with ⟨p, h1⟩ | h1
    · by_cases hk : y.key = k ∧ d.start = s
      · refine .inr ((hr _ _ _ _).2 (.inr ⟨hk.1, hk.2, ?_, ?_⟩))
        · obtain ⟨v', h2⟩ := hp
          rw [hk.2] at b
          exact (rc_uniq hc hv b h2).1
        · rw [hk.1, hk.2] at h1
          exact (lk_uniq h1 hk0).2.2
      · exact .inl ⟨p, (hl _ _ _ _).2 ⟨h1, hk⟩⟩
    · exact .inr ((hr _ _ _ _).2 (.inl h1))
  · rcases (hr _ _ _ _).1 h1 with h1 | ⟨rfl, rfl, rfl, rfl⟩
    · exact h.told _ _ _ _ h1 hne
    · obtain ⟨v', h2⟩ := hp
      obtain ⟨d, hd, e1, e2, _⟩ := h.told _ _ _ _ h2 hne
      subst e1 e2
      exact ⟨d, hd, rfl, rfl, (h.deal d hd).2.2.2 _ _ _ hk0⟩

theorem cinv_commit (hv : RowsVal clock l) (hx : CInv l P x) (hph : x.phase = 1 ∨ x.phase = 2 ∨ x.phase = 3 ∨ x.phase = 4) (h0 : (atRow l k (fun r => commitRow r s cm) (fun r => commitCode r s cm)).2 = 0) (hp : ∃ v, Rc l (P s) s cm v) (hne : cm ≠ 0) :
    CInv (atRow l k (fun r => commitRow r s cm) (fun r => commitCode r s cm)).1 P x := by
  obtain ⟨hlt, p0, v0, hk0, hl, hr⟩ := commit_step hv h0
  by_cases hs : x.start = s
  · obtain ⟨v', h2⟩ := hp
    have h4 : x.phase = 4 := by
      rcases hph with h | h | h | h
      · exact absurd (hs ▸ h2) ((hx.none (.inl h)).2 _ _ _)
      · exact absurd (hx.mild (.inl h) _ _ _ (hs ▸ h2)) hne
      · exact absurd (hx.mild (.inr h) _ _ _ (hs ▸ h2)) hne
      · exact h
    refine ⟨fun hp => by omega, fun hp => by omega, fun j y hj hp => by omega, hx.prim, fun hp => ?_, fun k' p v h1 => hx.own k' p v ((hl _ _ _ _).1 h1).1⟩
    obtain ⟨v, h1⟩ := hx.done hp
    exact ⟨v, (hr _ _ _ _).2 (.inl h1)⟩
  · refine hx.far (fun k' p v => ?_) (fun k' c v => ?_)
    · rw [hl]
      exact ⟨fun e => e.1, fun e => ⟨e, fun e' => hs e'.2⟩⟩
    · rw [hr]
      exact ⟨fun e => e.elim id fun e' => absurd e'.2.1 hs, .inl⟩

/-! ### the commit itself: at the primary -/
theorem not_dealt (h : Inv l P D) (hm : ∀ k c v, Rc l k s c v → c = 0) : ∀ d ∈ D, d.start ≠ s := by
  intro d hd e
  obtain ⟨a, ⟨v, b⟩, _, _⟩ := h.deal d hd
  rw [e] at b
  exact a (hm _ _ _ b)
theorem inv_primary (hc : 0 ≤ clock) (hv : RowsVal clock l) (h : Inv l P D) (hx : CInv l P x) (hph : x.phase = 3) (hk : k = P x.start) (h0 : (atRow l k (fun r => commitRow r x.start cm) (fun r => commitCode r x.start cm)).2 = 0) :
    Inv (atRow l k (fun r => commitRow r x.start cm) (fun r => commitCode r x.start cm)).1 P (D ++ [⟨x.start, cm, x.writes⟩]) := by
  obtain ⟨hlt, p0, v0, hk0, hl, hr⟩ := commit_step hv h0
  have hb := lk_bound hc hv hk0
  have hnd := not_dealt h (hx.mild (.inr hph))
  have hlocked : ∀ y ∈ x.writes, Lk l y.key x.start (P x.start) y.value := fun y hy => by
    obtain ⟨j, hj, rfl⟩ := List.mem_iff_getElem.1 hy
    rcases hx.held j _ (List.getElem?_eq_getElem hj) (.inl hph) with h1 | ⟨v, h1⟩
    · exact h1
    · obtain ⟨v', h2⟩ := h.recs _ _ _ _ h1
      rw [← hk] at h2
      exact (lk_rc hc hv hk0 h2).elim
  refine ⟨fun k' s' p v h1 => ?_, fun k' s' c v h1 => ?_, fun d hd => ?_, fun k' s' c v h1 hne => ?_, ?_⟩
  · obtain ⟨h1, h2⟩ := (hl _ _ _ _).1 h1
    obtain ⟨e, h3⟩ := h.lock _ _ _ _ h1
    refine ⟨e, ?_⟩
    by_cases hk' : P s' = k ∧ s' = x.start
    · exact .inr ⟨cm, v0, (hr _ _ _ _).2 (.inr ⟨hk'.1, hk'.2, rfl, rfl⟩)⟩
    · rcases h3 with ⟨p', v', h3⟩ | ⟨c, v', h3⟩
      · exact .inl ⟨p', v', (hl _ _ _ _).2 ⟨h3, hk'⟩⟩
      · exact .inr ⟨c, v', (hr _ _ _ _).2 (.inl h3)⟩
  · rcases (hr _ _ _ _).1 h1 with h1 | ⟨rfl, rfl, rfl, rfl⟩
    · obtain ⟨v', h2⟩ := h.recs _ _ _ _ h1
      exact ⟨v', (hr _ _ _ _).2 (.inl h2)⟩
    · exact ⟨_, (hr _ _ _ _).2 (.inr ⟨hk.symm, rfl, rfl, rfl⟩)⟩
  · rcases List.mem_append.1 hd with hd | hd
    · obtain ⟨a, ⟨v, b⟩, c, e⟩ := h.deal d hd
      have hne := hnd d hd
      refine ⟨a, ⟨v, (hr _ _ _ _).2 (.inl b)⟩, fun y hy => ?_, fun k' p v h1 => e k' p v ((hl _ _ _ _).1 h1).1⟩
      rcases c y hy with ⟨p, h1⟩ | h1
      · exact .inl ⟨p, (hl _ _ _ _).2 ⟨h1, fun h2 => hne h2.2⟩⟩
      · exact .inr ((hr _ _ _ _).2 (.inl h1))
    · obtain rfl := List.mem_singleton.1 hd
      refine ⟨by show cm ≠ 0; omega, ⟨v0, (hr _ _ _ _).2 (.inr ⟨hk.symm, rfl, rfl, rfl⟩)⟩, fun y hy => ?_, fun k' p v h1 => hx.own k' p v ((hl _ _ _ _).1 h1).1⟩
      have h1 := hlocked y hy
      by_cases hyk : y.key = k
      · refine .inr ((hr _ _ _ _).2 (.inr ⟨hyk, rfl, rfl, ?_⟩))
        rw [hyk] at h1
        exact (lk_uniq h1 hk0).2.2
      · exact .inl ⟨_, (hl _ _ _ _).2 ⟨h1, fun e => hyk e.1⟩⟩
  · rcases (hr _ _ _ _).1 h1 with h1 | ⟨rfl, rfl, rfl, rfl⟩
    · obtain ⟨d, hd, e⟩ := h.told _ _ _ _ h1 hne
      exact ⟨d, List.mem_append_left _ hd, e⟩
    · exact ⟨_, List.mem_append_right _ (List.mem_singleton.2 rfl), rfl, rfl, hx.own _ _ _ hk0⟩
  · rw [List.pairwise_append]
    exact ⟨h.apart, by simp, fun d hd e he => by rw [List.mem_singleton.1 he]; exact hnd d hd⟩
theorem commit_far (hv : RowsVal clock l) (hx : CInv l P x) (hs : x.start ≠ s) (h0 : (atRow l k (fun r => commitRow r s cm) (fun r => commitCode r s cm)).2 = 0) : CInv (atRow l k (fun r => commitRow r s cm) (fun r => commitCode r s cm)).1 P x := by
  obtain ⟨hlt, p0, v0, hk0, hl, hr⟩ := commit_step hv h0
  refine hx.far (fun k' p v => ?_) (fun k' c v => ?_)
  · rw [hl]
    exact ⟨fun e => e.1, fun e => ⟨e, fun e' => hs e'.2⟩⟩
  · rw [hr]
    exact ⟨fun e => e.elim id fun e' => absurd e'.2.1 hs, .inl⟩

/-! ### locking -/
def repoint (P : Int → ByteArray) (s : Int) (p : ByteArray) : Int → ByteArray := fun t => if t = s then p else P t
theorem inv_repoint (h : Inv l P D) (hn : NoneOf l s) (p : ByteArray) : Inv l (repoint P s p) D := by
  have hne : ∀ t, t ≠ s → repoint P s p t = P t := fun t ht => if_neg ht
  refine ⟨fun k s' p' v h1 => ?_, fun k s' c v h1 => ?_, fun d hd => ?_, h.told, h.apart⟩
  · rw [hne s' (by rintro rfl; exact hn.1 _ _ _ h1)]; exact h.lock _ _ _ _ h1
  · rw [hne s' (by rintro rfl; exact hn.2 _ _ _ h1)]; exact h.recs _ _ _ _ h1
  · obtain ⟨a, ⟨v, b⟩, c⟩ := h.deal d hd
    rw [hne d.start (by intro e; rw [e] at b; exact hn.2 _ _ _ b)]
    exact ⟨a, ⟨v, b⟩, c⟩
theorem cinv_repoint (hx : CInv l P x) (hs : x.start ≠ s) (p : ByteArray) : CInv l (repoint P s p) x := by
  have hne : repoint P s p x.start = P x.start := if_neg hs
  refine ⟨hx.none, hx.mild, fun j y hj hp => ?_, fun hp => ?_, fun hp => ?_, hx.own⟩
  · rw [hne]; exact hx.held j y hj hp
  · rw [hne]; exact hx.prim hp
  · rw [hne]; exact hx.done hp
theorem inv_lock {p v : ByteArray} (hc : 0 ≤ clock) (hv : RowsVal clock l) (h : Inv l P D) (hp : p = P s) (hm : ∀ k c v, Rc l k s c v → c = 0) (hk : k = p ∨ (∃ p' v', Lk l (P s) s p' v') ∨ ∃ c v', Rc l (P s) s c v')
    (h0 : (atRow l k (fun r => lockRow r s p v) (fun r => lockCode r s p v)).2 = 0) : Inv (atRow l k (fun r => lockRow r s p v) (fun r => lockCode r s p v)).1 P D := by
  obtain ⟨hfree, hnr, hcm, hl, hr⟩ := lock_step hc hv h0
  have hnd := not_dealt h hm
  refine ⟨fun k' s' p' v' h1 => ?_, fun k' s' c v' h1 => ?_, fun d hd => ?_, fun k' s' c v' h1 hne => ?_, h.apart⟩
  · have hold : ∀ t, ((∃ p' v', Lk l (P t) t p' v') ∨ ∃ c v', Rc l (P t) t c v') → ((∃ p' v', Lk (atRow l k (fun r => lockRow r s p v) (fun r => lockCode r s p v)).1 (P t) t p' v') ∨ ∃ c v', Rc (atRow l k (fun r => lockRow r s p v) (fun r => lockCode r s p v)).1 (P t) t c v') := by
      rintro t (⟨p1, v1, h3⟩ | ⟨c, v1, h3⟩)
      · exact .inl ⟨p1, v1, (hl _ _ _ _).2 (.inr h3)⟩
      · exact .inr ⟨c, v1, (hr _ _ _ _).2 h3⟩
    rcases (hl _ _ _ _).1 h1 with ⟨rfl, rfl, rfl, rfl⟩ | h1
    · refine ⟨hp, ?_⟩
      rcases hk with e | hk
      · exact .inl ⟨_, _, (hl _ _ _ _).2 (.inl ⟨(e.trans hp).symm, rfl, rfl, rfl⟩)⟩
      · exact hold _ hk
    · obtain ⟨e, h3⟩ := h.lock _ _ _ _ h1
      exact ⟨e, hold _ h3⟩
  · obtain ⟨v1, h2⟩ := h.recs _ _ _ _ ((hr _ _ _ _).1 h1)
    exact ⟨v1, (hr _ _ _ _).2 h2⟩
  · obtain ⟨a, ⟨v1, b⟩, c, e⟩ := h.deal d hd
    refine ⟨a, ⟨v1, (hr _ _ _ _).2 b⟩, fun y hy => ?_, fun k' p' v' h1 => ?_⟩
    · rcases c y hy with ⟨p1, h1⟩ | h1
      · exact .inl ⟨p1, (hl _ _ _ _).2 (.inr h1)⟩
      · exact .inr ((hr _ _ _ _).2 h1)
    · rcases (hl _ _ _ _).1 h1 with ⟨_, h2, _⟩ | h1
      · exact absurd h2 (hnd d hd)
      · exact e _ _ _ h1
  · exact h.told _ _ _ _ ((hr _ _ _ _).1 h1) hne
theorem lock_far {p v : ByteArray} (hc : 0 ≤ clock) (hv : RowsVal clock l) (hx : CInv l P x) (hs : x.start ≠ s) (h0 : (atRow l k (fun r => lockRow r s p v) (fun r => lockCode r s p v)).2 = 0) : CInv (atRow l k (fun r => lockRow r s p v) (fun r => lockCode r s p v)).1 P x := by
  obtain ⟨hfree, hnr, hcm, hl, hr⟩ := lock_step hc hv h0
  refine hx.far (fun k' p v => ?_) (fun k' c v => ?_)
  · rw [hl]
    exact ⟨fun e => e.elim (fun e' => absurd e'.2.1 hs) id, .inr⟩
  · rw [hr]

/-! ### a client that fails -/
/-- What is so while a failing client's rows are undone, one by one. -/
structure Failing (clock : Int) (l : List MRow) (P : Int → ByteArray) (D : List Deal) (s : Int) : Prop where
  val : RowsVal clock l
  inv : Inv l P D
  mild : ∀ k c v, Rc l k s c v → c = 0
theorem failStep_miss (hv : RowsVal clock l) (ht : timeB s = true) {y : MWrite} (hn : ∀ p v, ¬ Lk l y.key s p v) : failStep s l y = l := by
  unfold failStep
  rw [if_neg]
  intro e
  obtain ⟨p, v, h⟩ := (statusAt_one hv ht).1 e
  exact hn p v h
theorem failStep_hit (hc : 0 ≤ clock) (hs : s ≤ clock) (ht : timeB s = true) {y : MWrite} (h : Failing clock l P D s) (hu : y.key = P s ∨ ∃ v, Rc l (P s) s 0 v) :
    Failing clock (failStep s l y) P D s ∧ ((∃ v, Rc l (P s) s 0 v) → ∃ v, Rc (failStep s l y) (P s) s 0 v) ∧ (∀ x : MClient, CInv l P x → x.start ≠ s → CInv (failStep s l y) P x) ∧
    ((∃ p v, Lk l y.key s p v) → ∃ v, Rc (failStep s l y) y.key s 0 v) := by
  by_cases hst : (statusAt l y.key s).1 = 1
  · have e : failStep s l y = (undoAt l y.key s).1 := by unfold failStep; rw [if_pos hst]
    obtain ⟨p, v, hl0⟩ := (statusAt_one h.val ht).1 hst
    have h0 := undo_lk hc h.val hl0
    obtain ⟨_, hl, hr⟩ := undo_step hc h.val h0
    rw [e]
    refine ⟨⟨undoAt_good hc hs h.val, inv_undo hc h.val h.inv h0 h.mild hu, fun k c v h1 => ?_⟩, fun ⟨v, h1⟩ => ⟨v, (hr _ _ _ _).2 (.inl h1)⟩, fun x hx hne => ?_, fun _ => ⟨_, (hr _ _ _ _).2 (.inr ⟨rfl, rfl, rfl, rfl⟩)⟩⟩
    · rcases (hr _ _ _ _).1 h1 with h1 | ⟨_, _, h2, _⟩
      · exact h.mild _ _ _ h1
      · exact h2
    · refine hx.far (fun k' p v => ?_) (fun k' c v => ?_)
      · rw [hl]; exact ⟨fun e => e.1, fun e => ⟨e, fun e' => hne e'.2⟩⟩
      · rw [hr]; exact ⟨fun e => e.elim id fun e' => absurd e'.2.1 hne, .inl⟩
  · have e : failStep s l y = l := by unfold failStep; rw [if_neg hst]
    rw [e]
    exact ⟨h, id, fun x hx _ => hx, fun ⟨p, v, h1⟩ => absurd ((statusAt_one h.val ht).2 ⟨p, v, h1⟩) hst⟩
theorem fail_rest (hc : 0 ≤ clock) (hs : s ≤ clock) (ht : timeB s = true) : ∀ {ws : List MWrite} {l : List MRow}, Failing clock l P D s → (∃ v, Rc l (P s) s 0 v) →
    Failing clock (failRows l ws s) P D s ∧ (∀ x : MClient, CInv l P x → x.start ≠ s → CInv (failRows l ws s) P x)
  | [], l, h, _ => ⟨h, fun _ hx _ => hx⟩
  | y :: ws, l, h, hr => by
    obtain ⟨h1, h2, h3, _⟩ := failStep_hit hc hs ht (y := y) h (.inr hr)
    obtain ⟨h4, h5⟩ := fail_rest (ws := ws) hc hs ht h1 (h2 hr)
    exact ⟨h4, fun x hx hne => h5 x (h3 x hx hne) hne⟩
theorem fail_none (hv : RowsVal clock l) (ht : timeB s = true) (hn : NoneOf l s) : ∀ {ws : List MWrite}, failRows l ws s = l
  | [] => rfl
  | y :: ws => by
    show failRows (failStep s l y) ws s = l
    rw [failStep_miss hv ht fun p v => hn.1 _ _ _]
    exact fail_none hv ht hn
theorem fail_inv (hc : 0 ≤ clock) (hv : RowsVal clock l) (h : Inv l P D) (hx : CInv l P x) (hb : Busy x clock) (hm : timeB x.start = true) (hph : x.phase = 2 ∨ x.phase = 3) (hn : 0 < x.writes.length) :
    Inv (failRows l x.writes x.start) P D ∧ ∀ y : MClient, CInv l P y → y.start ≠ x.start → CInv (failRows l x.writes x.start) P y := by
  by_cases h0 : x.phase = 2 ∧ x.at_ = 0
  · rw [fail_none hv hm (hx.none (.inr h0))]
    exact ⟨h, fun _ hy _ => hy⟩
  · have hpr : x.phase = 3 ∨ (x.phase = 2 ∧ 0 < x.at_) := by
      have := hb.phase
      omega
    have hP := hx.prim (by omega)
    have hheld := hx.held 0
    have hfail : Failing clock l P D x.start := ⟨hv, h, hx.mild hph⟩
    match hw : x.writes, hn with
    | y :: ws, _ =>
      have hy : (writeNo x 0) = y := by unfold writeNo; rw [hw]; rfl
      rw [hy] at hP
      obtain ⟨h1, h2, h3, h4⟩ := failStep_hit hc hb.start.2 hm (y := y) hfail (.inl hP.symm)
      have hr0 : ∃ v, Rc (failStep x.start l y) (P x.start) x.start 0 v := by
        rcases hheld y (by rw [hw]; rfl) (by omega) with h5 | ⟨v, h5⟩
        · rw [hP]; exact h4 ⟨_, _, h5⟩
        · exact h2 ⟨v, by rw [hP]; exact h5⟩
      obtain ⟨h6, h7⟩ := fail_rest (ws := ws) hc hb.start.2 hm h1 hr0
      exact ⟨h6.inv, fun z hz hne => h7 z (h3 z hz hne) hne⟩
end
end Go.Proofs.Ytniomgngiiiklab

/- Every act keeps the protocol's invariant; no program in sight. -/
namespace Go.Proofs.Ytniomgngiiiklab
open Go.RowKit

structure WInv (l : List MRow) (cs : List MClient) (P : Int → ByteArray) (D : List Deal) : Prop where
  inv : Inv l P D
  clients : ∀ (i : Nat) x, cs[i]? = some x → x.phase ≠ 0 → CInv l P x
  apart : ∀ (i j : Nat) x y, cs[i]? = some x → cs[j]? = some y → i ≠ j → x.phase ≠ 0 → y.phase ≠ 0 → x.start ≠ y.start

section
variable {clock : Int} {l l' : List MRow} {cs : List MClient} {P P' : Int → ByteArray} {D D' : List Deal} {k : ByteArray} {s cm : Int} {x x' : MClient} {c : Nat}

theorem winv_turn (h : WInv l cs P D) (hi : Inv l' P' D') (ho : ∀ (i : Nat) y, cs[i]? = some y → i ≠ c → y.phase ≠ 0 → CInv l' P' y) (hx : x'.phase ≠ 0 → CInv l' P' x')
    (hs : x'.phase ≠ 0 → ∀ (i : Nat) y, cs[i]? = some y → i ≠ c → y.phase ≠ 0 → y.start ≠ x'.start) : WInv l' (cs.set c x') P' D' := by
  have hget : ∀ (i : Nat) y, (cs.set c x')[i]? = some y → (i = c ∧ y = x') ∨ (i ≠ c ∧ cs[i]? = some y) := fun i y hy => by
    rw [List.getElem?_set] at hy
    split at hy
    · rename_i e
      split at hy
      · injection hy with hy; exact .inl ⟨e.symm, hy.symm⟩
      · cases hy
    · rename_i e; exact .inr ⟨fun e' => e e'.symm, hy⟩
  refine ⟨hi, fun i y hy hp => ?_, fun i j y z hy hz hij hp hq => ?_⟩
  · rcases hget i y hy with ⟨_, rfl⟩ | ⟨hne, hy⟩
    · exact hx hp
    · exact ho i y hy hne hp
  · rcases hget i y hy with ⟨ei, ey⟩ | ⟨hne, hy'⟩
    · rcases hget j z hz with ⟨ej, ez⟩ | ⟨hne', hz'⟩
      · exact absurd (ei.trans ej.symm) hij
      · subst ey; exact (hs hp j z hz' hne' hq).symm
    · rcases hget j z hz with ⟨ej, ez⟩ | ⟨hne', hz'⟩
      · subst ez; exact hs hq i y hy' hne hp
      · exact h.apart i j y z hy' hz' hij hp hq

theorem time_of (hst : 1 ≤ s ∧ s ≤ clock) (hc : clock ≤ 1099511627376) : timeB s = true := timeB_of hst.1 (by omega)

/-- A client that fails. -/
theorem winv_fail (hc : 0 ≤ clock ∧ clock ≤ 1099511627376) (hv : RowsVal clock l) (h : WInv l cs P D) (hx : CInv l P x) (hb : Busy x clock) (hph : x.phase = 2 ∨ x.phase = 3) (hn : 0 < x.writes.length)
    (hs : ∀ (i : Nat) y, cs[i]? = some y → i ≠ c → y.phase ≠ 0 → y.start ≠ x.start) : WInv (failRows l x.writes x.start) (cs.set c zeroClient) P D := by
  obtain ⟨h1, h2⟩ := fail_inv hc.1 hv h.inv hx hb (time_of hb.start hc.2) hph hn
  exact winv_turn h h1 (fun i y hy hne hp => h2 y (h.clients i y hy hp) (hs i y hy hne hp)) (fun hp => absurd rfl hp) (fun hp => absurd rfl hp)

theorem lockM_winv {w : MWorld} (hg : WorldGood w) (h : WInv w.rows w.clients P D) (hx : CInv w.rows P x) (hb : Busy x w.clock) (hph : x.phase = 2) (hat : x.at_ < x.writes.length)
    (hs : ∀ (i : Nat) y, w.clients[i]? = some y → i ≠ c → y.phase ≠ 0 → y.start ≠ x.start) : ∃ P', WInv (lockM w c x).1.rows (lockM w c x).1.clients P' D := by
  have hat0 : 0 ≤ x.at_ := by have := hb.phase; omega
  obtain ⟨j, hj⟩ : ∃ j : Nat, x.at_ = j := ⟨x.at_.toNat, by omega⟩
  have hjl : j < x.writes.length := by omega
  have hwj : x.writes[j]? = some (writeNo x x.at_) := by
    unfold writeNo; rw [hj, Int.toNat_natCast, List.getElem?_eq_getElem hjl]; rfl
  by_cases h0 : (lockAt w.rows x).2 = 0
  · have e : (lockM w c x).1 = { w with rows := (lockAt w.rows x).1, clients := w.clients.set c { x with at_ := x.at_ + 1 } } := by unfold lockM; rw [if_pos h0]
    rw [e]
    have hpre : ∃ P', Inv w.rows P' D ∧ CInv w.rows P' x ∧ P' x.start = (writeNo x 0).key ∧ ∀ (i : Nat) y, w.clients[i]? = some y → i ≠ c → y.phase ≠ 0 → CInv w.rows P' y := by
      by_cases hz : x.at_ = 0
      · have hn := hx.none (.inr ⟨hph, hz⟩)
        refine ⟨repoint P x.start (writeNo x 0).key, inv_repoint h.inv hn _, ?_, if_pos rfl, fun i y hy hne hp => cinv_repoint (h.clients i y hy hp) (hs i y hy hne hp) _⟩
        exact ⟨hx.none, hx.mild, fun j y hj hp => by omega, fun hp => by omega, fun hp => by omega, hx.own⟩
      · exact ⟨P, h.inv, hx, hx.prim (.inr (.inr ⟨hph, by omega⟩)), fun i y hy _ hp => h.clients i y hy hp⟩
    obtain ⟨P', hi, hx', hP, ho⟩ := hpre
    have hk : (writeNo x x.at_).key = (writeNo x 0).key ∨ (∃ p' v', Lk w.rows (P' x.start) x.start p' v') ∨ ∃ c v', Rc w.rows (P' x.start) x.start c v' := by
      by_cases hz : x.at_ = 0
      · rw [hz]; exact .inl rfl
      · have hw0 : x.writes[0]? = some (writeNo x 0) := by
          unfold writeNo; rw [show (0 : Int).toNat = 0 from rfl, List.getElem?_eq_getElem (by omega)]; rfl
        rcases hx'.held 0 _ hw0 (.inr ⟨hph, by omega⟩) with h1 | ⟨v, h1⟩
        · rw [hP]; exact .inr (.inl ⟨_, _, h1⟩)
        · rw [hP]; exact .inr (.inr ⟨_, _, h1⟩)
    unfold lockAt at h0 ⊢
    obtain ⟨hfree, hnr, hcm, hl, hr⟩ := lock_step hg.clock.1 hg.rows h0
    refine ⟨P', winv_turn h (inv_lock hg.clock.1 hg.rows hi hP.symm (hx'.mild (.inl hph)) hk h0) (fun i y hy hne hp => lock_far hg.clock.1 hg.rows (ho i y hy hne hp) (hs i y hy hne hp) h0) (fun _ => ?_) (fun _ => hs)⟩
    refine ⟨fun hp => ?_, fun hp k' c' v' h1 => hx'.mild hp _ _ _ ((hr _ _ _ _).1 h1), fun i y hy hp => ?_, fun _ => hP, fun hp => ?_, fun k' p' v' h1 => ?_⟩
    · exact absurd hp (by show ¬ (x.phase = 1 ∨ (x.phase = 2 ∧ x.at_ + 1 = 0)); omega)
    · by_cases hij : i = j
      · subst hij
        have hy' : x.writes[i]? = some y := hy
        rw [hwj] at hy'
        injection hy' with hy'
        refine .inl ((hl _ _ _ _).2 (.inl ?_))
        rw [← hy']
        exact ⟨rfl, rfl, hP, rfl⟩
      · have hp' : x.phase = 3 ∨ (x.phase = 2 ∧ (i : Int) < x.at_) := by
          rcases hp with hp | ⟨_, hp⟩
          · exact .inl hp
          · refine .inr ⟨hph, ?_⟩
            have : (i : Int) < x.at_ + 1 := hp
            omega
        rcases hx'.held i y hy hp' with h1 | ⟨v, h1⟩
        · exact .inl ((hl _ _ _ _).2 (.inr h1))
        · exact .inr ⟨v, (hr _ _ _ _).2 h1⟩
    · exact absurd hp (by show ¬ x.phase = 4; omega)
    · rcases (hl _ _ _ _).1 h1 with ⟨rfl, _, _, rfl⟩ | h1
      · exact List.mem_of_getElem? hwj
      · exact hx'.own _ _ _ h1
  · by_cases h7 : (lockAt w.rows x).2 = 7
    · have e : (lockM w c x).1 = setC w c x := by unfold lockM; rw [if_neg h0, if_pos h7]
      rw [e]
      exact ⟨P, winv_turn h h.inv (fun i y hy _ hp => h.clients i y hy hp) (fun _ => hx) (fun _ => hs)⟩
    · have e : (lockM w c x).1 = failM w c x := by unfold lockM; rw [if_neg h0, if_neg h7]
      rw [e]
      exact ⟨P, winv_fail hg.clock hg.rows h hx hb (.inl hph) (by omega) hs⟩

theorem closeM_winv {w : MWorld} (hg : WorldGood w) (h : WInv w.rows w.clients P D) (hx : CInv w.rows P x) (hb : Busy x w.clock) (hph : x.phase = 3 ∨ x.phase = 4)
    (hs : ∀ (i : Nat) y, w.clients[i]? = some y → i ≠ c → y.phase ≠ 0 → y.start ≠ x.start) :
    WInv (closeM w c x).1.rows (closeM w c x).1.clients P (D ++ if x.phase = 3 ∧ (closeM w c x).2 = 0 then [⟨x.start, x.commit, x.writes⟩] else []) := by
  have hbp := hb.phase
  by_cases hf : x.at_ = 0 ∧ (closeAt w.rows x).2 ≠ 0
  · have e : closeM w c x = (failM w c x, 9) := by unfold closeM; rw [if_pos hf]
    rw [e]
    have e2 : (if x.phase = 3 ∧ ((failM w c x, (9 : Int)) : MWorld × Int).2 = 0 then [(⟨x.start, x.commit, x.writes⟩ : Deal)] else []) = [] := if_neg (fun h => by have := h.2; dsimp only at this; omega)
    rw [e2, List.append_nil]
    exact winv_fail hg.clock hg.rows h hx hb (.inr (by omega)) (by omega) hs
  · have e : closeM w c x = ({ w with rows := (closeAt w.rows x).1, clients := w.clients.set c (if x.at_ + 1 = x.writes.length then zeroClient else { x with phase := 4, at_ := x.at_ + 1 }) }, 0) := by unfold closeM; rw [if_neg hf]
    rw [e]
    dsimp only
    have hcm0 : x.commit ≠ 0 := by have := hb.start; omega
    have hx'0 : ∀ {l' : List MRow}, CInv l' P { x with phase := 4, at_ := x.at_ + 1 } → ((if x.at_ + 1 = x.writes.length then zeroClient else { x with phase := 4, at_ := x.at_ + 1 }) : MClient).phase ≠ 0 → CInv l' P (if x.at_ + 1 = x.writes.length then zeroClient else { x with phase := 4, at_ := x.at_ + 1 }) := fun hci hp => by
      split
      · rename_i e; rw [if_pos e] at hp; exact absurd rfl hp
      · exact hci
    have hst' : ((if x.at_ + 1 = x.writes.length then zeroClient else { x with phase := 4, at_ := x.at_ + 1 }) : MClient).phase ≠ 0 → ∀ (i : Nat) y, w.clients[i]? = some y → i ≠ c → y.phase ≠ 0 → y.start ≠ ((if x.at_ + 1 = x.writes.length then zeroClient else { x with phase := 4, at_ := x.at_ + 1 }) : MClient).start := fun hp i y hy hne hq => by
      split
      · rename_i e; rw [if_pos e] at hp; exact absurd rfl hp
      · exact hs i y hy hne hq
    by_cases h3 : x.phase = 3
    · have hz : x.at_ = 0 := by omega
      have h0 : (closeAt w.rows x).2 = 0 := by
        apply Decidable.byContradiction
        intro hne; exact hf ⟨hz, hne⟩
      have e3 : (if x.phase = 3 ∧ (0 : Int) = 0 then [(⟨x.start, x.commit, x.writes⟩ : Deal)] else []) = [⟨x.start, x.commit, x.writes⟩] := if_pos ⟨h3, rfl⟩
      rw [e3]
      unfold closeAt at h0 ⊢
      have hP : (writeNo x x.at_).key = P x.start := by rw [hz]; exact (hx.prim (.inl h3)).symm
      obtain ⟨hlt, p0, v0, hk0, hl, hr⟩ := commit_step hg.rows h0
      refine winv_turn h (inv_primary hg.clock.1 hg.rows h.inv hx h3 hP h0) (fun i y hy hne hp => commit_far hg.rows (h.clients i y hy hp) (hs i y hy hne hp) h0) (hx'0 ?_) hst'
      exact ⟨fun hp => by rcases hp with hp | hp <;> exact absurd (show (4 : Int) = _ from by first | exact hp | exact hp.1) (by decide), fun hp => by rcases hp with hp | hp <;> exact absurd (show (4 : Int) = _ from hp) (by decide), fun j y hj hp => by rcases hp with hp | hp <;> exact absurd (show (4 : Int) = _ from by first | exact hp | exact hp.1) (by decide), fun _ => hx.prim (.inl h3), fun _ => ⟨v0, (hr _ _ _ _).2 (.inr ⟨hP.symm, rfl, rfl, rfl⟩)⟩, fun k' p' v' h1 => hx.own _ _ _ ((hl _ _ _ _).1 h1).1⟩
    · have h4 : x.phase = 4 := by omega
      have e3 : (if x.phase = 3 ∧ (0 : Int) = 0 then [(⟨x.start, x.commit, x.writes⟩ : Deal)] else []) = [] := if_neg (fun e => h3 e.1)
      rw [e3, List.append_nil]
      have hci : ∀ {l' : List MRow}, CInv l' P x → CInv l' P { x with phase := 4, at_ := x.at_ + 1 } := fun hci =>
        ⟨fun hp => by rcases hp with hp | hp <;> exact absurd (show (4 : Int) = _ from by first | exact hp | exact hp.1) (by decide), fun hp => by rcases hp with hp | hp <;> exact absurd (show (4 : Int) = _ from hp) (by decide), fun j y hj hp => by rcases hp with hp | hp <;> exact absurd (show (4 : Int) = _ from by first | exact hp | exact hp.1) (by decide), fun _ => hci.prim (.inr (.inl h4)), fun _ => hci.done h4, hci.own⟩
      by_cases h0 : (closeAt w.rows x).2 = 0
      · have hd := hx.done h4
        unfold closeAt at h0 ⊢
        have hph' : ∀ y : MClient, clientB y w.clock = true → y.phase ≠ 0 → y.phase = 1 ∨ y.phase = 2 ∨ y.phase = 3 ∨ y.phase = 4 := fun y hy hp => by
          have := (busy_of hy hp).phase; omega
        exact winv_turn h (inv_commit hg.clock.1 hg.rows h.inv h0 hd) (fun i y hy _ hp => cinv_commit hg.rows (h.clients i y hy hp) (hph' y (hg.clients y (List.mem_of_getElem? hy)) hp) h0 hd hcm0) (hx'0 (hci (cinv_commit hg.rows hx (by omega) h0 hd hcm0))) hst'
      · have e1 : (closeAt w.rows x).1 = w.rows := atRow_miss h0
        rw [e1]
        exact winv_turn h h.inv (fun i y hy _ hp => h.clients i y hy hp) (hx'0 (hci hx)) hst'

/-- What resolving a lock does. -/
theorem resolve_inv (hc : 0 ≤ clock ∧ clock ≤ 1099511627376) (hv : RowsVal clock l) (h : Inv l P D) :
    Inv (resolveR l k).1 P D ∧ (∀ y : MClient, clientB y clock = true → y.phase ≠ 0 → CInv l P y → CInv (resolveR l k).1 P y) ∧
    (keyB k = true → ((resolveR l k).2 = 0 ∨ (resolveR l k).2 = 5) ∧ ∀ s p v, ¬ Lk (resolveR l k).1 k s p v) ∧ (∀ k' s p v, Lk (resolveR l k).1 k' s p v → Lk l k' s p v) := by
  by_cases hkey : keyB k = false
  · have e : resolveR l k = (l, 4) := by unfold resolveR; rw [if_pos hkey]
    rw [e]
    exact ⟨h, fun y _ _ hy => hy, fun hk => (by rw [hkey] at hk; cases hk), fun _ _ _ _ h1 => h1⟩
  have hnone : (rv l k).ls = 0 → resolveR l k = (l, 5) ∧ ∀ s p v, ¬ Lk l k s p v := fun hls => by
    refine ⟨?_, fun s p v h1 => h1.1 (h1.2.1.symm.trans hls)⟩
    unfold resolveR
    rw [if_neg hkey]
    cases hr : rowAt l k with
    | none => rfl
    | some r =>
      have e : rv l k = r := by unfold rv; rw [hr]; rfl
      rw [e] at hls
      dsimp only
      rw [if_pos hls]
  by_cases hls : (rv l k).ls = 0
  · obtain ⟨e, h1⟩ := hnone hls
    rw [e]
    exact ⟨h, fun y _ _ hy => hy, fun _ => ⟨.inr rfl, h1⟩, fun _ _ _ _ h1 => h1⟩
  have hlk : Lk l k (rv l k).ls (rv l k).lp (rv l k).value := ⟨hls, rfl, rfl, rfl⟩
  have hr : rowAt l k = some (rv l k) := rowAt_of_lk hlk
  generalize rv l k = r at hlk hr hls
  obtain ⟨hp, hprim⟩ := h.lock _ _ _ _ hlk
  have hb := lk_bound hc.1 hv hlk
  have ht : timeB r.ls = true := timeB_of hb.1 hb.2.2
  have hphase : ∀ y : MClient, clientB y clock = true → y.phase ≠ 0 → y.phase = 1 ∨ y.phase = 2 ∨ y.phase = 3 ∨ y.phase = 4 := fun y hy hp => by
    have := (busy_of hy hp).phase; omega
  by_cases h2 : (statusAt l r.lp r.ls).1 = 2
  · have e : resolveR l k = atRow l k (fun q => commitRow q r.ls (statusAt l r.lp r.ls).2) (fun q => commitCode q r.ls (statusAt l r.lp r.ls).2) := by
      unfold resolveR; rw [if_neg hkey, hr]; dsimp only; rw [if_neg hls, if_pos h2]
    obtain ⟨hne, hrc⟩ := statusAt_two hv ht h2
    rw [hp] at hrc hne e
    obtain ⟨v1, hrc1⟩ := hrc
    have hbd := (rc_bound hc.1 hv hrc1).2.2 hne
    have h0 := commit_lk hc.1 hv hlk hbd.1 hbd.2
    obtain ⟨_, p0, v0, hk0, hl, hrr⟩ := commit_step hv h0
    rw [e]
    refine ⟨inv_commit hc.1 hv h h0 ⟨v1, hrc1⟩, fun y hy hq hci => cinv_commit hv hci (hphase y hy hq) h0 ⟨v1, hrc1⟩ hne, fun _ => ⟨.inl h0, fun s p v h1 => ?_⟩, fun k' s p v h1 => ((hl _ _ _ _).1 h1).1⟩
    obtain ⟨h1, h3⟩ := (hl _ _ _ _).1 h1
    exact h3 ⟨rfl, (lk_uniq h1 hk0).1⟩
  · have hm : ∀ k' c v, Rc l k' r.ls c v → c = 0 := fun k' c v h1 => by
      obtain ⟨v', h3⟩ := h.recs _ _ _ _ h1
      rw [← hp] at h3
      exact statusAt_not_two hc.1 hv ht h2 h3
    have h0 : (undoAt l r.lp r.ls).2 = 0 := by
      rw [hp]
      rcases hprim with ⟨p', v', h3⟩ | ⟨c', v', h3⟩
      · exact undo_lk hc.1 hv h3
      · have hz := hm _ _ _ h3
        subst hz
        exact undo_rc hc.1 hv h3 hb.2.2
    have e : resolveR l k = undoAt (undoAt l r.lp r.ls).1 k r.ls := by
      unfold resolveR; rw [if_neg hkey, hr]; dsimp only; rw [if_neg hls, if_neg h2, if_neg (fun hne => hne h0)]
    obtain ⟨_, hl1, hr1⟩ := undo_step hc.1 hv h0
    have hv1 := undoAt_good (k := r.lp) hc.1 hb.2.1 hv
    have hi1 := inv_undo hc.1 hv h h0 hm (.inl hp)
    have hpr1 : Rc (undoAt l r.lp r.ls).1 r.lp r.ls 0 ⟨#[]⟩ := (hr1 _ _ _ _).2 (.inr ⟨rfl, rfl, rfl, rfl⟩)
    have hm1 : ∀ k' c v, Rc (undoAt l r.lp r.ls).1 k' r.ls c v → c = 0 := fun k' c v h1 => by
      rcases (hr1 _ _ _ _).1 h1 with h1 | ⟨_, _, h3, _⟩
      · exact hm _ _ _ h1
      · exact h3
    have h01 : (undoAt (undoAt l r.lp r.ls).1 k r.ls).2 = 0 := by
      by_cases hk : k = r.lp
      · rw [hk]; exact undo_rc hc.1 hv1 hpr1 hb.2.2
      · exact undo_lk hc.1 hv1 ((hl1 _ _ _ _).2 ⟨hlk, fun e => hk e.1⟩)
    obtain ⟨_, hl2, hr2⟩ := undo_step hc.1 hv1 h01
    rw [e]
    refine ⟨inv_undo hc.1 hv1 hi1 h01 hm1 (.inr ⟨⟨#[]⟩, by rw [← hp]; exact hpr1⟩), fun y hy hq hci => ?_, fun _ => ⟨.inl h01, fun s p v h1 => ?_⟩, fun k' s p v h1 => ((hl1 _ _ _ _).1 ((hl2 _ _ _ _).1 h1).1).1⟩
    · have hcm : y.phase = 4 → y.commit ≠ 0 := fun h4 => by have hbz := busy_of hy hq; have := hbz.phase; have := hbz.start; omega
      exact cinv_undo hc.1 hv1 (cinv_undo hc.1 hv hci h0 hcm (.inl ⟨_, _, _, hlk⟩) hm) h01 hcm (.inr ⟨_, _, _, hpr1⟩) hm1
    · obtain ⟨h1, h3⟩ := (hl2 _ _ _ _).1 h1
      obtain ⟨h1, _⟩ := (hl1 _ _ _ _).1 h1
      exact h3 ⟨rfl, (lk_uniq h1 hlk).1⟩
end

/-- What an act commits. -/
def dealsOf (w : MWorld) (a : MAct) : List Deal :=
  if a.kind = 4 ∧ (clientAt w a.c.toNat).phase = 3 ∧ (doM w a).2.1.code = 0 then [⟨(clientAt w a.c.toNat).start, (clientAt w a.c.toNat).commit, (clientAt w a.c.toNat).writes⟩] else []

theorem clientAt_get {w : MWorld} {c : Nat} (h : c < w.clients.length) : w.clients[c]? = some (clientAt w c) := by
  unfold clientAt; rw [List.getElem?_eq_getElem h]; rfl

theorem act_winv {w : MWorld} {a : MAct} {P : Int → ByteArray} {D : List Deal} (h0 : doCode w a = 0) (h : WInv w.rows w.clients P D) : ∃ P', WInv (doM w a).1.rows (doM w a).1.clients P' (D ++ dealsOf w a) := by
  obtain ⟨hg, hk, hcl, hclock⟩ := doCode_ok h0
  have hcl' : a.c.toNat < w.clients.length := by omega
  have hget := clientAt_get hcl'
  have hxB := hg.clients _ (List.mem_of_getElem? hget)
  have hcode : (doM w a).2.1.code = (actM w a a.c.toNat (clientAt w a.c.toNat)).2.code := by unfold doM; rw [if_pos h0]
  have hworld : (doM w a).1 = (actM w a a.c.toNat (clientAt w a.c.toNat)).1 := by unfold doM; rw [if_pos h0]
  unfold dealsOf
  rw [hcode, hworld]
  generalize hx : clientAt w a.c.toNat = x at hget hxB
  generalize hc : a.c.toNat = c at hget hcl'
  have hs : x.phase ≠ 0 → ∀ (i : Nat) y, w.clients[i]? = some y → i ≠ c → y.phase ≠ 0 → y.start ≠ x.start := fun hp i y hy hne hq => h.apart i c y x hy hget hne hq hp
  have hci : x.phase ≠ 0 → CInv w.rows P x := h.clients c x hget
  have hothers : ∀ (i : Nat) y, w.clients[i]? = some y → i ≠ c → y.phase ≠ 0 → CInv w.rows P y := fun i y hy _ hp => h.clients i y hy hp
  have hsame : WInv w.rows w.clients P (D ++ []) := by rw [List.append_nil]; exact h
  have hzero : WInv w.rows (w.clients.set c zeroClient) P (D ++ []) := by
    rw [List.append_nil]
    exact winv_turn h h.inv hothers (fun hp => absurd rfl hp) (fun hp => absurd rfl hp)
  unfold actM
  by_cases hbad : (a.kind = 1 ∧ x.phase ≠ 0) ∨ ((a.kind = 2 ∨ a.kind = 3) ∧ x.phase ≠ 1) ∨ (a.kind = 5 ∧ x.phase = 0)
  · rw [if_pos hbad, if_neg (fun e => by omega)]; exact ⟨P, hsame⟩
  rw [if_neg hbad]
  by_cases k1 : a.kind = 1
  · rw [if_pos k1, if_neg (fun e => by omega), List.append_nil]
    have hno : NoneOf w.rows (w.clock + 1) := ⟨fun k p v h1 => by have := lk_bound hg.clock.1 hg.rows h1; omega, fun k c v h1 => by have := (rc_bound hg.clock.1 hg.rows h1).1; omega⟩
    refine ⟨P, winv_turn h h.inv hothers (fun _ => ⟨fun _ => hno, fun hp => ?_, fun j y hj => ?_, fun hp => ?_, fun hp => ?_, fun k p v h1 => absurd h1 (hno.1 k p v)⟩) (fun _ i y hy _ hp => ?_)⟩
    · rcases hp with hp | hp <;> exact absurd (show (1 : Int) = _ from hp) (by decide)
    · cases hj
    · rcases hp with hp | hp | hp <;> exact absurd (show (1 : Int) = _ from by first | exact hp | exact hp.1) (by decide)
    · exact absurd (show (1 : Int) = _ from hp) (by decide)
    · have := (busy_of (hg.clients y (List.mem_of_getElem? hy)) hp).start
      show y.start ≠ w.clock + 1; omega
  rw [if_neg k1]
  by_cases k2 : a.kind = 2
  · rw [if_pos k2, if_neg (fun e => by omega)]; exact ⟨P, hsame⟩
  rw [if_neg k2]
  by_cases k3 : a.kind = 3
  · rw [if_pos k3, if_neg (fun e => by omega)]
    have hp1 : x.phase = 1 := by omega
    have hp0 : x.phase ≠ 0 := by omega
    dsimp only
    unfold putM
    split
    · exact ⟨P, hsame⟩
    split
    · exact ⟨P, hsame⟩
    split
    · exact ⟨P, hsame⟩
    have hx1 := hci hp0
    have hn := hx1.none (.inl hp1)
    rw [List.append_nil]
    exact ⟨P, winv_turn h h.inv hothers (fun _ => ⟨fun _ => hn, fun hp => absurd hp (by show ¬ (x.phase = 2 ∨ x.phase = 3); omega), fun j y _ hp => absurd hp (by show ¬ (x.phase = 3 ∨ (x.phase = 2 ∧ _)); omega), fun hp => absurd hp (by show ¬ (x.phase = 3 ∨ x.phase = 4 ∨ (x.phase = 2 ∧ _)); omega), fun hp => absurd hp (by show ¬ x.phase = 4; omega), fun k p v h1 => absurd h1 (hn.1 k p v)⟩) (fun _ => hs hp0)⟩
  rw [if_neg k3]
  by_cases k4 : a.kind = 4
  · rw [if_pos k4]
    dsimp only
    unfold stepM
    by_cases hp0 : x.phase = 0
    · rw [if_pos hp0, if_neg (fun e => by omega)]; exact ⟨P, hsame⟩
    rw [if_neg hp0]
    have hb := busy_of hxB hp0
    have hbp := hb.phase
    by_cases hp1 : x.phase = 1 ∧ x.writes.length = 0
    · rw [if_pos hp1, if_neg (fun e => by omega)]; exact ⟨P, hzero⟩
    rw [if_neg hp1]
    by_cases hp1' : x.phase = 1
    · rw [if_pos hp1', if_neg (fun e => by omega), List.append_nil]
      have hx1 := hci hp0
      have hn := hx1.none (.inl hp1')
      refine lockM_winv (x := { x with phase := 2 }) hg h ⟨fun _ => hn, fun _ k c v h1 => absurd h1 (hn.2 k c v), fun j y hj hp => ?_, fun hp => ?_, fun hp => ?_, fun k p v h1 => absurd h1 (hn.1 k p v)⟩ ⟨hb.few, hb.writes, hb.start, .inr (.inl ⟨rfl, ?_, ?_, ?_, ?_⟩)⟩ rfl ?_ (hs hp0)
      · exact absurd hp (by show ¬ ((2 : Int) = 3 ∨ ((2 : Int) = 2 ∧ (j : Int) < x.at_)); omega)
      · exact absurd hp (by show ¬ ((2 : Int) = 3 ∨ (2 : Int) = 4 ∨ ((2 : Int) = 2 ∧ 0 < x.at_)); omega)
      · exact absurd (show (2 : Int) = _ from hp) (by decide)
      · show x.commit = 0; omega
      · show 0 ≤ x.at_; omega
      · show x.at_ ≤ x.writes.length; omega
      · show 0 < x.writes.length; omega
      · show x.at_ < x.writes.length; omega
    rw [if_neg hp1']
    by_cases hp2 : x.phase = 2 ∧ x.at_ < x.writes.length
    · rw [if_pos hp2, if_neg (fun e => by omega), List.append_nil]
      exact lockM_winv hg h (hci hp0) hb hp2.1 hp2.2 (hs hp0)
    rw [if_neg hp2]
    by_cases hp2' : x.phase = 2
    · rw [if_pos hp2', if_neg (fun e => by omega), List.append_nil]
      have hx1 := hci hp0
      have hat : x.at_ = x.writes.length := by omega
      refine ⟨P, winv_turn h h.inv hothers (fun _ => ⟨fun hp => ?_, fun _ => hx1.mild (.inl hp2'), fun j y hj _ => hx1.held j y hj (.inr ⟨hp2', ?_⟩), fun _ => hx1.prim (.inr (.inr ⟨hp2', by omega⟩)), fun hp => ?_, hx1.own⟩) (fun _ => hs hp0)⟩
      · rcases hp with hp | hp <;> exact absurd (show (3 : Int) = _ from by first | exact hp | exact hp.1) (by decide)
      · have hj' : x.writes[j]? = some y := hj
        have := (List.getElem?_eq_some_iff.1 hj').1
        omega
      · exact absurd (show (3 : Int) = _ from hp) (by decide)
    · rw [if_neg hp2']
      have e : (if a.kind = 4 ∧ x.phase = 3 ∧ (closeM w c x).2 = 0 then [(⟨x.start, x.commit, x.writes⟩ : Deal)] else []) = if x.phase = 3 ∧ (closeM w c x).2 = 0 then [(⟨x.start, x.commit, x.writes⟩ : Deal)] else [] := by
        by_cases hh : x.phase = 3 ∧ (closeM w c x).2 = 0
        · rw [if_pos hh, if_pos ⟨k4, hh⟩]
        · rw [if_neg hh, if_neg (fun e => hh e.2)]
      dsimp only
      rw [e]
      exact ⟨P, closeM_winv hg h (hci hp0) hb (by omega) (hs hp0)⟩
  rw [if_neg k4]
  by_cases k5 : a.kind = 5
  · rw [if_pos k5, if_neg (fun e => by omega)]; exact ⟨P, hzero⟩
  rw [if_neg k5, if_neg (fun e => by omega), List.append_nil]
  obtain ⟨h1, h2, _, _⟩ := resolve_inv (k := a.key) hg.clock hg.rows h.inv
  exact ⟨P, h1, fun i y hy hp => h2 y (hg.clients y (List.mem_of_getElem? hy)) hp (h.clients i y hy hp), h.apart⟩

theorem start_winv {n : Nat} (P : Int → ByteArray) : WInv (startW n).rows (startW n).clients P [] := by
  refine ⟨⟨fun k s p v h => ?_, fun k s c v h => ?_, fun d hd => by (cases hd), fun k s c v h => ?_, List.Pairwise.nil⟩, fun i x hx hp => ?_, fun i j x y hx hy hij hp hq => ?_⟩
  · exact absurd h.2.1.symm h.1
  · cases h
  · cases h
  · have := List.eq_of_mem_replicate (List.mem_of_getElem? hx)
    rw [this] at hp; exact absurd rfl hp
  · have := List.eq_of_mem_replicate (List.mem_of_getElem? hx)
    rw [this] at hp; exact absurd rfl hp
end Go.Proofs.Ytniomgngiiiklab

/- Scripts of acts that are in form: every act is done, times are ticks, a part of a script answers as its beginning; no program in sight. -/
namespace Go.Proofs.Ytniomgngiiiklab
open Go.RowKit

/-! ### clients and clock -/
theorem lockM_facts {w : MWorld} {c : Nat} {x : MClient} : (lockM w c x).1.clock = w.clock ∧ (lockM w c x).1.clients.length = w.clients.length := by
  unfold lockM
  split
  · exact ⟨rfl, List.length_set⟩
  · split
    · exact ⟨rfl, List.length_set⟩
    · exact ⟨rfl, List.length_set⟩
theorem closeM_facts {w : MWorld} {c : Nat} {x : MClient} : (closeM w c x).1.clock = w.clock ∧ (closeM w c x).1.clients.length = w.clients.length := by
  unfold closeM
  split
  · exact ⟨rfl, List.length_set⟩
  · exact ⟨rfl, List.length_set⟩
theorem stepM_facts {w : MWorld} {c : Nat} {x : MClient} : (((stepM w c x).2.2 = 0 ∧ (stepM w c x).1.clock = w.clock) ∨ ((stepM w c x).2.2 = w.clock + 1 ∧ (stepM w c x).1.clock = w.clock + 1)) ∧ (stepM w c x).1.clients.length = w.clients.length := by
  unfold stepM
  split
  · exact ⟨.inl ⟨rfl, rfl⟩, rfl⟩
  split
  · exact ⟨.inl ⟨rfl, rfl⟩, List.length_set⟩
  split
  · exact ⟨.inl ⟨rfl, lockM_facts.1⟩, lockM_facts.2⟩
  split
  · exact ⟨.inl ⟨rfl, lockM_facts.1⟩, lockM_facts.2⟩
  split
  · exact ⟨.inr ⟨rfl, rfl⟩, List.length_set⟩
  · exact ⟨.inl ⟨rfl, closeM_facts.1⟩, closeM_facts.2⟩
theorem putM_facts {w : MWorld} {c : Nat} {x : MClient} {k v : ByteArray} : (putM w c x k v).1.clock = w.clock ∧ (putM w c x k v).1.clients.length = w.clients.length := by
  unfold putM
  split
  · exact ⟨rfl, rfl⟩
  split
  · exact ⟨rfl, rfl⟩
  split
  · exact ⟨rfl, rfl⟩
  · exact ⟨rfl, List.length_set⟩
theorem doM_facts {w : MWorld} {a : MAct} (h : doCode w a = 0) :
    (((doM w a).2.1.time = 0 ∧ (doM w a).1.clock = w.clock) ∨ ((doM w a).2.1.time = w.clock + 1 ∧ (doM w a).1.clock = w.clock + 1)) ∧ (doM w a).1.clients.length = w.clients.length ∧ (doM w a).2.2 = 0 := by
  unfold doM
  rw [if_pos h]
  refine and_assoc.1 ⟨?_, rfl⟩
  dsimp only
  unfold actM
  split
  · exact ⟨.inl ⟨rfl, rfl⟩, rfl⟩
  split
  · exact ⟨.inr ⟨rfl, rfl⟩, List.length_set⟩
  split
  · exact ⟨.inl ⟨rfl, rfl⟩, rfl⟩
  split
  · exact ⟨.inl ⟨rfl, putM_facts.1⟩, putM_facts.2⟩
  split
  · exact stepM_facts
  split
  · exact ⟨.inl ⟨rfl, rfl⟩, List.length_set⟩
  · exact ⟨.inl ⟨rfl, rfl⟩, rfl⟩

/-! ### scripts -/
def ActOk (n : Nat) (a : MAct) : Prop := (1 ≤ a.kind ∧ a.kind ≤ 6) ∧ 0 ≤ a.c ∧ a.c < n
def stepW (w : MWorld) (a : MAct) : MWorld := (doM w a).1
def ansFrom : MWorld → List MAct → List MAns
  | _, [] => []
  | w, a :: l => (doM w a).2.1 :: ansFrom (stepW w a) l
/-- A world in which so many acts can still be done. -/
structure Fit (n : Nat) (m : Nat) (w : MWorld) : Prop where
  good : WorldGood w
  len : w.clients.length = n
  room : w.clock + m ≤ 1099511627376
theorem fit_code {n m : Nat} {w : MWorld} {a : MAct} (h : Fit n (m + 1) w) (ha : ActOk n a) : doCode w a = 0 := by
  obtain ⟨hk, hc⟩ := ha
  have hl := h.len
  have hr := h.room
  unfold doCode
  rw [worldB_iff.2 h.good]
  rw [if_neg (by decide), if_neg (by omega), if_neg (by omega), if_neg (by omega)]
theorem fit_step {n m : Nat} {w : MWorld} {a : MAct} (h : Fit n (m + 1) w) (ha : ActOk n a) : Fit n m (stepW w a) := by
  have h0 := fit_code h ha
  obtain ⟨h1, h2, _⟩ := doM_facts h0
  have hr := h.room
  refine ⟨doM_good h0, h2.trans h.len, ?_⟩
  show (doM w a).1.clock + m ≤ _
  omega
theorem fit_start {n : Nat} (h : n ≤ 5) (m : Nat) (hm : m ≤ 400) : Fit n m (startW n) := ⟨startW_good h, by simp [startW], by show (0 : Int) + m ≤ _; omega⟩
theorem foldl_run {n : Nat} : ∀ {l : List MAct} {w : MWorld} {out : List MAns}, Fit n l.length w → (∀ a ∈ l, ActOk n a) → l.foldl runStep (out, w) = (out ++ ansFrom w l, l.foldl stepW w)
  | [], w, out, _, _ => by simp [ansFrom]
  | a :: l, w, out, h, ha => by
    have h' : Fit n (l.length + 1) w := h
    have h0 := fit_code h' (ha a List.mem_cons_self)
    have e : runStep (out, w) a = (out ++ [(doM w a).2.1], stepW w a) := by
      unfold runStep
      rw [if_pos (doM_facts h0).2.2]
      rfl
    rw [List.foldl_cons, e, foldl_run (fit_step h' (ha a List.mem_cons_self)) fun b hb => ha b (List.mem_cons_of_mem _ hb)]
    simp [ansFrom]
theorem run_ok {n : Nat} {l : List MAct} (hn : n ≤ 5) (hl : l.length ≤ 400) (ha : ∀ a ∈ l, ActOk n a) : runM n l = (ansFrom (startW n) l, l.foldl stepW (startW n)) := by
  unfold runM
  rw [foldl_run (fit_start hn _ hl) ha]
  rfl
theorem length_ansFrom : ∀ (l : List MAct) (w : MWorld), (ansFrom w l).length = l.length
  | [], _ => rfl
  | a :: l, w => by simp [ansFrom, length_ansFrom l]
theorem ansFrom_append : ∀ (l m : List MAct) (w : MWorld), ansFrom w (l ++ m) = ansFrom w l ++ ansFrom (l.foldl stepW w) m
  | [], _, _ => rfl
  | a :: l, m, w => by simp [ansFrom, ansFrom_append l m]
theorem ansFrom_take (l : List MAct) (k : Nat) (w : MWorld) : (ansFrom w l).take k = ansFrom w (l.take k) := by
  conv => lhs; rw [← List.take_append_drop k l, ansFrom_append]
  by_cases h : k ≤ l.length
  · rw [List.take_append_of_le_length (by rw [length_ansFrom, List.length_take]; omega), List.take_of_length_le (by rw [length_ansFrom, List.length_take]; omega)]
  · rw [List.drop_eq_nil_of_le (by omega), List.take_of_length_le (by simp [length_ansFrom, ansFrom]; omega)]
    simp [ansFrom]
theorem fit_fold {n : Nat} : ∀ {l : List MAct} {w : MWorld} {m : Nat}, Fit n (l.length + m) w → (∀ a ∈ l, ActOk n a) → Fit n m (l.foldl stepW w)
  | [], w, m, h, _ => by simpa using h
  | a :: l, w, m, h, ha => by
    rw [List.foldl_cons]
    exact fit_fold (fit_step (by rw [List.length_cons] at h; rw [show l.length + m + 1 = l.length + 1 + m by omega]; exact h) (ha a List.mem_cons_self)) fun b hb => ha b (List.mem_cons_of_mem _ hb)

/-! ### times -/
/-- The last time told, if the times follow one another. -/
def lastTime : Int → List MAns → Option Int
  | t, [] => some t
  | t, x :: l => if x.time = 0 then lastTime t l else if x.time = t + 1 then lastTime x.time l else none
theorem lastTime_run {n : Nat} : ∀ {l : List MAct} {w : MWorld}, Fit n l.length w → (∀ a ∈ l, ActOk n a) → lastTime w.clock (ansFrom w l) = some (l.foldl stepW w).clock
  | [], _, _, _ => rfl
  | a :: l, w, h, ha => by
    have h' : Fit n (l.length + 1) w := h
    have ha0 := ha a List.mem_cons_self
    have h1 := (doM_facts (fit_code h' ha0)).1
    have ih := lastTime_run (fit_step h' ha0) fun b hb => ha b (List.mem_cons_of_mem _ hb)
    rw [List.foldl_cons, ← ih]
    show (if (doM w a).2.1.time = 0 then _ else _) = _
    have hc := h.good.clock
    rcases h1 with ⟨h1, h2⟩ | ⟨h1, h2⟩
    · rw [if_pos h1, ← h2]; rfl
    · rw [if_neg (by omega), if_pos h1, h1, ← h2]; rfl
/-- The invariant along a script, with all that was committed. -/
def dealsFrom : MWorld → List MAct → List Deal
  | _, [] => []
  | w, a :: l => dealsOf w a ++ dealsFrom (stepW w a) l
theorem winv_run {n : Nat} : ∀ {l : List MAct} {w : MWorld} {m : Nat} {P : Int → ByteArray} {D : List Deal}, Fit n (l.length + m) w → (∀ a ∈ l, ActOk n a) → WInv w.rows w.clients P D →
    ∃ P', WInv (l.foldl stepW w).rows (l.foldl stepW w).clients P' (D ++ dealsFrom w l)
  | [], w, m, P, D, _, _, hw => ⟨P, by simpa [dealsFrom] using hw⟩
  | a :: l, w, m, P, D, h, ha, hw => by
    have h' : Fit n (l.length + m + 1) w := by rw [List.length_cons] at h; rw [show l.length + m + 1 = l.length + 1 + m by omega]; exact h
    have ha0 := ha a List.mem_cons_self
    obtain ⟨P1, h1⟩ := act_winv (fit_code h' ha0) hw
    obtain ⟨P2, h2⟩ := winv_run (fit_step h' ha0) (fun b hb => ha b (List.mem_cons_of_mem _ hb)) h1
    refine ⟨P2, ?_⟩
    rw [List.foldl_cons]
    show WInv _ _ _ (D ++ (dealsOf w a ++ dealsFrom (stepW w a) l))
    rw [← List.append_assoc]
    exact h2

/-- Of one transaction all records say the same. -/
theorem whole_run {clock : Int} {l : List MRow} {P : Int → ByteArray} {D : List Deal} (hc : 0 ≤ clock) (hv : RowsVal clock l) (h : Inv l P D) :
    ∀ r ∈ l, ∀ x ∈ r.recs, ∀ r' ∈ l, ∀ x' ∈ r'.recs, x.start = x'.start → x.commit = x'.commit := by
  intro r hr x hx r' hr' x' hx' e
  have hrv : ∀ q ∈ l, rv l q.key = q := fun q hq => by unfold rv; rw [rowAt_of_mem hv.sorted hq]; rfl
  have h1 : Rc l r.key x.start x.commit x.value := by unfold Rc; rw [hrv r hr]; exact hx
  have h2 : Rc l r'.key x'.start x'.commit x'.value := by unfold Rc; rw [hrv r' hr']; exact hx'
  obtain ⟨v1, h1⟩ := h.recs _ _ _ _ h1
  obtain ⟨v2, h2⟩ := h.recs _ _ _ _ h2
  rw [e] at h1
  exact (rc_uniq hc hv h1 h2).1
end Go.Proofs.Ytniomgngiiiklab

/- The reference's ways of putting a record, a row, a write in its place come to the same; no program in sight. -/
namespace Go.Proofs.Ytniomgngiiiklab
open Go.RowKit

theorem insRecs_filter {l : List MRec} {x : MRec} (hp : l.Pairwise RecRel) (hne : ∀ y ∈ l, y.start ≠ x.start) :
    (l.filter fun y => decide (y.start < x.start)) ++ x :: (l.filter fun y => decide (x.start < y.start)) = insRecs l x := by
  have hb := insAt_before (l := l) (x := x)
  have ha := insAt_behind (x := x) hp
  unfold insRecs
  generalize insAt l x = i at hb ha
  have e1 : (l.filter fun y => decide (y.start < x.start)) = l.take i := by
    conv => lhs; rw [← List.take_append_drop i l, List.filter_append]
    rw [List.filter_eq_self.2, List.filter_eq_nil_iff.2, List.append_nil]
    · intro y hy; have := ha y hy; simp; omega
    · intro y hy; have := hb y hy; have := hne y (List.mem_of_mem_take hy); simp; omega
  have e2 : (l.filter fun y => decide (x.start < y.start)) = l.drop i := by
    conv => lhs; rw [← List.take_append_drop i l, List.filter_append]
    rw [List.filter_eq_nil_iff.2, List.filter_eq_self.2, List.nil_append]
    · intro y hy; have := ha y hy; simp; omega
    · intro y hy; have := hb y hy; simp; omega
  rw [e1, e2]

/-- One element of the reference's withRow: what is out so far, and whether the row is in it. -/
def rowStep (r : MRow) (p : List MRow × Bool) (y : MRow) : List MRow × Bool :=
  let q := if !p.2 && !ltK y.key r.key then (p.1 ++ [r], true) else p
  if y.key = r.key then q else (q.1 ++ [y], q.2)
def refPutRow (l : List MRow) (r : MRow) : List MRow :=
  let p := l.foldl (rowStep r) ([], false)
  if p.2 then p.1 else p.1 ++ [r]
theorem rowStep_done {r : MRow} : ∀ {l : List MRow} {out : List MRow}, (∀ y ∈ l, y.key ≠ r.key) → l.foldl (rowStep r) (out, true) = (out ++ l, true)
  | [], out, _ => by simp
  | y :: l, out, h => by
    have e : rowStep r (out, true) y = (out ++ [y], true) := by
      unfold rowStep
      simp [h y List.mem_cons_self]
    rw [List.foldl_cons, e, rowStep_done fun z hz => h z (List.mem_cons_of_mem _ hz)]
    simp
theorem refPutRow_from {r : MRow} : ∀ {l out : List MRow}, (l.Pairwise fun a b => ltK a.key b.key = true) →
    (let p := l.foldl (rowStep r) (out, false); if p.2 then p.1 else p.1 ++ [r]) = out ++ putRow l r
  | [], out, _ => by simp [putRow]
  | y :: l, out, h => by
    obtain ⟨h1, h2⟩ := List.pairwise_cons.1 h
    rw [List.foldl_cons]
    unfold putRow
    cases hlt : ltK y.key r.key with
    | true =>
      have e : rowStep r (out, false) y = (out ++ [y], false) := by
        unfold rowStep
        simp [hlt, ltK_ne hlt]
      rw [e, refPutRow_from h2]
      simp
    | false =>
      by_cases hk : y.key = r.key
      · have e : rowStep r (out, false) y = (out ++ [r], true) := by
          unfold rowStep
          simp [hk, ltK_irrefl]
        have hne : ∀ z ∈ l, z.key ≠ r.key := fun z hz => by rw [← hk]; exact (ltK_ne (h1 z hz)).symm
        rw [e, rowStep_done hne]
        simp [hk]
      · have e : rowStep r (out, false) y = (out ++ [r] ++ [y], true) := by
          unfold rowStep
          simp [hlt, hk]
        have hgt : ltK r.key y.key = true := by
          cases hg : ltK r.key y.key with
          | true => rfl
          | false => exact absurd (ltK_total hlt hg) hk
        have hne : ∀ z ∈ l, z.key ≠ r.key := fun z hz => (ltK_ne (ltK_trans hgt (h1 z hz))).symm
        rw [e, rowStep_done hne]
        simp [hk]
theorem refPutRow_eq {l : List MRow} {r : MRow} (h : l.Pairwise fun a b => ltK a.key b.key = true) : refPutRow l r = putRow l r := by
  have := refPutRow_from (r := r) (out := []) h
  simpa [refPutRow] using this

def writeStep (r : MWrite) (p : List MWrite × Bool) (y : MWrite) : List MWrite × Bool :=
  let q := if !p.2 && !ltK y.key r.key then (p.1 ++ [r], true) else p
  if y.key = r.key then q else (q.1 ++ [y], q.2)
def refPutWrite (l : List MWrite) (r : MWrite) : List MWrite :=
  let p := l.foldl (writeStep r) ([], false)
  if p.2 then p.1 else p.1 ++ [r]
theorem writeStep_done {r : MWrite} : ∀ {l : List MWrite} {out : List MWrite}, (∀ y ∈ l, y.key ≠ r.key) → l.foldl (writeStep r) (out, true) = (out ++ l, true)
  | [], out, _ => by simp
  | y :: l, out, h => by
    have e : writeStep r (out, true) y = (out ++ [y], true) := by
      unfold writeStep
      simp [h y List.mem_cons_self]
    rw [List.foldl_cons, e, writeStep_done fun z hz => h z (List.mem_cons_of_mem _ hz)]
    simp
theorem refPutWrite_from {r : MWrite} : ∀ {l out : List MWrite}, (l.Pairwise fun a b => ltK a.key b.key = true) →
    (let p := l.foldl (writeStep r) (out, false); if p.2 then p.1 else p.1 ++ [r]) = out ++ putWrite l r
  | [], out, _ => by simp [putWrite]
  | y :: l, out, h => by
    obtain ⟨h1, h2⟩ := List.pairwise_cons.1 h
    rw [List.foldl_cons]
    unfold putWrite
    cases hlt : ltK y.key r.key with
    | true =>
      have e : writeStep r (out, false) y = (out ++ [y], false) := by
        unfold writeStep
        simp [hlt, ltK_ne hlt]
      rw [e, refPutWrite_from h2]
      simp
    | false =>
      by_cases hk : y.key = r.key
      · have e : writeStep r (out, false) y = (out ++ [r], true) := by
          unfold writeStep
          simp [hk, ltK_irrefl]
        have hne : ∀ z ∈ l, z.key ≠ r.key := fun z hz => by rw [← hk]; exact (ltK_ne (h1 z hz)).symm
        rw [e, writeStep_done hne]
        simp [hk]
      · have e : writeStep r (out, false) y = (out ++ [r] ++ [y], true) := by
          unfold writeStep
          simp [hlt, hk]
        have hgt : ltK r.key y.key = true := by
          cases hg : ltK r.key y.key with
          | true => rfl
          | false => exact absurd (ltK_total hlt hg) hk
        have hne : ∀ z ∈ l, z.key ≠ r.key := fun z hz => (ltK_ne (ltK_trans hgt (h1 z hz))).symm
        rw [e, writeStep_done hne]
        simp [hk]
theorem refPutWrite_eq {l : List MWrite} {r : MWrite} (h : l.Pairwise fun a b => ltK a.key b.key = true) : refPutWrite l r = putWrite l r := by
  have := refPutWrite_from (r := r) (out := []) h
  simpa [refPutWrite] using this

/-! ### where the binary search comes to -/
def rowIdx (l : List MRow) (k : ByteArray) : Nat := l.findIdx fun r => !ltK r.key k
def writeIdx (l : List MWrite) (k : ByteArray) : Nat := l.findIdx fun r => !ltK r.key k
theorem putRow_idx : ∀ (l : List MRow) (r : MRow), putRow l r = if (l[rowIdx l r.key]?.map (·.key)) = some r.key then l.set (rowIdx l r.key) r else l.take (rowIdx l r.key) ++ r :: l.drop (rowIdx l r.key)
  | [], r => by simp [putRow, rowIdx]
  | x :: l, r => by
    unfold putRow
    cases hlt : ltK x.key r.key with
    | true =>
      have e : rowIdx (x :: l) r.key = rowIdx l r.key + 1 := by simp [rowIdx, List.findIdx_cons, hlt]
      rw [e, putRow_idx l r]
      simp only [if_true, List.getElem?_cons_succ, List.set_cons_succ, List.take_succ_cons, List.drop_succ_cons, List.cons_append]
      split <;> rfl
    | false =>
      have e : rowIdx (x :: l) r.key = 0 := by simp [rowIdx, List.findIdx_cons, hlt]
      rw [e]
      by_cases hk : x.key = r.key <;> simp [hk]
theorem putWrite_idx : ∀ (l : List MWrite) (r : MWrite), putWrite l r = if (l[writeIdx l r.key]?.map (·.key)) = some r.key then l.set (writeIdx l r.key) r else l.take (writeIdx l r.key) ++ r :: l.drop (writeIdx l r.key)
  | [], r => by simp [putWrite, writeIdx]
  | x :: l, r => by
    unfold putWrite
    cases hlt : ltK x.key r.key with
    | true =>
      have e : writeIdx (x :: l) r.key = writeIdx l r.key + 1 := by simp [writeIdx, List.findIdx_cons, hlt]
      rw [e, putWrite_idx l r]
      simp only [if_true, List.getElem?_cons_succ, List.set_cons_succ, List.take_succ_cons, List.drop_succ_cons, List.cons_append]
      split <;> rfl
    | false =>
      have e : writeIdx (x :: l) r.key = 0 := by simp [writeIdx, List.findIdx_cons, hlt]
      rw [e]
      by_cases hk : x.key = r.key <;> simp [hk]
theorem rowAt_idx : ∀ {l : List MRow} {k : ByteArray}, (l.Pairwise fun a b => ltK a.key b.key = true) → rowAt l k = (l[rowIdx l k]?).filter fun r => decide (r.key = k)
  | [], k, _ => by simp [rowAt, rowIdx]
  | x :: l, k, h => by
    obtain ⟨h1, h2⟩ := List.pairwise_cons.1 h
    cases hlt : ltK x.key k with
    | true =>
      have e : rowIdx (x :: l) k = rowIdx l k + 1 := by simp [rowIdx, List.findIdx_cons, hlt]
      rw [e, List.getElem?_cons_succ, ← rowAt_idx h2]
      simp [rowAt, ltK_ne hlt]
    | false =>
      have e : rowIdx (x :: l) k = 0 := by simp [rowIdx, List.findIdx_cons, hlt]
      rw [e]
      by_cases hk : x.key = k
      · simp [rowAt, hk, Option.filter]
      · have hgt : ltK k x.key = true := by
          cases hg : ltK k x.key with
          | true => rfl
          | false => exact absurd (ltK_total hlt hg) hk
        have : rowAt (x :: l) k = none := by
          unfold rowAt
          rw [List.find?_eq_none]
          intro y hy
          rcases List.mem_cons.1 hy with rfl | hy
          · simpa using hk
          · simpa using (ltK_ne (ltK_trans hgt (h1 y hy))).symm
        rw [this]
        simp [hk, Option.filter]
theorem writeOf_idx : ∀ {l : List MWrite} {k : ByteArray}, (l.Pairwise fun a b => ltK a.key b.key = true) → writeOf l k = (l[writeIdx l k]?).filter fun r => decide (r.key = k)
  | [], k, _ => by simp [writeOf, writeIdx]
  | x :: l, k, h => by
    obtain ⟨h1, h2⟩ := List.pairwise_cons.1 h
    cases hlt : ltK x.key k with
    | true =>
      have e : writeIdx (x :: l) k = writeIdx l k + 1 := by simp [writeIdx, List.findIdx_cons, hlt]
      rw [e, List.getElem?_cons_succ, ← writeOf_idx h2]
      simp [writeOf, ltK_ne hlt]
    | false =>
      have e : writeIdx (x :: l) k = 0 := by simp [writeIdx, List.findIdx_cons, hlt]
      rw [e]
      by_cases hk : x.key = k
      · simp [writeOf, hk, Option.filter]
      · have hgt : ltK k x.key = true := by
          cases hg : ltK k x.key with
          | true => rfl
          | false => exact absurd (ltK_total hlt hg) hk
        have : writeOf (x :: l) k = none := by
          unfold writeOf
          rw [List.find?_eq_none]
          intro y hy
          rcases List.mem_cons.1 hy with rfl | hy
          · simpa using hk
          · simpa using (ltK_ne (ltK_trans hgt (h1 y hy))).symm
        rw [this]
        simp [hk, Option.filter]
end Go.Proofs.Ytniomgngiiiklab

/- What the reference's ways come to: fail, resolve, a row with its key; no program in sight. -/
namespace Go.Proofs.Ytniomgngiiiklab
open Go.RowKit

section
variable {clock : Int} {l : List MRow} {k : ByteArray} {st : Int}
/-- The row of a key, an empty one, if there is none. -/
theorem rv_some {r : MRow} (h : rowAt l k = some r) : rv l k = r := by unfold rv; rw [h]; rfl
theorem rv_none (h : rowAt l k = none) : rv l k = emptyRow k := by unfold rv; rw [h]; rfl
/-- The reference fails where its row's lock is the transaction's. -/
theorem failStep_ref (h : RowsVal clock l) (hs : timeB st = true) (x : MWrite) : failStep st l x = if (rv l x.key).ls = st then (undoAt l x.key st).1 else l := by
  have h1 := statusAt_one (l := l) (k := x.key) h hs
  have hst : st ≠ 0 := by
    unfold timeB inB at hs
    simp at hs; omega
  unfold failStep
  by_cases e : (rv l x.key).ls = st
  · rw [if_pos e, if_pos (h1.2 ⟨(rv l x.key).lp, (rv l x.key).value, by rw [← e]; exact ⟨by rw [e]; exact hst, rfl, rfl, rfl⟩⟩)]
  · rw [if_neg e, if_neg fun h2 => by
      obtain ⟨p, v, h3⟩ := h1.1 h2
      exact e h3.2.1]
theorem failRows_snoc2 {ws : List MWrite} {x : MWrite} : failRows l (ws ++ [x]) st = failStep st (failRows l ws st) x := by
  unfold failRows
  rw [List.foldl_append]; rfl
/-- What is done at a row, said of the row that the reference finds. -/
theorem atRow_ref {f : MRow → MRow} {e : MRow → Int} (hl : l.length ≤ 40) : atRow l k f e = if (rowAt l k).isNone = true ∧ 40 ≤ l.length then (l, 1) else if e (rv l k) = 0 then (putRow l (f (rv l k)), 0) else (l, e (rv l k)) := by
  unfold atRow
  cases h : rowAt l k with
  | some r =>
    rw [rv_some h]
    have e1 : ¬ ((some r).isNone = true ∧ 40 ≤ l.length) := by simp
    exact (if_neg e1).symm
  | none =>
    rw [rv_none h]
    by_cases h40 : l.length = 40
    · have e1 : ((none : Option MRow).isNone = true ∧ 40 ≤ l.length) := ⟨rfl, by omega⟩
      exact (if_pos h40).trans (if_pos e1).symm
    · have e1 : ¬ ((none : Option MRow).isNone = true ∧ 40 ≤ l.length) := by omega
      exact (if_neg h40).trans (if_neg e1).symm
theorem keyB_lp {r : MRow} (hg : RowGood r) (h : r.ls ≠ 0) : keyB r.lp = true := (hg.lock h).2.2.1
end
end Go.Proofs.Ytniomgngiiiklab

/- The ways of the reference's undo, failed, stepped, resolved, said of the model; no program in sight. -/
namespace Go.Proofs.Ytniomgngiiiklab
open Go.RowKit

section
variable {clock : Int} {l : List MRow} {k : ByteArray} {st cm : Int}
/-- A row is wanting, and there is no room for one more. -/
def fullAt (l : List MRow) (k : ByteArray) : Prop := rowAt l k = none ∧ 40 ≤ l.length
theorem atRow_full {f : MRow → MRow} {e : MRow → Int} (hl : l.length ≤ 40) (h : fullAt l k) : atRow l k f e = (l, 1) := by
  rw [atRow_ref hl, if_pos ⟨by rw [h.1]; rfl, h.2⟩]
theorem atRow_bad {f : MRow → MRow} {e : MRow → Int} (hl : l.length ≤ 40) (h : ¬ fullAt l k) (he : e (rv l k) ≠ 0) : atRow l k f e = (l, e (rv l k)) := by
  rw [atRow_ref hl, if_neg fun h' => h ⟨by simpa using h'.1, h'.2⟩, if_neg he]
theorem atRow_ok {f : MRow → MRow} {e : MRow → Int} (hl : l.length ≤ 40) (h : ¬ fullAt l k) (he : e (rv l k) = 0) : atRow l k f e = (putRow l (f (rv l k)), 0) := by
  rw [atRow_ref hl, if_neg fun h' => h ⟨by simpa using h'.1, h'.2⟩, if_pos he]
theorem failRows_more {ws : List MWrite} {j : Nat} {x : MWrite} (hx : ws[j]? = some x) : failRows l (ws.take (j + 1)) st = failStep st (failRows l (ws.take j) st) x := by
  obtain ⟨hj, rfl⟩ := List.getElem?_eq_some_iff.1 hx
  rw [← failRows_snoc2, List.take_succ_eq_append_getElem hj]

/-! ### resolved -/
theorem res_form (h : keyB k = false) : resolveR l k = (l, 4) := by unfold resolveR; rw [if_pos h]
theorem res_none (h : keyB k = true) (h0 : (rv l k).ls = 0) : resolveR l k = (l, 5) := by
  unfold resolveR
  rw [if_neg (by rw [h]; decide)]
  cases hr : rowAt l k with
  | none => rfl
  | some r => rw [rv_some hr] at h0; dsimp only; rw [if_pos h0]
theorem rowAt_locked (h0 : (rv l k).ls ≠ 0) : rowAt l k = some (rv l k) := by
  cases hr : rowAt l k with
  | none => rw [rv_none hr] at h0; exact absurd rfl h0
  | some r => rw [rv_some hr]
/-- The state of a transaction at a row, there or not. -/
theorem status_rv (hv : RowsVal clock l) (hs : timeB st = true) (hk : keyB k = true) : statusAt l k st = ((statusF (rv l k) st).1, (statusF (rv l k) st).2.1) ∧ (statusF (rv l k) st).2.2 = 0 := by
  have hg : rowB (rv l k) = true := by
    cases hr : rowAt l k with
    | none =>
      rw [rv_none hr]
      unfold rowB headB lockB emptyRow
      simp [hk, recsFold, tailB]
      exact ⟨by decide, rfl⟩
    | some r => rw [rv_some hr]; exact rowB_iff.2 (hv.each r (rowAt_mem hr).1).1
  refine ⟨?_, ?_⟩
  · unfold statusAt
    cases hr : rowAt l k with
    | none =>
      rw [rv_none hr]
      rw [rv_none hr] at hg
      rw [statusF_of hg hs]
      have h0 : (emptyRow k).ls ≠ st := by
        have := (timeB_bounds hs).1
        show (0 : Int) ≠ st
        omega
      rw [if_neg h0]
      rfl
    | some r => rw [rv_some hr]
  · rw [statusF_of hg hs]
    split
    · rfl
    · split
      · rfl
      · split <;> rfl
theorem res_locked (hv : RowsVal clock l) (h0 : (rv l k).ls ≠ 0) :
    RowGood (rv l k) ∧ timeB (rv l k).ls = true ∧ keyB (rv l k).lp = true ∧ (rv l k).ls ≤ clock := by
  have hr := rowAt_locked h0
  have hg := hv.each _ (rowAt_mem hr).1
  have hl := hg.1.lock h0
  exact ⟨hg.1, timeB_of hl.1 hl.2.1, hl.2.2.1, hg.2.1⟩
theorem res_commit (hv : RowsVal clock l) (h : keyB k = true) (h0 : (rv l k).ls ≠ 0) (h2 : (statusF (rv l (rv l k).lp) (rv l k).ls).1 = 2) :
    resolveR l k = (putRow l (commitRow (rv l k) (rv l k).ls (statusF (rv l (rv l k).lp) (rv l k).ls).2.1), 0) ∧ commitCode (rv l k) (rv l k).ls (statusF (rv l (rv l k).lp) (rv l k).ls).2.1 = 0 := by
  obtain ⟨hg, ht, hp, hle⟩ := res_locked hv h0
  have hs := (status_rv hv ht hp).1
  have hr := rowAt_locked h0
  have hb := status_bound (l := l) (k := (rv l k).lp) hv (st := (rv l k).ls) (by rw [hs]; exact h2)
  rw [hs] at hb
  have hcc : commitCode (rv l k) (rv l k).ls (statusF (rv l (rv l k).lp) (rv l k).ls).2.1 = 0 := commitCode_mk (rowB_iff.2 hg) ht hb.1 hb.2.2 rfl
  refine ⟨?_, hcc⟩
  unfold resolveR
  rw [if_neg (by rw [h]; decide), hr]
  dsimp only
  rw [if_neg h0, hs, if_pos h2]
  unfold atRow
  rw [hr]
  dsimp only
  rw [if_pos hcc]
theorem res_undo (hv : RowsVal clock l) (h : keyB k = true) (h0 : (rv l k).ls ≠ 0) (h2 : (statusF (rv l (rv l k).lp) (rv l k).ls).1 ≠ 2) :
    resolveR l k = if (undoAt l (rv l k).lp (rv l k).ls).2 ≠ 0 then (l, (undoAt l (rv l k).lp (rv l k).ls).2) else undoAt (undoAt l (rv l k).lp (rv l k).ls).1 k (rv l k).ls := by
  obtain ⟨hg, ht, hp, hle⟩ := res_locked hv h0
  have hs := (status_rv hv ht hp).1
  have hr := rowAt_locked h0
  unfold resolveR
  rw [if_neg (by rw [h]; decide), hr]
  dsimp only
  rw [if_neg h0, hs, if_neg h2]

/-! ### stepped -/
variable {w : MWorld} {c : Nat} {x : MClient}
theorem step_idle (h : x.phase = 0) : stepM w c x = (w, 6, 0) := by unfold stepM; rw [if_pos h]
/-- A client that does something: what is known of it. -/
structure Works (x : MClient) : Prop where
  one : x.phase = 1 ∨ x.phase = 2 ∨ x.phase = 3 ∨ x.phase = 4
  open_ : x.phase = 1 → x.at_ = 0
  some_ : x.phase ≠ 1 → 0 < x.writes.length
  at0 : 0 ≤ x.at_
  at1 : x.at_ ≤ x.writes.length
  late : 3 ≤ x.phase → x.at_ < x.writes.length
theorem works_of (hx : clientB x clock = true) (h : x.phase ≠ 0) : Works x := by
  unfold clientB at hx
  simp only [Bool.and_eq_true, decide_eq_true_eq] at hx
  obtain ⟨_, _, h1⟩ := hx
  rw [if_neg h] at h1
  by_cases e1 : x.phase = 1
  · rw [if_pos e1] at h1; simp only [decide_eq_true_eq] at h1
    exact ⟨.inl e1, fun _ => h1.2.2, fun h => absurd e1 h, by omega, by omega, fun h => by omega⟩
  rw [if_neg e1] at h1
  by_cases e2 : x.phase = 2
  · rw [if_pos e2] at h1; simp only [decide_eq_true_eq] at h1
    exact ⟨.inr (.inl e2), fun h => absurd h e1, fun _ => h1.2.2.2.2, by omega, by omega, fun h => by omega⟩
  rw [if_neg e2] at h1
  by_cases e3 : x.phase = 3
  · rw [if_pos e3] at h1; simp only [decide_eq_true_eq] at h1
    exact ⟨.inr (.inr (.inl e3)), fun h => absurd h e1, fun _ => h1.2.2.2, by omega, by omega, fun _ => by omega⟩
  rw [if_neg e3] at h1
  by_cases e4 : x.phase = 4
  · rw [if_pos e4] at h1; simp only [decide_eq_true_eq] at h1
    exact ⟨.inr (.inr (.inr e4)), fun h => absurd h e1, fun _ => by omega, by omega, by omega, fun _ => by omega⟩
  rw [if_neg e4] at h1; cases h1
theorem step_empty (hw : Works x) (h : x.writes.length = 0) : stepM w c x = (setC w c zeroClient, 0, 0) := by
  have h1 : x.phase = 1 := by
    by_cases e : x.phase = 1
    · exact e
    · have := hw.some_ e; omega
  unfold stepM
  rw [if_neg (by omega), if_pos ⟨h1, h⟩]
theorem step_seal (hw : Works x) (h0 : x.writes.length ≠ 0) (hp : x.phase ≤ 2) (ha : x.at_ = x.writes.length) : stepM w c x = ({ w with clock := w.clock + 1, clients := w.clients.set c { x with phase := 3, at_ := 0, commit := w.clock + 1 } }, 0, w.clock + 1) := by
  have h2 : x.phase = 2 := by
    have := hw.one
    have := hw.open_
    omega
  unfold stepM
  rw [if_neg (by omega), if_neg (by omega), if_neg (by omega), if_neg (by omega), if_pos h2]
theorem step_lock (hw : Works x) (h0 : x.writes.length ≠ 0) (hp : x.phase ≤ 2) (ha : x.at_ ≠ x.writes.length) : stepM w c x = ((lockM w c { x with phase := 2 }).1, (lockM w c { x with phase := 2 }).2, 0) := by
  have h1 := hw.one
  have hle := hw.at1
  unfold stepM
  rw [if_neg (by omega), if_neg (by omega)]
  by_cases e : x.phase = 1
  · rw [if_pos e]
  · have h2 : x.phase = 2 := by omega
    have ex : { x with phase := 2 } = x := by cases x; dsimp only at h2; subst h2; rfl
    rw [if_neg e, if_pos ⟨h2, by omega⟩, ex]
theorem step_close (hp : 3 ≤ x.phase) : stepM w c x = ((closeM w c x).1, (closeM w c x).2, 0) := by
  unfold stepM
  rw [if_neg (by omega), if_neg (by omega), if_neg (by omega), if_neg (by omega), if_neg (by omega)]
end
end Go.Proofs.Ytniomgngiiiklab

/- What the reference's stepped and DidOf come to, way by way, said of the model; no program in sight. -/
namespace Go.Proofs.Ytniomgngiiiklab
open Go.RowKit

section
variable {clock : Int} {l : List MRow} {k : ByteArray} {st cm : Int}
theorem commit_empty : commitCode (emptyRow k) st cm ≠ 0 := fun h => by
  obtain ⟨_, ht, _, _, hl⟩ := commitCode_ok h
  have := (timeB_bounds ht).1
  have h0 : (0 : Int) = st := hl
  omega
variable {w : MWorld} {c : Nat} {x : MClient}
theorem close_ok (hl : l.length ≤ 40) (h : commitCode (rv l (writeNo x x.at_).key) x.start x.commit = 0) : closeAt l x = (putRow l (commitRow (rv l (writeNo x x.at_).key) x.start x.commit), 0) :=
  atRow_ok hl (fun hf => by rw [rv_none hf.1] at h; exact commit_empty h) h
theorem close_bad (hl : l.length ≤ 40) (h : commitCode (rv l (writeNo x x.at_).key) x.start x.commit ≠ 0) : (closeAt l x).2 ≠ 0 ∧ (closeAt l x).1 = l := by
  have h1 : (closeAt l x).2 ≠ 0 := by
    by_cases hf : fullAt l (writeNo x x.at_).key
    · have e : closeAt l x = (l, 1) := atRow_full hl hf
      rw [e]; show (1 : Int) ≠ 0; decide
    · have e : closeAt l x = (l, commitCode (rv l (writeNo x x.at_).key) x.start x.commit) := atRow_bad hl hf h
      rw [e]; exact h
  exact ⟨h1, atRow_miss h1⟩
/-- What the reference's lock answers. -/
def lockAns (l : List MRow) (x : MClient) (y0 y : MWrite) : Int := if (rowAt l y.key).isSome = false ∧ 40 ≤ l.length then 1 else lockCode (rv l y.key) x.start y0.key y.value
theorem lockAt_ref (hl : l.length ≤ 40) {y0 y : MWrite} (h0 : writeNo x 0 = y0) (hy : writeNo x x.at_ = y) :
    lockAt l x = if lockAns l x y0 y = 0 then (putRow l (lockRow (rv l y.key) x.start y0.key y.value), 0) else (l, lockAns l x y0 y) := by
  have hs : (rowAt l y.key).isSome = false ↔ (rowAt l y.key).isNone = true := by cases rowAt l y.key <;> simp
  unfold lockAt
  rw [h0, hy, atRow_ref hl]
  by_cases hf : (rowAt l y.key).isNone = true ∧ 40 ≤ l.length
  · have e : lockAns l x y0 y = 1 := by unfold lockAns; exact if_pos ⟨hs.2 hf.1, hf.2⟩
    rw [if_pos hf, e]; rfl
  · have e : lockAns l x y0 y = lockCode (rv l y.key) x.start y0.key y.value := by unfold lockAns; exact if_neg fun h => hf ⟨hs.1 h.1, h.2⟩
    rw [if_neg hf, e]
theorem step_lock_ok (hw : Works x) (hl : w.rows.length ≤ 40) (h0 : x.writes.length ≠ 0) (hp : x.phase ≤ 2) (ha : x.at_ ≠ x.writes.length) {y0 y : MWrite} (e0 : writeNo x 0 = y0) (ey : writeNo x x.at_ = y) (h : lockAns w.rows x y0 y = 0) :
    stepM w c x = ({ w with rows := putRow w.rows (lockRow (rv w.rows y.key) x.start y0.key y.value), clients := w.clients.set c { x with phase := 2, at_ := x.at_ + 1 } }, 0, 0) := by
  rw [step_lock hw h0 hp ha]
  have e : lockAt w.rows { x with phase := 2 } = _ := lockAt_ref (x := { x with phase := 2 }) hl e0 ey
  rw [if_pos (show lockAns w.rows { x with phase := 2 } y0 y = 0 from h)] at e
  unfold lockM
  rw [e, if_pos rfl]
theorem step_lock_busy (hw : Works x) (hl : w.rows.length ≤ 40) (h0 : x.writes.length ≠ 0) (hp : x.phase ≤ 2) (ha : x.at_ ≠ x.writes.length) {y0 y : MWrite} (e0 : writeNo x 0 = y0) (ey : writeNo x x.at_ = y) (h : lockAns w.rows x y0 y = 7) :
    stepM w c x = (setC w c { x with phase := 2 }, 7, 0) := by
  rw [step_lock hw h0 hp ha]
  have e : lockAt w.rows { x with phase := 2 } = _ := lockAt_ref (x := { x with phase := 2 }) hl e0 ey
  have h7 : lockAns w.rows { x with phase := 2 } y0 y = 7 := h
  rw [if_neg (by rw [h7]; decide), h7] at e
  unfold lockM
  rw [e, if_neg (show ¬ (7 : Int) = 0 by decide), if_pos rfl]
theorem failM_setC {x' : MClient} : failM (setC w c x') c x = failM w c x := by
  unfold failM setC
  simp
theorem step_lock_bad (hw : Works x) (hl : w.rows.length ≤ 40) (h0 : x.writes.length ≠ 0) (hp : x.phase ≤ 2) (ha : x.at_ ≠ x.writes.length) {y0 y : MWrite} (e0 : writeNo x 0 = y0) (ey : writeNo x x.at_ = y) (h : lockAns w.rows x y0 y ≠ 0) (h7 : lockAns w.rows x y0 y ≠ 7) :
    stepM w c x = (failM (setC w c { x with phase := 2 }) c { x with phase := 2 }, lockAns w.rows x y0 y, 0) := by
  rw [step_lock hw h0 hp ha, failM_setC]
  have e : lockAt w.rows { x with phase := 2 } = _ := lockAt_ref (x := { x with phase := 2 }) hl e0 ey
  rw [if_neg (show ¬ lockAns w.rows { x with phase := 2 } y0 y = 0 from h)] at e
  have e2 : lockAns w.rows { x with phase := 2 } y0 y = lockAns w.rows x y0 y := rfl
  rw [e2] at e
  unfold lockM
  rw [e, if_neg h, if_neg h7]
/-- The client behind a closing step. -/
def closedC (x : MClient) : MClient := if x.at_ + 1 = x.writes.length then zeroClient else { x with phase := 4, at_ := x.at_ + 1 }
theorem step_close_ok (hp : 3 ≤ x.phase) (hl : w.rows.length ≤ 40) {y : MWrite} (ey : writeNo x x.at_ = y) (h : commitCode (rv w.rows y.key) x.start x.commit = 0) :
    stepM w c x = ({ w with rows := putRow w.rows (commitRow (rv w.rows y.key) x.start x.commit), clients := w.clients.set c (closedC x) }, 0, 0) := by
  rw [step_close hp]
  have e := close_ok (x := x) hl (by rw [ey]; exact h)
  rw [ey] at e
  unfold closeM closedC
  rw [e, if_neg (by simp)]
theorem step_close_gone (hp : 3 ≤ x.phase) (hl : w.rows.length ≤ 40) {y : MWrite} (ey : writeNo x x.at_ = y) (h : commitCode (rv w.rows y.key) x.start x.commit ≠ 0) (ha : x.at_ = 0) :
    stepM w c x = (failM w c x, 9, 0) := by
  rw [step_close hp]
  have e := close_bad (x := x) hl (by rw [ey]; exact h)
  unfold closeM
  rw [if_pos ⟨ha, e.1⟩]
theorem step_close_late (hp : 3 ≤ x.phase) (hl : w.rows.length ≤ 40) {y : MWrite} (ey : writeNo x x.at_ = y) (h : commitCode (rv w.rows y.key) x.start x.commit ≠ 0) (ha : x.at_ ≠ 0) :
    stepM w c x = (setC w c (closedC x), 0, 0) := by
  rw [step_close hp]
  have e := close_bad (x := x) hl (by rw [ey]; exact h)
  unfold closeM closedC setC
  rw [if_neg (fun h => ha h.1), e.2]

/-! ### acts -/
theorem doM_ok {a : MAct} {p : MWorld × MAns} {C : Nat} (h : doCode w a = 0) (hC : a.c = C) (hp : actM w a C (clientAt w C) = p) : doM w a = (p.1, { p.2 with phase := (clientAt p.1 C).phase }, 0) := by
  have e : a.c.toNat = C := by omega
  unfold doM
  rw [if_pos h, e, hp]
theorem act_begin {a : MAct} (hk : a.kind = 1) (hp : x.phase = 0) : actM w a c x = ({ w with clock := w.clock + 1, clients := w.clients.set c ⟨1, w.clock + 1, 0, [], 0⟩ }, { zeroAns with time := w.clock + 1 }) := by
  unfold actM
  rw [if_neg (by omega), if_pos hk]
theorem act_state {a : MAct} (h : (a.kind = 1 ∧ x.phase ≠ 0) ∨ ((a.kind = 2 ∨ a.kind = 3) ∧ x.phase ≠ 1) ∨ (a.kind = 5 ∧ x.phase = 0)) : actM w a c x = (w, { zeroAns with code := 6 }) := by
  unfold actM
  rw [if_pos h]
theorem act_get {a : MAct} (hk : a.kind = 2) (hp : x.phase = 1) : actM w a c x = (w, { zeroAns with code := (getM w x a.key).2.2, value := (getM w x a.key).1, is := (getM w x a.key).2.1 }) := by
  unfold actM
  rw [if_neg (by omega), if_neg (by omega), if_pos hk]
theorem act_put {a : MAct} (hk : a.kind = 3) (hp : x.phase = 1) : actM w a c x = ((putM w c x a.key a.value).1, { zeroAns with code := (putM w c x a.key a.value).2 }) := by
  unfold actM
  rw [if_neg (by omega), if_neg (by omega), if_neg (by omega), if_pos hk]
theorem act_step {a : MAct} (hk : a.kind = 4) : actM w a c x = ((stepM w c x).1, { zeroAns with code := (stepM w c x).2.1, time := (stepM w c x).2.2 }) := by
  unfold actM
  rw [if_neg (by omega), if_neg (by omega), if_neg (by omega), if_neg (by omega), if_pos hk]
theorem act_drop {a : MAct} (hk : a.kind = 5) (hp : x.phase ≠ 0) : actM w a c x = (setC w c zeroClient, zeroAns) := by
  unfold actM
  rw [if_neg (by omega), if_neg (by omega), if_neg (by omega), if_neg (by omega), if_neg (by omega), if_pos hk]
theorem act_resolve {a : MAct} (hk : a.kind = 6) : actM w a c x = ({ w with rows := (resolveR w.rows a.key).1 }, { zeroAns with code := (resolveR w.rows a.key).2 }) := by
  unfold actM
  rw [if_neg (by omega), if_neg (by omega), if_neg (by omega), if_neg (by omega), if_neg (by omega), if_neg (by omega)]
theorem setC_zero (hx : w.clients[c]? = some x) (hb : clientB x clock = true) (hp : x.phase = 0) : setC w c zeroClient = w := by
  have e := idle_of hb hp
  subst e
  obtain ⟨h, e⟩ := List.getElem?_eq_some_iff.1 hx
  unfold setC
  have : w.clients.set c zeroClient = w.clients := by rw [← e]; exact List.set_getElem_self h
  rw [this]
theorem put_len_none {ws : List MWrite} {y : MWrite} : (∀ z ∈ ws, z.key ≠ y.key) → (putWrite ws y).length = ws.length + 1 := by
  induction ws with
  | nil => intro _; rfl
  | cons z ws ih =>
    intro h
    unfold putWrite
    split
    · simp [ih fun q hq => h q (List.mem_cons_of_mem _ hq)]
    · rw [if_neg (h z List.mem_cons_self)]; simp
theorem put_full {ws : List MWrite} {k v : ByteArray} (hg : WritesGood ws) (hl : ws.length ≤ 6) : ((writeOf ws k).isNone = true ∧ ws.length = 6) ↔ 6 < (putWrite ws ⟨k, v⟩).length := by
  cases h : writeOf ws k with
  | none =>
    have := put_len_none (y := ⟨k, v⟩) (writeOf_none h)
    rw [this]
    simp; omega
  | some z =>
    obtain ⟨hz, hk⟩ := writeOf_mem h
    have := length_putWrite_some (r := ⟨k, v⟩) hg.2 ⟨z, hz, hk⟩
    rw [this]
    simp; omega
theorem put_form {v : ByteArray} (h : keyB k = false) : putM w c x k v = (w, 4) := by unfold putM; rw [if_pos h]
theorem put_big {v : ByteArray} (h : keyB k = true) (hg : WritesGood x.writes) (hl : x.writes.length ≤ 6) (hv : 20 < v.size ∨ 6 < (putWrite x.writes ⟨k, v⟩).length) : putM w c x k v = (w, 1) := by
  unfold putM
  rw [if_neg (by rw [h]; decide)]
  by_cases h20 : 20 < v.size
  · rw [if_pos h20]
  · rw [if_neg h20, if_pos ((put_full hg hl).2 (hv.resolve_left h20))]
theorem put_ok {v : ByteArray} (h : keyB k = true) (hg : WritesGood x.writes) (hl : x.writes.length ≤ 6) (hv : ¬ 20 < v.size) (h6 : ¬ 6 < (putWrite x.writes ⟨k, v⟩).length) : putM w c x k v = (setC w c { x with writes := putWrite x.writes ⟨k, v⟩ }, 0) := by
  unfold putM
  rw [if_neg (by rw [h]; decide), if_neg hv, if_neg fun h' => h6 ((put_full hg hl).1 h')]
theorem get_form (h : keyB k = false) : getM w x k = (⟨#[]⟩, false, 4) := by unfold getM; rw [if_pos h]
theorem get_own (h : keyB k = true) {y : MWrite} (hy : writeOf x.writes k = some y) : getM w x k = (y.value, true, 0) := by
  unfold getM; rw [if_neg (by rw [h]; decide), hy]
theorem get_none (h : keyB k = true) (hy : writeOf x.writes k = none) (hr : rowAt w.rows k = none) : getM w x k = (⟨#[]⟩, false, 0) := by
  unfold getM; rw [if_neg (by rw [h]; decide), hy, hr]
theorem get_row (h : keyB k = true) (hy : writeOf x.writes k = none) {r : MRow} (hr : rowAt w.rows k = some r) : getM w x k = readF (rv w.rows k) x.start := by
  unfold getM; rw [if_neg (by rw [h]; decide), hy, hr, rv_some hr]
end
end Go.Proofs.Ytniomgngiiiklab

/- What txn.Run hands back, plainly; no program in sight. -/
namespace Go.Proofs.Ytniomgngiiiklab
open Go.RowKit

/-- What txn.Run hands back. -/
def runAll (n : Int) (l : List MAct) : List MAns × MWorld × Int := if runCode n l = 0 then ((runM n.toNat l).1, (runM n.toNat l).2, 0) else ([], zeroWorld, runCode n l)
section
variable {n : Nat} {l : List MAct}
theorem runAll_ok (h1 : 1 ≤ n) (h5 : n ≤ 5) (hl : l.length ≤ 400) : runAll n l = ((runM n l).1, (runM n l).2, 0) := by
  have e : runCode n l = 0 := by unfold runCode; rw [if_neg (by omega), if_neg (by omega)]
  unfold runAll
  rw [if_pos e, Int.toNat_natCast]
theorem runAll_acts (h1 : 1 ≤ n) (h5 : n ≤ 5) (hl : l.length ≤ 400) (ha : ∀ a ∈ l, ActOk n a) : runAll n l = (ansFrom (startW n) l, l.foldl stepW (startW n), 0) := by
  rw [runAll_ok h1 h5 hl, run_ok h5 hl ha]
theorem runAll_bad {n : Int} {c : Int} (h : runCode n l = c) (h0 : c ≠ 0) : runAll n l = ([], zeroWorld, c) := by
  unfold runAll
  rw [h, if_neg h0]
theorem runCode_low (l : List MAct) : runAll 0 l = ([], zeroWorld, 2) := runAll_bad (by unfold runCode; rw [if_pos (.inl (by decide))]) (by decide)
theorem runCode_long (h1 : 1 ≤ n) (h5 : n ≤ 5) (hl : 400 < l.length) : runAll n l = ([], zeroWorld, 1) := runAll_bad (by unfold runCode; rw [if_neg (by omega), if_pos hl]) (by decide)
end
end Go.Proofs.Ytniomgngiiiklab

/- What Do and Run leave is a world of a size that there is. No walk. -/
namespace Go.Proofs.Ytniomgngiiiklab
open Go.RowKit

theorem zero_good : WorldGood zeroWorld := startW_good (n := 0) (by decide)
theorem do_good {M : MWorld} {a : MAct} : WorldGood (doM M a).1 := by
  by_cases h : doCode M a = 0
  · exact doM_good h
  · have e : (doM M a).1 = zeroWorld := by unfold doM; rw [if_neg h]
    rw [e]; exact zero_good
theorem runStep_good {p : List MAns × MWorld} {a : MAct} (h : WorldGood p.2) : WorldGood (runStep p a).2 := by
  unfold runStep
  split
  · exact do_good
  · exact h
theorem run_good_from : ∀ {l : List MAct} {p : List MAns × MWorld}, WorldGood p.2 → WorldGood (l.foldl runStep p).2
  | [], _, h => h
  | a :: l, p, h => by
    have h2 := run_good_from (l := l) (runStep_good (a := a) h)
    exact h2
theorem runAll_good {n : Int} {l : List MAct} : WorldGood (runAll n l).2.1 := by
  by_cases h : runCode n l = 0
  · have h5 : n.toNat ≤ 5 := by
      unfold runCode at h
      split at h
      · cases h
      · omega
    unfold runAll
    rw [if_pos h]
    exact run_good_from (startW_good h5)
  · rw [runAll_bad rfl h]; exact zero_good
theorem run_length_from : ∀ {l : List MAct} {p : List MAns × MWorld}, (l.foldl runStep p).1.length = p.1.length + l.length
  | [], _ => rfl
  | a :: l, p => by
    have h := run_length_from (l := l) (p := runStep p a)
    have e : (runStep p a).1.length = p.1.length + 1 := by unfold runStep; split <;> simp
    show (l.foldl runStep (runStep p a)).1.length = _
    rw [h, e, List.length_cons]; omega
theorem runAll_length {n : Int} {l : List MAct} : (runAll n l).1.length ≤ 400 := by
  by_cases h : runCode n l = 0
  · have hl : l.length ≤ 400 := by
      unfold runCode at h
      split at h
      · cases h
      · split at h
        · cases h
        · omega
    unfold runAll
    rw [if_pos h]
    show (l.foldl runStep _).1.length ≤ 400
    rw [run_length_from]
    show 0 + l.length ≤ 400
    omega
  · rw [runAll_bad rfl h]; exact Nat.zero_le _
end Go.Proofs.Ytniomgngiiiklab
