/- What an act does to a world of rows and clients, as plain functions; no program in sight. -/
import Derived.Test.YtniomgngiiiklaaCheckPlain
import Derived.Test.YtniomgngiiiklaaRead
import Derived.Test.YtniomgngiiiklaaStatus
namespace Go.Proofs.Ytniomgngiiiklaa
open Go.RowKit

/-! ### what row.Commit and row.Undo answer -/
/-- The records with one more, ahead of the first that began later. -/
def insAt (l : List MRec) (x : MRec) : Nat := l.findIdx fun y => decide (x.start < y.start)
def insRecs (l : List MRec) (x : MRec) : List MRec := l.take (insAt l x) ++ x :: l.drop (insAt l x)
def withF (r : MRow) (x : MRec) : MRow := if r.ls = x.start then ⟨r.key, 0, ⟨#[]⟩, ⟨#[]⟩, insRecs r.recs x⟩ else { r with recs := insRecs r.recs x }
def commitCode (r : MRow) (st cm : Int) : Int :=
  if (statusF r st).2.2 ≠ 0 then (statusF r st).2.2 else if cm ≤ st ∨ 1099511627776 < cm then 2 else if (statusF r st).1 = 3 then 9 else if (statusF r st).1 ≠ 1 then 5 else 0
def commitRow (r : MRow) (st cm : Int) : MRow := if commitCode r st cm = 0 then withF r ⟨st, cm, r.value⟩ else zeroRow
def undoCode (r : MRow) (st : Int) : Int :=
  if (statusF r st).2.2 ≠ 0 then (statusF r st).2.2 else if (statusF r st).1 = 2 then 6 else if (statusF r st).1 = 3 then 0
  else if (statusF r st).1 = 0 ∧ (r.recs.length = 100 ∨ (r.ls ≠ 0 ∧ r.recs.length = 99)) then 1 else 0
def undoRow (r : MRow) (st : Int) : MRow := if undoCode r st = 0 then (if (statusF r st).1 = 3 then r else withF r ⟨st, 0, ⟨#[]⟩⟩) else zeroRow

/-! ### the order of keys -/
theorem bytesLess_lt : ∀ x y : List UInt8, Op.bytesLess x y = decide (x < y)
  | [], [] => by simp [Op.bytesLess]
  | [], _ :: _ => by simp [Op.bytesLess]
  | _ :: _, [] => by simp [Op.bytesLess]
  | a :: x, b :: y => by
    rw [Op.bytesLess, bytesLess_lt x y, Bool.eq_iff_iff]
    simp [List.cons_lt_cons_iff]
def ltK (a b : ByteArray) : Bool := Op.bytesLess a.toList b.toList
theorem ltK_irrefl (a : ByteArray) : ltK a a = false := by
  unfold ltK; rw [bytesLess_lt]; simp
theorem ltK_trans {a b c : ByteArray} (h1 : ltK a b = true) (h2 : ltK b c = true) : ltK a c = true := by
  unfold ltK at *; rw [bytesLess_lt] at *; simp only [decide_eq_true_eq] at *
  exact List.lt_trans h1 h2
theorem ltK_asymm {a b : ByteArray} (h1 : ltK a b = true) : ltK b a = false := by
  cases h : ltK b a with
  | false => rfl
  | true => have := ltK_trans h1 h; rw [ltK_irrefl] at this; cases this
theorem toList_inj {a b : ByteArray} (h : a.toList = b.toList) : a = b := by
  rw [ByteArray.toList_eq, ByteArray.toList_eq] at h
  obtain ⟨x⟩ := a; obtain ⟨y⟩ := b
  have : x = y := Array.toList_inj.1 h
  rw [this]
theorem ltK_total {a b : ByteArray} (h1 : ltK a b = false) (h2 : ltK b a = false) : a = b := by
  unfold ltK at *; rw [bytesLess_lt] at *; simp only [decide_eq_false_iff_not, List.not_lt] at *
  exact toList_inj (List.le_antisymm h2 h1)
theorem ltK_ne {a b : ByteArray} (h : ltK a b = true) : a ≠ b := by rintro rfl; rw [ltK_irrefl] at h; cases h

/-! ### rows by their keys -/
def rowAt (l : List MRow) (k : ByteArray) : Option MRow := l.find? fun r => decide (r.key = k)
def emptyRow (k : ByteArray) : MRow := ⟨k, 0, ⟨#[]⟩, ⟨#[]⟩, []⟩
def putRow : List MRow → MRow → List MRow
  | [], r => [r]
  | x :: l, r => if ltK x.key r.key then x :: putRow l r else if x.key = r.key then r :: l else r :: x :: l
/-- Something is done at a row; a new one comes, if it must. -/
def atRow (l : List MRow) (k : ByteArray) (f : MRow → MRow) (e : MRow → Int) : List MRow × Int :=
  match rowAt l k with
  | some r => if e r = 0 then (putRow l (f r), 0) else (l, e r)
  | none => if l.length = 40 then (l, 1) else if e (emptyRow k) = 0 then (putRow l (f (emptyRow k)), 0) else (l, e (emptyRow k))
def undoAt (l : List MRow) (k : ByteArray) (st : Int) : List MRow × Int := atRow l k (fun r => undoRow r st) (fun r => undoCode r st)
def statusAt (l : List MRow) (k : ByteArray) (st : Int) : Int × Int := match rowAt l k with | some r => ((statusF r st).1, (statusF r st).2.1) | none => (0, 0)
def failStep (st : Int) (l : List MRow) (x : MWrite) : List MRow := if (statusAt l x.key st).1 = 1 then (undoAt l x.key st).1 else l
def failRows (l : List MRow) (ws : List MWrite) (st : Int) : List MRow := ws.foldl (failStep st) l

def putWrite : List MWrite → MWrite → List MWrite
  | [], x => [x]
  | y :: l, x => if ltK y.key x.key then y :: putWrite l x else if y.key = x.key then x :: l else x :: y :: l
def writeOf (l : List MWrite) (k : ByteArray) : Option MWrite := l.find? fun x => decide (x.key = k)

/-! ### acts -/
structure MAct where
  kind : Int
  c : Int
  key : ByteArray
  value : ByteArray
structure MAns where
  code : Int
  is : Bool
  value : ByteArray
  phase : Int
  time : Int
def zeroAns : MAns := ⟨0, false, ⟨#[]⟩, 0, 0⟩
def zeroClient : MClient := ⟨0, 0, 0, [], 0⟩
def zeroWorld : MWorld := ⟨[], 0, []⟩
def zeroWrite : MWrite := ⟨⟨#[]⟩, ⟨#[]⟩⟩

def writesB : List MWrite → Bool
  | [] => true
  | [x] => keyB x.key && decide (x.value.size ≤ 20)
  | x :: y :: l => keyB x.key && (decide (x.value.size ≤ 20) && (ltK x.key y.key && writesB (y :: l)))
def clientB (x : MClient) (clock : Int) : Bool :=
  decide (x.writes.length ≤ 6) && (writesB x.writes &&
    if x.phase = 0 then decide (x.start = 0 ∧ x.commit = 0 ∧ x.writes.length = 0 ∧ x.at_ = 0)
    else if x.phase = 1 then decide ((1 ≤ x.start ∧ x.start ≤ clock) ∧ x.commit = 0 ∧ x.at_ = 0)
    else if x.phase = 2 then decide ((1 ≤ x.start ∧ x.start ≤ clock) ∧ x.commit = 0 ∧ 0 ≤ x.at_ ∧ x.at_ ≤ x.writes.length ∧ 0 < x.writes.length)
    else if x.phase = 3 then decide ((1 ≤ x.start ∧ x.start ≤ clock) ∧ (x.start < x.commit ∧ x.commit ≤ clock) ∧ x.at_ = 0 ∧ 0 < x.writes.length)
    else if x.phase = 4 then decide ((1 ≤ x.start ∧ x.start ≤ clock) ∧ (x.start < x.commit ∧ x.commit ≤ clock) ∧ 1 ≤ x.at_ ∧ x.at_ < x.writes.length)
    else false)
def rowIn (clock : Int) (r : MRow) : Bool := rowB r && (decide (r.ls ≤ clock) && r.recs.all fun x => decide (x.start ≤ clock) && decide (x.commit ≤ clock))
def sortedRows : List MRow → Bool
  | [] => true
  | [_] => true
  | x :: y :: l => ltK x.key y.key && sortedRows (y :: l)
/-- Is the world valid? -/
def worldB (w : MWorld) : Bool :=
  decide (w.rows.length ≤ 40) && (decide (w.clients.length ≤ 5) && (decide (0 ≤ w.clock ∧ w.clock ≤ 1099511627376) && (w.rows.all (rowIn w.clock) && (sortedRows w.rows && w.clients.all fun c => clientB c w.clock))))

def clientAt (w : MWorld) (c : Nat) : MClient := w.clients[c]?.getD zeroClient
def setC (w : MWorld) (c : Nat) (x : MClient) : MWorld := { w with clients := w.clients.set c x }
def writeNo (x : MClient) (k : Int) : MWrite := x.writes[k.toNat]?.getD zeroWrite
def failM (w : MWorld) (c : Nat) (x : MClient) : MWorld := { w with rows := failRows w.rows x.writes x.start, clients := w.clients.set c zeroClient }
def lockAt (l : List MRow) (x : MClient) : List MRow × Int :=
  atRow l (writeNo x x.at_).key (fun r => lockRow r x.start (writeNo x 0).key (writeNo x x.at_).value) (fun r => lockCode r x.start (writeNo x 0).key (writeNo x x.at_).value)
def lockM (w : MWorld) (c : Nat) (x : MClient) : MWorld × Int :=
  if (lockAt w.rows x).2 = 0 then ({ w with rows := (lockAt w.rows x).1, clients := w.clients.set c { x with at_ := x.at_ + 1 } }, 0)
  else if (lockAt w.rows x).2 = 7 then (setC w c x, 7) else (failM w c x, (lockAt w.rows x).2)
def closeAt (l : List MRow) (x : MClient) : List MRow × Int :=
  atRow l (writeNo x x.at_).key (fun r => commitRow r x.start x.commit) (fun r => commitCode r x.start x.commit)
def closeM (w : MWorld) (c : Nat) (x : MClient) : MWorld × Int :=
  if x.at_ = 0 ∧ (closeAt w.rows x).2 ≠ 0 then (failM w c x, 9)
  else ({ w with rows := (closeAt w.rows x).1, clients := w.clients.set c (if x.at_ + 1 = x.writes.length then zeroClient else { x with phase := 4, at_ := x.at_ + 1 }) }, 0)
/-- One step of a commit: the world, the code, the time. -/
def stepM (w : MWorld) (c : Nat) (x : MClient) : MWorld × Int × Int :=
  if x.phase = 0 then (w, 6, 0)
  else if x.phase = 1 ∧ x.writes.length = 0 then (setC w c zeroClient, 0, 0)
  else if x.phase = 1 then ((lockM w c { x with phase := 2 }).1, (lockM w c { x with phase := 2 }).2, 0)
  else if x.phase = 2 ∧ x.at_ < x.writes.length then ((lockM w c x).1, (lockM w c x).2, 0)
  else if x.phase = 2 then ({ w with clock := w.clock + 1, clients := w.clients.set c { x with phase := 3, at_ := 0, commit := w.clock + 1 } }, 0, w.clock + 1)
  else ((closeM w c x).1, (closeM w c x).2, 0)
def resolveR (l : List MRow) (k : ByteArray) : List MRow × Int :=
  if keyB k = false then (l, 4) else match rowAt l k with
  | none => (l, 5)
  | some r => if r.ls = 0 then (l, 5)
    else if (statusAt l r.lp r.ls).1 = 2 then atRow l k (fun q => commitRow q r.ls (statusAt l r.lp r.ls).2) (fun q => commitCode q r.ls (statusAt l r.lp r.ls).2)
    else if (undoAt l r.lp r.ls).2 ≠ 0 then (l, (undoAt l r.lp r.ls).2) else undoAt (undoAt l r.lp r.ls).1 k r.ls
def getM (w : MWorld) (x : MClient) (k : ByteArray) : ByteArray × Bool × Int :=
  if keyB k = false then (⟨#[]⟩, false, 4) else match writeOf x.writes k with
  | some y => (y.value, true, 0)
  | none => match rowAt w.rows k with
    | none => (⟨#[]⟩, false, 0)
    | some r => readF r x.start
def putM (w : MWorld) (c : Nat) (x : MClient) (k v : ByteArray) : MWorld × Int :=
  if keyB k = false then (w, 4) else if 20 < v.size then (w, 1)
  else if (writeOf x.writes k).isNone ∧ x.writes.length = 6 then (w, 1)
  else (setC w c { x with writes := putWrite x.writes ⟨k, v⟩ }, 0)
/-- An act of a client: the world, and the answer but for the phase. -/
def actM (w : MWorld) (a : MAct) (c : Nat) (x : MClient) : MWorld × MAns :=
  if (a.kind = 1 ∧ x.phase ≠ 0) ∨ ((a.kind = 2 ∨ a.kind = 3) ∧ x.phase ≠ 1) ∨ (a.kind = 5 ∧ x.phase = 0) then (w, { zeroAns with code := 6 })
  else if a.kind = 1 then ({ w with clock := w.clock + 1, clients := w.clients.set c ⟨1, w.clock + 1, 0, [], 0⟩ }, { zeroAns with time := w.clock + 1 })
  else if a.kind = 2 then (w, { zeroAns with code := (getM w x a.key).2.2, value := (getM w x a.key).1, is := (getM w x a.key).2.1 })
  else if a.kind = 3 then ((putM w c x a.key a.value).1, { zeroAns with code := (putM w c x a.key a.value).2 })
  else if a.kind = 4 then ((stepM w c x).1, { zeroAns with code := (stepM w c x).2.1, time := (stepM w c x).2.2 })
  else if a.kind = 5 then (setC w c zeroClient, zeroAns)
  else ({ w with rows := (resolveR w.rows a.key).1 }, { zeroAns with code := (resolveR w.rows a.key).2 })
/-- txn.Do. -/
def doCode (w : MWorld) (a : MAct) : Int :=
  if worldB w = false then 6 else if a.kind < 1 ∨ 6 < a.kind then 3 else if a.c < 0 ∨ (w.clients.length : Int) ≤ a.c then 2 else if w.clock = 1099511627376 then 1 else 0
def doM (w : MWorld) (a : MAct) : MWorld × MAns × Int :=
  if doCode w a = 0 then
    let p := actM w a a.c.toNat (clientAt w a.c.toNat)
    (p.1, { p.2 with phase := (clientAt p.1 a.c.toNat).phase }, 0)
  else (zeroWorld, zeroAns, doCode w a)
/-- txn.Run. -/
def runStep (p : List MAns × MWorld) (a : MAct) : List MAns × MWorld :=
  if (doM p.2 a).2.2 = 0 then (p.1 ++ [(doM p.2 a).2.1], (doM p.2 a).1) else (p.1 ++ [{ zeroAns with code := (doM p.2 a).2.2 }], p.2)
def startW (n : Nat) : MWorld := ⟨[], 0, List.replicate n zeroClient⟩
def runM (n : Nat) (l : List MAct) : List MAns × MWorld := l.foldl runStep ([], startW n)
def runCode (n : Int) (l : List MAct) : Int := if n < 1 ∨ 5 < n then 2 else if 400 < l.length then 1 else 0
end Go.Proofs.Ytniomgngiiiklaa
