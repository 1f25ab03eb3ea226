/- The three fixed scripts of keep, answered by the plain model: evaluated; no program in sight. -/
import Derived.Test.YtniomgngiiiklabDoorStep
namespace Go.Proofs.YtniomgngiiiklabDoor
def keyK (i : Nat) : ByteArray := ⟨#[UInt8.ofNat (97 + i)]⟩
def keysK (k : Nat) : List ByteArray := (List.range k).map keyK
/-- The value that a deed puts: "of ", the key, the client's number. -/
def ofK (key : ByteArray) (c : Nat) : ByteArray := ⟨#[111, 102, 32]⟩ ++ key ++ ⟨#[UInt8.ofNat (48 + c)]⟩
def deedA (c : Nat) (steps : Nat) (keys : List ByteArray) : List MAct :=
  ⟨1, c, ⟨#[]⟩, ⟨#[]⟩⟩ :: (keys.map fun k => ⟨3, c, k, ofK k c⟩) ++ List.replicate steps ⟨4, c, ⟨#[]⟩, ⟨#[]⟩⟩
def lookA (c : Nat) (keys : List ByteArray) : List MAct := ⟨1, c, ⟨#[]⟩, ⟨#[]⟩⟩ :: (keys.map fun k => ⟨2, c, k, ⟨#[]⟩⟩)
def stepsActs (k : Nat) : List MAct := deedA 0 (2 * k + 1) (keysK k) ++ lookA 1 (keysK k)
def crashActs (k m : Nat) : List MAct := (deedA 0 m (keysK k) ++ [⟨5, 0, ⟨#[]⟩, ⟨#[]⟩⟩]) ++ (keysK k).map (fun key => ⟨6, 1, key, ⟨#[]⟩⟩) ++ lookA 1 (keysK k)
def lateActs (key : ByteArray) : List MAct :=
  [⟨1, 1, ⟨#[]⟩, ⟨#[]⟩⟩, ⟨3, 1, key, ⟨#[]⟩⟩] ++ deedA 0 1 [key] ++ [⟨4, 1, ⟨#[]⟩, ⟨#[]⟩⟩, ⟨4, 0, ⟨#[]⟩, ⟨#[]⟩⟩, ⟨4, 0, ⟨#[]⟩, ⟨#[]⟩⟩, ⟨4, 1, ⟨#[]⟩, ⟨#[]⟩⟩]
def ansAt (x : List MAns) (i : Nat) : MAns := x[i]?.getD zeroAns
def stepsB (k : Nat) : Bool :=
  let x := ansFrom (startW 3) (stepsActs k)
  decide ((ansAt x (3 * k + 1)).phase = 0) && (decide ((ansAt x (3 * k + 1)).code = 0) && (decide ((ansAt x (2 * k + 1)).time = 2) && (decide ((ansAt x 0).time = 1) &&
   (List.range k).all fun i => decide ((ansAt x (x.length - k + i)).code = 0) && ((ansAt x (x.length - k + i)).is && decide ((ansAt x (x.length - k + i)).value = ofK (keyK i) 0)))))
def crashB (k m : Nat) : Bool :=
  let x := ansFrom (startW 3) (crashActs k m)
  (List.range k).all fun i => decide ((ansAt x (x.length - k + i)).code = 0) && (decide ((ansAt x (x.length - k + i)).is = decide (k + 2 ≤ m)) && (!(ansAt x (x.length - k + i)).is || decide ((ansAt x (x.length - k + i)).value = ofK (keyK i) 0)))
def lateB (key : ByteArray) : Bool :=
  let x := ansFrom (startW 3) (lateActs key)
  decide ((ansAt x 5).code = 7) && (decide ((ansAt x 5).phase = 2) && (decide ((ansAt x 7).phase = 0) && (decide ((ansAt x 7).code = 0) && (decide ((ansAt x 8).code = 8) && decide ((ansAt x 8).phase = 0)))))
set_option maxRecDepth 100000
theorem steps_eval : ((List.range 5).all fun k => stepsB (k + 1)) = true := by decide +kernel
theorem crash_eval : ((List.range 5).all fun k => (List.range (2 * (k + 1) + 2)).all fun m => crashB (k + 1) m) = true := by decide +kernel
theorem late_eval : (([⟨#[97, 98]⟩, ⟨#[98]⟩, ⟨#[99, 111, 119]⟩, ⟨#[100, 111, 103]⟩] : List ByteArray).all lateB) = true := by decide +kernel
end Go.Proofs.YtniomgngiiiklabDoor
