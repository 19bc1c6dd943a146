/-
  What the library's functions compute.
-/
import Derived.Test.YtannkglddbaalaaDoorVmPure
import Derived.Lib.ItoaNum
import Derived.Lib.HexFns
import Derived.Lib.HexFns2
set_option linter.unusedSimpArgs false
set_option linter.unusedVariables false
namespace Go.Vm

def by8 (s : List Int) : List UInt8 := s.map fun n => UInt8.ofNat n.toNat
def un8 (l : List UInt8) : List Int := l.map fun b => (b.toNat : Int)

/-- cut at each byte c -/
def splitI (c : Int) : List Int → List (List Int)
  | [] => [[]]
  | x :: r => if x = c then [] :: splitI c r else (match splitI c r with | [] => [[x]] | p :: ps => (x :: p) :: ps)

/-- cut at the first byte c -/
def cutI (c : Int) : List Int → List Int × List Int × Bool
  | [] => ([], [], false)
  | x :: r => if x = c then ([], r, true) else (x :: (cutI c r).1, (cutI c r).2.1, (cutI c r).2.2)

/-- the first place of byte c; -1: none -/
def idxI (c : Int) : List Int → Int
  | [] => -1
  | x :: r => if x = c then 0 else if idxI c r = -1 then -1 else idxI c r + 1

def joinI (sep : List Int) (xs : List (List Int)) : List Int := sep.intercalate xs

def g_strconv_FormatInt (_ : Nat) (i b : Int) : Option (List Int × Unit) := if b = 10 then some (un8 (Lib.itoa i), ()) else none
def g_strings_IndexByte (_ : Nat) (s : List Int) (c : Int) : Option (Int × Unit) := some (idxI c s, ())
def g_strings_Split (_ : Nat) (s sep : List Int) : Option (Unit × (List (List Int) × Unit)) :=
  match sep with
  | [c] => if s.length < 4294967281 then some ((), (splitI c s, ())) else none
  | _ => none
def g_strings_Cut (_ : Nat) (s sep : List Int) : Option ((List Int × List Int × Bool × Unit) × Unit) :=
  match sep with
  | [c] => if s.length < 4294967281 then some (((cutI c s).1, (cutI c s).2.1, (cutI c s).2.2, ()), ()) else none
  | _ => none
def g_strings_Join (_ : Nat) (xs : List (List Int)) (sep : List Int) : Option (List Int × Unit) :=
  if xs.length ≤ lim ∧ (joinI sep xs).length ≤ lim then some (joinI sep xs, ()) else none
def g_encoding_hex_EncodeToString (_ : Nat) (b : List Int) : Option (List Int × Unit) :=
  if b ≠ [] ∧ b.length ≤ lim then some (un8 (Lib.Hx.encode (by8 b)), ()) else none
def hexEnd : Lib.Hx.Out → Bool
  | .ok => true
  | _ => false
def g_encoding_hex_DecodeString (_ : Nat) (s : List Int) : Option ((Unit × Bool × Unit) × (List Int × Unit)) :=
  if s.length ≤ lim then some (((), hexEnd (Lib.Hx.decode (by8 s)).2, ()), (un8 (Lib.Hx.decode (by8 s)).1, ())) else none

end Go.Vm
