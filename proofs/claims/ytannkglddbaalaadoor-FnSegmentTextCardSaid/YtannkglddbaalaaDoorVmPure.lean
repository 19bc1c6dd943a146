/-
  Words of the printed texts.
-/
import Derived.Test.YtannkglddbaalaaDoorVmDefs
set_option linter.unusedSimpArgs false
set_option linter.unusedVariables false
namespace Go.Vm

/-! whole numbers that wrap round -/
def wi8 (n : Int) : Int := IntKind.wrap .i8 n
def wi16 (n : Int) : Int := IntKind.wrap .i16 n
def wi32 (n : Int) : Int := IntKind.wrap .i32 n
def wi64 (n : Int) : Int := IntKind.wrap .i64 n
def wu8 (n : Int) : Int := IntKind.wrap .u8 n
def wu16 (n : Int) : Int := IntKind.wrap .u16 n
def wu32 (n : Int) : Int := IntKind.wrap .u32 n
def wu64 (n : Int) : Int := IntKind.wrap .u64 n
def iand (k : IntKind) (a b : Int) : Int := k.wrap (BitVec.ofInt k.bits a &&& BitVec.ofInt k.bits b).toNat
def ior (k : IntKind) (a b : Int) : Int := k.wrap (BitVec.ofInt k.bits a ||| BitVec.ofInt k.bits b).toNat
def ixor (k : IntKind) (a b : Int) : Int := k.wrap (BitVec.ofInt k.bits a ^^^ BitVec.ofInt k.bits b).toNat
def iandn (k : IntKind) (a b : Int) : Int := k.wrap (BitVec.ofInt k.bits a &&& ~~~ BitVec.ofInt k.bits b).toNat
def ishl (k : IntKind) (a b : Int) : Int := k.wrap (a * 2 ^ (min b.toNat k.bits))
def ishr (k : IntKind) (a b : Int) : Int := a.fdiv (2 ^ (min b.toNat k.bits))
def imin (a b : Int) : Int := if b < a then b else a
def imax (a b : Int) : Int := if b > a then b else a

/-! what must hold, else nothing is said -/
def gd {α : Type} (p : Prop) [Decidable p] (x : Option α) : Option α := if p then x else none
def ngd {α : Type} (p : Prop) [Decidable p] (x : Option α) : Option α := if p then none else x
/-- ways that meet, or a return -/
def sbind {α β : Type} (x : Option (β ⊕ α)) (f : α → Option β) : Option β := x.bind fun y => match y with | .inl r => some r | .inr x => f x

end Go.Vm
