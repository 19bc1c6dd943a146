/-
  A verified symbolic machine over the model's code: its definitions.
-/
import Derived.Calls
import Derived.Orders
import Derived.WalkKit
set_option linter.unusedSimpArgs false
set_option linter.unusedVariables false
namespace Go.Vm

/-! #### Data -/
inductive K where
  | int (k : IntKind)
  | bool
  | str
  | sl (e : K)
  | pair (a b : K)
  | unit
  deriving DecidableEq

@[reducible] def K.T : K → Type
  | .int _ => Int
  | .bool => Bool
  | .str => List Int
  | .sl e => List e.T
  | .pair a b => a.T × b.T
  | .unit => Unit

def K.dflt : (e : K) → e.T
  | .int _ => (0 : Int)
  | .bool => false
  | .str => ([] : List Int)
  | .sl _ => []
  | .pair a b => (a.dflt, b.dflt)
  | .unit => ()

def K.cells : K → Nat
  | .int _ => 1
  | .bool => 1
  | .str => 1
  | .sl _ => 1
  | .pair a b => a.cells + b.cells
  | .unit => 0

/-- Does a value of this kind hold a slice? -/
def K.deep : K → Bool
  | .sl _ => true
  | .pair a b => a.deep || b.deep
  | _ => false

def castT {a b : K} (h : a = b) (x : a.T) : b.T := h ▸ x
def castL {a b : K} (h : a = b) (x : List a.T) : List b.T := h ▸ x

inductive SV where
  | undef
  | skip
  | int (k : IntKind) (n : Int)
  | bool (b : Bool)
  | str (s : List Int)
  | ro (e : K) (xs : List e.T)
  | own (n g : Nat)
  | nilsl
  | ptr (n g off : Nat)
  | elt (e : K) (n g : Nat) (i : Int) (off : Nat)
  | relt (e : K) (x : e.T) (off : Nat)
  | nilptr
  | err (isNil : Bool)
  | iter (n g : Nat)
  | agg (cs : List SV)
  | tup (vs : List SV)
  | fn (f : Nat) (caps : List SV)

inductive Ob where
  | box (cs : List SV)
  | arr (e : K) (xs : List e.T)
  | roa (e : K) (xs : List e.T)
  | iter (s : List Int) (pos : Nat)
  | gone

structure Ent where
  g : Nat
  o : Ob

abbrev Obs := List (Nat × Ent)

def get : Obs → Nat → Option Ent
  | [], _ => none
  | (m, e) :: r, n => if m = n then some e else get r n

def upd : Obs → Nat → Ent → Obs
  | [], n, e => [(n, e)]
  | (m, x) :: r, n, e => if n < m then (n, e) :: (m, x) :: r else if n = m then (n, e) :: r else (m, x) :: upd r n e

def fresh (ob : Obs) (n : Nat) : Nat := match get ob n with | some e => e.g + 1 | none => 0

structure St where
  sl : List SV
  ob : Obs

/-! #### Types -/
inductive TD where
  | int (k : IntKind)
  | bool
  | str
  | sl (e : Nat)
  | ptr (e : Nat)
  | struct (fs : List (Nat × Nat))
  | arr (n e : Nat)
  | iface
  | other

structure TI where
  cells : Nat
  bytes : Nat
  agg : Bool
  zero : List SV
  td : TD
  kd : Option K

def look {α : Type} : List (Nat × α) → Nat → Option α
  | [], _ => none
  | (m, x) :: r, n => if m = n then some x else look r n

/-! #### Templates -/
inductive Lf where
  | undef
  | int (k : IntKind)
  | bool
  | str
  | ro (e : K)
  | own (n : Nat)
  | nilsl
  | ptr (n : Nat)
  | nilptr
  | err
  | iter (n : Nat)
  | agg (ls : List Lf)
  | tup (ls : List Lf)
  | fn (f : Nat) (caps : List Lf)
  | lint (k : IntKind) (n : Int)

mutual
@[reducible] def Lf.T : Lf → Type
  | .int _ => Int
  | .bool => Bool
  | .str => List Int
  | .ro e => List e.T
  | .err => Bool
  | .agg ls => Lf.Ts ls
  | .tup ls => Lf.Ts ls
  | .fn _ caps => Lf.Ts caps
  | .undef => Unit
  | .own _ => Unit
  | .nilsl => Unit
  | .ptr _ => Unit
  | .nilptr => Unit
  | .iter _ => Unit
  | .lint _ _ => Unit
@[reducible] def Lf.Ts : List Lf → Type
  | [] => Unit
  | l :: ls => Lf.T l × Lf.Ts ls
end

inductive ObT where
  | box (ls : List Lf)
  | arr (e : K)
  | iter

@[reducible] def ObT.T : ObT → Type
  | .box ls => Lf.Ts ls
  | .arr e => List e.T
  | .iter => List Int × Nat

@[reducible] def ObTs : List (Nat × ObT) → Type
  | [] => Unit
  | (_, o) :: r => o.T × ObTs r

structure Tm where
  sl : List (Nat × Lf)
  ob : List (Nat × ObT)

@[reducible] def Lf.Ss : List (Nat × Lf) → Type
  | [] => Unit
  | (_, l) :: r => l.T × Lf.Ss r

@[reducible] def Tm.T (t : Tm) : Type := Lf.Ss t.sl × ObTs t.ob

mutual
def Lf.build : (l : Lf) → l.T → SV
  | .int k, n => .int k n
  | .bool, b => .bool b
  | .str, s => .str s
  | .ro e, xs => .ro e xs
  | .err, b => .err b
  | .agg ls, x => .agg (Lf.builds ls x)
  | .tup ls, x => .tup (Lf.builds ls x)
  | .fn f caps, x => .fn f (Lf.builds caps x)
  | .undef, _ => .undef
  | .own n, _ => .own n 0
  | .nilsl, _ => .nilsl
  | .ptr n, _ => .ptr n 0 0
  | .nilptr, _ => .nilptr
  | .iter n, _ => .iter n 0
  | .lint k n, _ => .int k n
def Lf.builds : (ls : List Lf) → Lf.Ts ls → List SV
  | [], _ => []
  | l :: ls, x => Lf.build l x.1 :: Lf.builds ls x.2
end

def ObT.build : (o : ObT) → o.T → Ob
  | .box ls, x => .box (Lf.builds ls x)
  | .arr e, xs => .arr e xs
  | .iter, x => .iter x.1 x.2

def buildObs : (l : List (Nat × ObT)) → ObTs l → Obs
  | [], _ => []
  | (n, o) :: r, x => upd (buildObs r x.2) n ⟨0, o.build x.1⟩

def setAt (l : List SV) (i : Nat) (v : SV) : List SV := l.set i v

def buildSl (base : List SV) : (l : List (Nat × Lf)) → Lf.Ss l → List SV
  | [], _ => base
  | (i, l) :: r, x => setAt (buildSl base r x.2) i (l.build x.1)

def Tm.build (t : Tm) (n : Nat) (x : t.T) : St := ⟨buildSl (List.replicate n .undef) t.sl x.1, buildObs t.ob x.2⟩

/-! matching a state with a template; `mu` binds the template's names: an object (name, gen, offset), or a nil slice -/
inductive Bd where
  | ob (n g off : Nat)
  | nil
  deriving DecidableEq

abbrev Mu := List (Nat × Bd)

def bind1 (mu : Mu) (m : Nat) (b : Bd) : Option Mu :=
  match look mu m with
  | none => some ((m, b) :: mu)
  | some b' => if b = b' then some mu else none

/-- the list of a slice; the array that is read, if it is one of the state's -/
def listOf (ob : Obs) (e : K) (v : SV) : Option (List e.T × List Nat) :=
  match v with
  | .ro e' xs => if h : e' = e then some (castL h xs, []) else none
  | .nilsl => some ([], [])
  | .own n g =>
    match get ob n with
    | some ⟨g', .arr e' xs⟩ => if g = g' then (if h : e' = e then some (castL h xs, [n]) else none) else none
    | some ⟨g', .roa e' xs⟩ => if g = g' then (if h : e' = e then some (castL h xs, []) else none) else none
    | _ => none
  | _ => none

structure MS where
  mu : Mu
  rd : List Nat

mutual
def Lf.mat (ob : Obs) : (l : Lf) → SV → MS → Option (l.T × MS)
  | .int k, v, ms => match v with | .int k' n => if k = k' then some (n, ms) else none | _ => none
  | .bool, v, ms => match v with | .bool b => some (b, ms) | _ => none
  | .str, v, ms => match v with | .str s => some (s, ms) | _ => none
  | .ro e, v, ms => match listOf ob e v with | some (xs, r) => some (xs, { ms with rd := r ++ ms.rd }) | none => none
  | .err, v, ms => match v with | .err b => some (b, ms) | _ => none
  | .agg ls, v, ms => match v with | .agg cs => Lf.mats ob ls cs ms | _ => none
  | .tup ls, v, ms => match v with | .tup cs => Lf.mats ob ls cs ms | _ => none
  | .fn f caps, v, ms => match v with | .fn f' cs => if f = f' then Lf.mats ob caps cs ms else none | _ => none
  | .undef, _, ms => some ((), ms)
  | .own m, v, ms =>
    match v with
    | .own n g => match bind1 ms.mu m (.ob n g 0) with | some mu => some ((), { ms with mu := mu }) | none => none
    | .nilsl => match bind1 ms.mu m .nil with | some mu => some ((), { ms with mu := mu }) | none => none
    | _ => none
  | .nilsl, v, ms => match v with | .nilsl => some ((), ms) | _ => none
  | .ptr m, v, ms =>
    match v with
    | .ptr n g off => match bind1 ms.mu m (.ob n g off) with | some mu => some ((), { ms with mu := mu }) | none => none
    | _ => none
  | .nilptr, v, ms => match v with | .nilptr => some ((), ms) | _ => none
  | .iter m, v, ms =>
    match v with
    | .iter n g => match bind1 ms.mu m (.ob n g 0) with | some mu => some ((), { ms with mu := mu }) | none => none
    | _ => none
  | .lint k n, v, ms => match v with | .int k' n' => if k = k' ∧ n = n' then some ((), ms) else none | _ => none
def Lf.mats (ob : Obs) : (ls : List Lf) → List SV → MS → Option (Lf.Ts ls × MS)
  | [], cs, ms => match cs with | [] => some ((), ms) | _ => none
  | l :: ls, cs, ms =>
    match cs with
    | c :: cs =>
      match Lf.mat ob l c ms with
      | some (x, ms) => match Lf.mats ob ls cs ms with | some (y, ms) => some ((x, y), ms) | none => none
      | none => none
    | [] => none
end

def ObT.mat (ob : Obs) (m : Nat) : (o : ObT) → MS → Option (o.T × MS)
  | .box ls, ms =>
    match look ms.mu m with
    | some (.ob n g off) =>
      match get ob n with
      | some ⟨g', .box cs⟩ => if g = g' ∧ off + ls.length ≤ cs.length then Lf.mats ob ls ((cs.drop off).take ls.length) ms else none
      | _ => none
    | _ => none
  | .arr e, ms =>
    match look ms.mu m with
    | some (.ob n g _) =>
      match get ob n with
      | some ⟨g', .arr e' xs⟩ => if g = g' then (if h : e' = e then some (castL h xs, ms) else none) else none
      | _ => none
    | some .nil => some ([], ms)
    | none => none
  | .iter, ms =>
    match look ms.mu m with
    | some (.ob n g off) =>
      match get ob n with
      | some ⟨g', .iter s p⟩ => if g = g' ∧ off = 0 then some ((s, p), ms) else none
      | _ => none
    | _ => none

def matObs (ob : Obs) : (l : List (Nat × ObT)) → MS → Option (ObTs l × MS)
  | [], ms => some ((), ms)
  | (m, o) :: r, ms =>
    match look ms.mu m with
    | none =>
      match matObs ob r ms with
      | some (y, ms) => match o.mat ob m ms with | some (x, ms) => some ((x, y), ms) | none => none
      | none => none
    | some _ =>
      match o.mat ob m ms with
      | some (x, ms) => match matObs ob r ms with | some (y, ms) => some ((x, y), ms) | none => none
      | none => none

def matSl (sl : List SV) (ob : Obs) : (l : List (Nat × Lf)) → MS → Option (Lf.Ss l × MS)
  | [], ms => some ((), ms)
  | (i, l) :: r, ms =>
    match l.mat ob (sl.getD i .undef) ms with
    | some (x, ms) => match matSl sl ob r ms with | some (y, ms) => some ((x, y), ms) | none => none
    | none => none

/-- not this name -/
def Bd.other (n : Nat) : Bd → Bool
  | .ob n' _ _ => n != n'
  | .nil => true

/-- the names that are bound are all different -/
def Mu.apart : Mu → Bool
  | [] => true
  | (_, .nil) :: r => Mu.apart r
  | (_, .ob n _ _) :: r => r.all (fun p => p.2.other n) && Mu.apart r

/-- none of these is bound -/
def Mu.offs : Mu → List Nat → Bool
  | [], _ => true
  | (_, .nil) :: r, l => Mu.offs r l
  | (_, .ob n _ _) :: r, l => l.all (fun m => n != m) && Mu.offs r l

def Tm.mat (t : Tm) (sl : List SV) (ob : Obs) : Option (t.T × MS) :=
  match matSl sl ob t.sl ⟨[], []⟩ with
  | some (x, ms) =>
    match matObs ob t.ob ms with
    | some (y, ms) => if (ms.mu.apart && ms.mu.offs ms.rd && (ms.rd.all fun n => match get ob n with | some ⟨_, .arr _ _⟩ => true | _ => false) && ms.mu.all fun p => (look t.ob p.1).isSome) = true then some ((x, y), ms) else none
    | none => none
  | none => none

/-- how many slots it speaks of -/
def Tm.ar (t : Tm) : Nat := t.sl.foldr (fun p n => max (p.1 + 1) n) 0

/-! #### Contracts -/
structure Con where
  tin : Tm
  res : Lf
  out : List (Nat × ObT)
  g : Nat → tin.T → Option (res.T × ObTs out)

structure Env where
  P : Program
  ct : List (Nat × Con)
  cuts : List Nat := []
  fuel : Nat

/-! #### Operations -/
def ofK : (e : K) → e.T → List SV
  | .int k, n => [.int k n]
  | .bool, b => [.bool b]
  | .str, s => [.str s]
  | .sl e, xs => [.ro e xs]
  | .pair a b, x => ofK a x.1 ++ ofK b x.2
  | .unit, _ => []

/-- cells as data; what they name is frozen -/
def toK : (e : K) → List SV → Obs → Option (e.T × List SV × Obs)
  | .int k, l, ob => match l with | .int k' n :: r => if k = k' then some (n, r, ob) else none | _ => none
  | .bool, l, ob => match l with | .bool b :: r => some (b, r, ob) | _ => none
  | .str, l, ob => match l with | .str s :: r => some (s, r, ob) | _ => none
  | .sl e, l, ob =>
    match l with
    | .ro e' xs :: r => if h : e' = e then some (castL h xs, r, ob) else none
    | .nilsl :: r => some ([], r, ob)
    | .own n g :: r =>
      match get ob n with
      | some ⟨g', .arr e' xs⟩ => if g = g' then (if h : e' = e then some (castL h xs, r, upd ob n ⟨g', .roa e' xs⟩) else none) else none
      | some ⟨g', .roa e' xs⟩ => if g = g' then (if h : e' = e then some (castL h xs, r, ob) else none) else none
      | _ => none
    | _ => none
  | .pair a b, l, ob =>
    match toK a l ob with
    | some (x, r, ob) => match toK b r ob with | some (y, r, ob) => some ((x, y), r, ob) | none => none
    | none => none
  | .unit, l, ob => some ((), l, ob)

def toK1 (e : K) (l : List SV) (ob : Obs) : Option (e.T × Obs) :=
  match toK e l ob with
  | some (x, [], ob) => some (x, ob)
  | _ => none

def ofConst : Value → SV
  | .int k n => if k.wrap n = n then .int k n else .undef
  | .bool b => .bool b
  | .string s => if s.data.toList.length ≤ 4294967296 then .str (s.data.toList.map fun b => (b.toNat : Int)) else .undef
  | .slice none 0 0 => .nilsl
  | .pointer none => .nilptr
  | .nilIface => .err true
  | _ => .undef

/-! what the machine asks of a type -/
def mkTD : TypeDesc → TD
  | .int k => .int k
  | .bool => .bool
  | .string => .str
  | .slice e => .sl e
  | .pointer e => .ptr e
  | .struct fs => .struct (fs.toList.map fun f => (f.offset, f.type))
  | .array n e => .arr n e
  | .interface _ => .iface
  | _ => .other

def repK (a : K) : Nat → K
  | 0 => .unit
  | n + 1 => .pair a (repK a n)

mutual
def kindOf (P : Program) : Nat → Nat → Option K
  | 0, _ => none
  | f + 1, t =>
    match P.underlying t with
    | some (.int k) => some (.int k)
    | some .bool => some .bool
    | some .string => some .str
    | some (.slice e) => match kindOf P f e with | some k => some (.sl k) | none => none
    | some (.array n e) => match kindOf P f e with | some k => some (repK k n) | none => none
    | some (.struct fs) => kindsOf P f (fs.toList.map (·.type))
    | _ => none
def kindsOf (P : Program) : Nat → List Nat → Option K
  | 0, _ => none
  | f + 1, ts =>
    match ts with
    | [] => some .unit
    | t :: r => match kindOf P f t, kindsOf P f r with | some a, some b => some (.pair a b) | _, _ => none
end

def mkTI (P : Program) (t : Nat) : Option TI :=
  match P.info? t, P.underlying t with
  | some i, some d =>
    match i.zero with
    | some z =>
      if z.cells.toList.length = i.size ∧ z.cells.toList.all (·.oneCell') = true then
        some { cells := i.size, bytes := i.bytes, agg := (match d with | .struct _ => true | .array _ _ => true | _ => false), zero := z.cells.toList.map ofConst, td := mkTD d, kd := kindOf P 60 t }
      else none
    | none => none
  | _, _ => none

def Env.ti (E : Env) (t : Nat) : Option TI := mkTI E.P t

/-- of a slice type: its elements' type -/
def Env.el (E : Env) (t : Nat) : Option (TI × K) :=
  match E.ti t with
  | some ti =>
    match ti.td, ti.kd with
    | .sl u, some (.sl e) => match E.ti u with | some tu => if tu.cells = e.cells ∧ tu.bytes ≤ 16384 then some (tu, e) else none | none => none
    | _, _ => none
  | none => none

def isC : Operand → Bool
  | .const _ => true
  | _ => false

def opd (sl : List SV) : Operand → SV
  | .tmp t => sl.getD t .undef
  | .const v => ofConst v
  | .func f => .fn f []
  | .global _ => .undef

def lim : Nat := 2 ^ 32

def intBin (op : BinOp) (k : IntKind) (a b : Int) : Option SV :=
  match op with
  | .add => some (.int k (k.wrap (a + b)))
  | .sub => some (.int k (k.wrap (a - b)))
  | .mul => some (.int k (k.wrap (a * b)))
  | .and => some (.int k (k.wrap (BitVec.ofInt k.bits a &&& BitVec.ofInt k.bits b).toNat))
  | .or => some (.int k (k.wrap (BitVec.ofInt k.bits a ||| BitVec.ofInt k.bits b).toNat))
  | .xor => some (.int k (k.wrap (BitVec.ofInt k.bits a ^^^ BitVec.ofInt k.bits b).toNat))
  | .andNot => some (.int k (k.wrap (BitVec.ofInt k.bits a &&& ~~~ BitVec.ofInt k.bits b).toNat))
  | .eql => some (.bool (a == b))
  | .neq => some (.bool (a != b))
  | .lss => some (.bool (decide (a < b)))
  | .leq => some (.bool (decide (a ≤ b)))
  | .gtr => some (.bool (decide (a > b)))
  | .geq => some (.bool (decide (a ≥ b)))
  | _ => none

def strBin (op : BinOp) (a b : List Int) : Option SV :=
  match op with
  | .eql => some (.bool (a == b))
  | .neq => some (.bool (a != b))
  | _ => none

/-- a nil check's answer: `some true`: nil; `some false`: not -/
def nilOf : SV → Option Bool
  | .nilptr => some true
  | .ptr _ _ _ => some false
  | .elt _ _ _ _ _ => some false
  | .relt _ _ _ => some false
  | _ => none

def mkv (agg : Bool) (n : Nat) (cs : List SV) : Option SV :=
  if agg then (if cs.length = n then some (.agg cs) else none)
  else match cs with | [c] => some c | _ => none

/-- '==' of structs, field by field -/
def eqFs (E : Env) (rec : Nat → SV → SV → Option Bool) (cs ds : List SV) : List Field → Option Bool
  | [] => some true
  | F :: r =>
    if F.name = "_" then none
    else match E.ti F.type with
      | some tu =>
        match mkv tu.agg tu.cells ((cs.drop F.offset).take tu.cells), mkv tu.agg tu.cells ((ds.drop F.offset).take tu.cells) with
        | some x, some y => match rec F.type x y, eqFs E rec cs ds r with | some a, some b => some (a && b) | _, _ => none
        | _, _ => none
      | none => none

/-- '==' of data of a type -/
def eqT (E : Env) : Nat → Nat → SV → SV → Option Bool
  | 0, _, _, _ => none
  | f + 1, t, x, y =>
    match x, y, E.P.underlying t with
    | .int k a, .int k' b, some (.int _) => if k = k' then some (a == b) else none
    | .bool a, .bool b, some .bool => some (a == b)
    | .str a, .str b, some .string => some (a == b)
    | .agg cs, .agg ds, some (.struct fs) => if E.P.stoodInHeld t then none else eqFs E (eqT E f) cs ds fs.toList
    | _, _, _ => none

section exec
variable {R : Type}

def ret1 (o : Option SV) (ob : Obs) (k : SV → Obs → Option R) : Option R := match o with | some v => k v ob | none => none

def xBin (E : Env) (ty : Nat) (c : Bool) (op : BinOp) (x y : SV) (ob : Obs) (k : SV → Obs → Option R) : Option R :=
  match x, y with
  | .int ka a, .int kb b =>
    match op with
    | .shl => if b < 0 then none else k (.int ka (ka.wrap (a * 2 ^ (min b.toNat ka.bits)))) ob
    | .shr => if b < 0 then none else k (.int ka (a.fdiv (2 ^ (min b.toNat ka.bits)))) ob
    | .quo => if ka = kb then (if b = 0 then none else k (.int ka (ka.wrap (a.tdiv b))) ob) else none
    | .rem => if ka = kb then (if b = 0 then none else k (.int ka (a.tmod b)) ob) else none
    | op => if ka = kb then ret1 (intBin op ka a b) ob k else none
  | .str a, .str b =>
    match op with
    | .add => if a.length + b.length ≤ lim then k (.str (a ++ b)) ob else none
    | op => ret1 (strBin op a b) ob k
  | .bool a, .bool b =>
    match E.ti ty with
    | some ⟨_, _, _, _, .bool, _⟩ => match op with | .eql => k (.bool (a == b)) ob | .neq => k (.bool (!(a == b))) ob | _ => none
    | _ => none
  | .err a, .err true =>
    match E.ti ty, c with
    | some ⟨_, _, _, _, .iface, _⟩, true => match op with | .eql => k (.bool a) ob | .neq => k (.bool (!a)) ob | _ => none
    | _, _ => none
  | .agg cs, .agg ds =>
    if E.P.eqGuardType E.P.depth ty = false then
      match eqT E 20 ty (.agg cs) (.agg ds) with
      | some b => match op with | .eql => k (.bool b) ob | .neq => k (.bool (!b)) ob | _ => none
      | none => none
    else none
  | x, .nilptr =>
    match nilOf x, E.ti ty with
    | some r, some ⟨_, _, _, _, .ptr _, _⟩ => match op with | .eql => k (.bool r) ob | .neq => k (.bool (!r)) ob | _ => none
    | _, _ => none
  | _, _ => none

def xUn (op : UnOp) (x : SV) (ob : Obs) (k : SV → Obs → Option R) : Option R :=
  match op, x with
  | .not, .bool b => k (.bool (!b)) ob
  | .neg, .int kd n => k (.int kd (kd.wrap (0 - n))) ob
  | .xor, .int kd n => ret1 (intBin .xor kd (if kd.signed then -1 else kd.max) n) ob k
  | _, _ => none

/-- a new object at a site -/
def newAt (d : Nat) (o : Ob) (ob : Obs) : Obs := upd ob d ⟨fresh ob d, o⟩

def cellsOf : SV → Option (List SV)
  | .agg cs => some cs
  | .undef => none
  | .skip => none
  | .tup _ => none
  | v => some [v]

def splice (cs : List SV) (off : Nat) (new : List SV) : List SV := cs.take off ++ new ++ cs.drop (off + new.length)

def xLoad (E : Env) (t : Nat) (p : SV) (ob : Obs) (k : SV → Obs → Option R) : Option R :=
  match E.ti t with
  | none => none
  | some ti =>
    match p with
    | .ptr n g off =>
      match get ob n with
      | some ⟨g', .box cs⟩ => if g = g' then ret1 (mkv ti.agg ti.cells ((cs.drop off).take ti.cells)) ob k else none
      | _ => none
    | .elt e n g i off =>
      match get ob n with
      | some ⟨g', .arr e' xs⟩ => if g = g' then (if h : e' = e then ret1 (mkv ti.agg ti.cells (((ofK e ((castL h xs).getD i.toNat e.dflt)).drop off).take ti.cells)) ob k else none) else none
      | _ => none
    | .relt e x off => ret1 (mkv ti.agg ti.cells (((ofK e x).drop off).take ti.cells)) ob k
    | _ => none

def xStore (E : Env) (t : Nat) (p v : SV) (ob : Obs) (k : SV → Obs → Option R) : Option R :=
  match E.ti t, cellsOf v with
  | some ti, some vs =>
    if vs.length = ti.cells then
      match p with
      | .ptr n g off =>
        match get ob n with
        | some ⟨g', .box cs⟩ => if g = g' ∧ off + ti.cells ≤ cs.length then k .undef (upd ob n ⟨g', .box (splice cs off vs)⟩) else none
        | _ => none
      | .elt e n g i off =>
        match get ob n with
        | some ⟨g', .arr e' xs⟩ =>
          if g = g' ∧ off + ti.cells ≤ e.cells then (if h : e' = e then
            match toK1 e (splice (ofK e ((castL h xs).getD i.toNat e.dflt)) off vs) ob with
            | some (x, ob) => match get ob n with | some ⟨g'', .arr _ _⟩ => if g' = g'' then k .undef (upd ob n ⟨g', .arr e ((castL h xs).set i.toNat x)⟩) else none | _ => none
            | none => none
          else none) else none
        | _ => none
      | _ => none
    else none
  | _, _ => none

def addOff (p : SV) (n : Nat) : Option SV :=
  match p with
  | .ptr m g off => some (.ptr m g (off + n))
  | .elt e m g i off => some (.elt e m g i (off + n))
  | .relt e x off => some (.relt e x (off + n))
  | _ => none

def xFieldAddr (E : Env) (t : Nat) (p : SV) (f : Nat) (ob : Obs) (k : SV → Obs → Option R) : Option R :=
  match E.ti t with
  | some ⟨_, _, _, _, .struct fs, _⟩ =>
    match fs[f]? with
    | some (off, u) => match E.ti u with | some tu => if tu.cells = 0 then none else ret1 (addOff p off) ob k | none => none
    | none => none
  | _ => none

def xField (E : Env) (t : Nat) (v : SV) (f : Nat) (ob : Obs) (k : SV → Obs → Option R) : Option R :=
  match E.ti t with
  | some ⟨_, _, _, _, .struct fs, _⟩ =>
    match fs[f]?, v with
    | some (off, u), .agg cs => match E.ti u with | some tu => ret1 (mkv tu.agg tu.cells ((cs.drop off).take tu.cells)) ob k | none => none
    | _, _ => none
  | _ => none

/-- the length of a slice -/
def lenOf (ob : Obs) (v : SV) : Option Int :=
  match v with
  | .str s => some s.length
  | .ro _ xs => some xs.length
  | .nilsl => some 0
  | .own n g =>
    match get ob n with
    | some ⟨g', .arr _ xs⟩ => if g = g' then some xs.length else none
    | some ⟨g', .roa _ xs⟩ => if g = g' then some xs.length else none
    | _ => none
  | _ => none

def xIndexAddr (E : Env) (t : Nat) (x i : SV) (ob : Obs) (k : SV → Obs → Option R) : Option R :=
  match i with
  | .int _ i =>
    match E.ti t with
    | some ⟨_, _, _, _, .sl u, _⟩ =>
      match E.ti u with
      | some tu =>
        match x with
        | .ro e xs => if e.cells = tu.cells then (if 0 ≤ i ∧ i < xs.length then k (.relt e (xs.getD i.toNat e.dflt) 0) ob else none) else none
        | .own n g =>
          match get ob n with
          | some ⟨g', .arr e xs⟩ => if g = g' ∧ e.cells = tu.cells then (if 0 ≤ i ∧ i < xs.length then k (.elt e n g i 0) ob else none) else none
          | some ⟨g', .roa e xs⟩ => if g = g' ∧ e.cells = tu.cells then (if 0 ≤ i ∧ i < xs.length then k (.relt e (xs.getD i.toNat e.dflt) 0) ob else none) else none
          | _ => none
        | _ => none
      | none => none
    | some ⟨_, _, _, _, .arr n u, _⟩ =>
      match E.ti u with
      | some tu => if 0 ≤ i ∧ i < n then ret1 (addOff x (i.toNat * tu.cells)) ob k else none
      | none => none
    | _ => none
  | _ => none

def xIndex (E : Env) (t : Nat) (x i : SV) (ob : Obs) (k : SV → Obs → Option R) : Option R :=
  match E.ti t with
  | some ⟨_, _, _, _, .str, _⟩ =>
    match x, i with
    | .str s, .int _ i => if 0 ≤ i ∧ i < s.length then k (.int .u8 (s.getD i.toNat 0)) ob else none
    | _, _ => none
  | some ⟨_, _, _, _, .arr n u, _⟩ =>
    match x, i, E.ti u with
    | .agg cs, .int _ i, some tu => if 0 ≤ i ∧ i < n then ret1 (mkv tu.agg tu.cells ((cs.drop (i.toNat * tu.cells)).take tu.cells)) ob k else none
    | _, _, _ => none
  | _ => none

def bnd (o : Option SV) (d : Int) : Option Int :=
  match o with
  | none => some d
  | some (.int _ n) => some n
  | _ => none

def cutL {α : Type} (l : List α) (lo hi : Int) : List α := (l.drop lo.toNat).take (hi - lo).toNat

def xSlice (E : Env) (d t : Nat) (x : SV) (lo hi mx : Option SV) (ob : Obs) (k : SV → Obs → Option R) : Option R :=
  match mx with
  | some _ => none
  | none =>
    match lenOf ob x with
    | none => none
    | some n =>
      match bnd lo 0, bnd hi n with
      | some l, some h =>
        if 0 ≤ l ∧ l ≤ h ∧ h ≤ n then
          match x with
          | .str s => match E.ti t with | some ⟨_, _, _, _, .str, _⟩ => k (.str (cutL s l h)) ob | _ => none
          | x =>
            match E.el t with
            | none => none
            | some (tu, _) =>
              match x with
              | .ro e xs => if e.cells = tu.cells then k (.ro e (cutL xs l h)) ob else none
              | .nilsl => k .nilsl ob
              | .own m g =>
                match get ob m with
                | some ⟨g', .arr e xs⟩ =>
                  if e.cells = tu.cells then
                    (if E.cuts.contains d then k (.own m (g' + 1)) (upd ob m ⟨g' + 1, .arr e (cutL xs l h)⟩)
                     else k (.ro e (cutL xs l h)) (upd ob m ⟨g', .roa e xs⟩))
                  else none
                | some ⟨_, .roa e xs⟩ => if e.cells = tu.cells then k (.ro e (cutL xs l h)) ob else none
                | _ => none
              | _ => none
        else none
      | _, _ => none

/-- a rune's bytes -/
def enc (n : Int) : List Int := (Utf8.encode n).data.toList.map fun b => (b.toNat : Int)

def xConvert (E : Env) (d src dst : Nat) (x : SV) (ob : Obs) (k : SV → Obs → Option R) : Option R :=
  match E.ti src, E.ti dst with
  | some ts, some ti =>
    match ti.td, x with
    | .int kd, .int _ n => k (.int kd (kd.wrap n)) ob
    | .str, .str s => k (.str s) ob
    | .str, .int _ n => k (.str (enc n)) ob
    | .str, v =>
      match ts.td, ts.kd with
      | .sl _, some (.sl (.int .u8)) => match listOf ob (.int .u8) v with | some (xs, _) => k (.str xs) ob | none => none
      | _, _ => none
    | .sl _, .str s =>
      match ts.td, ti.kd with
      | .str, some (.sl (.int .u8)) => if s.length ≤ lim then k (.own d (fresh ob d)) (newAt d (.arr (.int .u8) s) ob) else none
      | _, _ => none
    | _, _ => none
  | _, _ => none

def putPart (fs : List (Nat × Nat)) (szs : List Nat) (cs : List SV) : List (Nat × SV) → Option (List SV)
  | [] => some cs
  | (f, v) :: r => match fs[f]?, cellsOf v with | some (off, u), some vs => if szs[f]? = some vs.length ∧ off + vs.length ≤ cs.length then putPart fs szs (splice cs off vs) r else none | _, _ => none

def sizes (E : Env) : List Nat → Option (List Nat)
  | [] => some []
  | t :: r => match E.ti t, sizes E r with | some ti, some l => some (ti.cells :: l) | _, _ => none

def xBuild (E : Env) (t : Nat) (ps : List (Nat × SV)) (ob : Obs) (k : SV → Obs → Option R) : Option R :=
  match E.ti t with
  | some ⟨_, _, _, z, .struct fs, _⟩ =>
    match sizes E (fs.map (·.2)) with
    | some szs => match putPart fs szs z ps with | some cs => k (.agg cs) ob | none => none
    | none => none
  | _ => none

/-- the elements of a literal: all of them are given -/
def fillSl (e : K) (ob : Obs) : List SV → Option (List e.T × Obs)
  | [] => some ([], ob)
  | v :: r =>
    match cellsOf v with
    | some cs =>
      match toK1 e cs ob with
      | some (x, ob) => match fillSl e ob r with | some (xs, ob) => some (x :: xs, ob) | none => none
      | none => none
    | none => none

def xBuildSlice (E : Env) (d t len : Nat) (ps : List (Nat × SV)) (ob : Obs) (k : SV → Obs → Option R) : Option R :=
  match E.el t with
  | some (_, e) =>
    if len * e.cells ≤ 16777216 ∧ len ≤ lim ∧ ps.map (·.1) = List.range len then
      match fillSl e ob (ps.map (·.2)) with
      | some (xs, ob) => k (.own d (fresh ob d)) (newAt d (.arr e xs) ob)
      | none => none
    else none
  | none => none

def xMake (E : Env) (d t : Nat) (l c : SV) (ob : Obs) (k : SV → Obs → Option R) : Option R :=
  match E.el t with
  | some (tu, e) =>
    match l, c, toK1 e tu.zero ob with
    | .int _ l, .int _ c, some (z, ob) => if 0 ≤ l ∧ l ≤ c ∧ c ≤ lim then k (.own d (fresh ob d)) (newAt d (.arr e (List.replicate l.toNat z)) ob) else none
    | _, _, _ => none
  | none => none

/-- what is appended: a slice's list, or a string's bytes -/
def srcOf (ob : Obs) (e : K) (y : SV) : Option (List e.T × List Nat) :=
  match y with
  | .str s => if h : K.int .u8 = e then some (castL h s, []) else none
  | y => listOf ob e y

/-- arrays that are shared from now on -/
def freezes (ob : Obs) : List Nat → Obs
  | [] => ob
  | n :: r => freezes (match get ob n with | some ⟨g, .arr e xs⟩ => upd ob n ⟨g, .roa e xs⟩ | _ => ob) r

def xAppend (E : Env) (d t : Nat) (x y : SV) (ob : Obs) (k : SV → Obs → Option R) : Option R :=
  match E.el t with
  | some (_, e) =>
    match srcOf ob e y with
    | none => none
    | some (ys, rd) =>
      let ob := if e.deep then freezes ob rd else ob
      match x with
      | .nilsl => if ys.length ≤ lim then k (.own d (fresh ob d)) (newAt d (.arr e ys) ob) else none
      | .own n g =>
        match get ob n with
        | some ⟨g', .arr e' xs⟩ =>
          if g = g' then (if h : e' = e then (if xs.length + ys.length ≤ lim then k (.own n (g' + 1)) (upd ob n ⟨g' + 1, .arr e (castL h xs ++ ys)⟩) else none) else none) else none
        | _ => none
      | _ => none
  | none => none

/-! calls by contract -/
/-- the caller's name of an array that a call hands back -/
def nm (d m : Nat) : Nat := 1000 * (m + 1) + d

/-- names of arrays that stay the caller's: they are written in place -/
def isK (m : Nat) : Bool := decide (100000 ≤ m)

mutual
/-- a result, in the caller's names -/
def Lf.give (d : Nat) (ob : Obs) (mu : Mu) : (l : Lf) → l.T → SV
  | .int k, n => .int k n
  | .bool, b => .bool b
  | .str, s => .str s
  | .ro e, xs => .ro e xs
  | .err, b => .err b
  | .agg ls, x => .agg (Lf.gives d ob mu ls x)
  | .tup ls, x => .tup (Lf.gives d ob mu ls x)
  | .fn f caps, x => .fn f (Lf.gives d ob mu caps x)
  | .undef, _ => .undef
  | .own m, _ => if isK m then (match look mu m with | some (.ob n g _) => .own n g | some .nil => .nilsl | none => .undef) else .own (nm d m) (fresh ob (nm d m))
  | .nilsl, _ => .nilsl
  | .ptr m, _ => match look mu m with | some (.ob n g off) => .ptr n g off | _ => .undef
  | .nilptr, _ => .nilptr
  | .iter _, _ => .undef
  | .lint k n, _ => .int k n
def Lf.gives (d : Nat) (ob : Obs) (mu : Mu) : (ls : List Lf) → Lf.Ts ls → List SV
  | [], _ => []
  | l :: ls, x => Lf.give d ob mu l x.1 :: Lf.gives d ob mu ls x.2
end

/-- what was handed over is gone (boxes come back) -/
def consume (ob : Obs) : Mu → Obs
  | [] => ob
  | (_, .nil) :: r => consume ob r
  | (m, .ob n _ _) :: r =>
    consume (match get ob n with
      | some ⟨g, .box _⟩ => upd ob n ⟨g, .gone⟩
      | some ⟨g, .arr _ _⟩ => upd ob n ⟨if isK m then g else g + 1, .gone⟩
      | some ⟨g, .iter _ _⟩ => upd ob n ⟨g + 1, .gone⟩
      | _ => ob) r

/-- the objects behind a call: boxes where they were, arrays under new names; ob0: ahead of the call; ob1: what was handed over gone -/
def giveObs (d : Nat) (ob0 ob1 : Obs) (mu : Mu) : (l : List (Nat × ObT)) → ObTs l → Obs → Obs
  | [], _, ob => ob
  | (m, .box ls) :: r, x, ob =>
    giveObs d ob0 ob1 mu r x.2
      (match look mu m with
       | some (.ob n _ off) =>
         match get ob0 n with
         | some ⟨g, .box cs⟩ => upd ob n ⟨g, .box (splice cs off (Lf.gives d ob1 mu ls x.1))⟩
         | _ => ob
       | _ => ob)
  | (m, .arr e) :: r, x, ob =>
    giveObs d ob0 ob1 mu r x.2
      (if isK m then (match look mu m with | some (.ob n g _) => upd ob n ⟨g, .arr e x.1⟩ | _ => ob)
       else upd ob (nm d m) ⟨fresh ob1 (nm d m), .arr e x.1⟩)
  | (_, .iter) :: r, x, ob => giveObs d ob0 ob1 mu r x.2 ob

mutual
def Lf.deep : Lf → Bool
  | .ro _ => true
  | .agg ls => Lf.deeps ls
  | .tup ls => Lf.deeps ls
  | .fn _ ls => Lf.deeps ls
  | _ => false
def Lf.deeps : List Lf → Bool
  | [] => false
  | l :: ls => l.deep || Lf.deeps ls
end
def ObT.deep : ObT → Bool
  | .box ls => Lf.deeps ls
  | .arr e => e.deep
  | .iter => false

def Con.leaks (c : Con) : Bool := c.res.deep || c.out.any (fun p => p.2.deep)

def nodupKeys : List (Nat × ObT) → Bool
  | [] => true
  | (m, _) :: r => (look r m).isNone && nodupKeys r

/-- arrays ahead of boxes -/
def arrsFirst : List (Nat × ObT) → Bool
  | [] => true
  | (_, .arr _) :: r => arrsFirst r
  | (_, .box _) :: r => r.all (fun p => match p.2 with | .box _ => true | _ => false)
  | (_, .iter) :: _ => false

/-- a box of the caller's has no new array's name; the boxes that go in come out -/
def fitNames (d : Nat) (mu : Mu) (c : Con) (ar : Nat) : Bool :=
  ar == c.tin.ar &&
  nodupKeys c.out && nodupKeys c.tin.ob && arrsFirst c.out &&
  c.out.all (fun p => match p.2 with
    | .box ls => (match look c.tin.ob p.1 with | some (.box ls') => ls'.length == ls.length | _ => false)
    | .arr e => if isK p.1 then (match look c.tin.ob p.1 with | some (.arr e') => decide (e' = e) | _ => false) else mu.all (fun q => q.2.other (nm d p.1))
    | .iter => false)

def xCall (E : Env) (d f : Nat) (as : List SV) (ob : Obs) (k : SV → Obs → Option R) : Option R :=
  match look E.ct f with
  | none => none
  | some c =>
    match c.tin.mat as ob with
    | none => none
    | some (x, ms) =>
      if fitNames d ms.mu c as.length = true then
        (c.g E.fuel x).bind fun y =>
          let ob1 := consume (if c.leaks then freezes ob ms.rd else ob) ms.mu
          k (c.res.give d ob1 ms.mu y.1) (giveObs d ob ob1 ms.mu c.out y.2 ob1)
      else none

/-- the source's type fits it -/
def srcTy (E : Env) (t : Nat) (y : SV) : Bool :=
  match E.ti t with
  | some ⟨_, _, _, _, .str, _⟩ => match y with | .str _ => true | _ => false
  | some ⟨_, _, _, _, .sl _, _⟩ => match y with | .str _ => false | _ => true
  | _ => false

def xBuiltin (E : Env) (d : Nat) (b : Builtin) (ats : List Nat) (as : List SV) (ob : Obs) (k : SV → Obs → Option R) : Option R :=
  match b, ats, as with
  | .len, [t], [x] =>
    match E.ti t with
    | some ⟨_, _, _, _, .str, _⟩ => match x with | .str s => k (.int .i64 s.length) ob | _ => none
    | some ⟨_, _, _, _, .sl _, _⟩ => match x with | .str _ => none | x => match lenOf ob x with | some n => k (.int .i64 n) ob | none => none
    | _ => none
  | .append, [t, tx], [x, y] => if srcTy E tx y then xAppend E d t x y ob k else none
  | .min, _, [.int ka a, .int kb b] => if ka = kb then k (.int ka (if b < a then b else a)) ob else none
  | .max, _, [.int ka a, .int kb b] => if ka = kb then k (.int ka (if b > a then b else a)) ob else none
  | .min, _, [.int ka a, .int kb b, .int kc c] => if ka = kb ∧ ka = kc then k (.int ka (if c < (if b < a then b else a) then c else (if b < a then b else a))) ob else none
  | .max, _, [.int ka a, .int kb b, .int kc c] => if ka = kb ∧ ka = kc then k (.int ka (if c > (if b > a then b else a) then c else (if b > a then b else a))) ob else none
  | _, _, _ => none

/-- UTF-8 -/
def dec (s : List Int) (i : Nat) : Int × Nat :=
  let r := Utf8.decode ⟨(s.map fun n => UInt8.ofNat n.toNat).toArray⟩ i
  ((r.1 : Int), r.2)

def exec (E : Env) (d : Nat) (o : Op) (ρ : Operand → SV) (ob : Obs) (k : SV → Obs → Option R) : Option R :=
  match o with
  | .move x => k (ρ x) ob
  | .assign x => k (ρ x) ob
  | .pick c a b => match ρ c with | .bool t => if t then k (ρ a) ob else k (ρ b) ob | _ => none
  | .alloc t => match E.ti t with | some ti => k (.ptr d (fresh ob d) 0) (newAt d (.box ti.zero) ob) | none => none
  | .box _ x => match cellsOf (ρ x) with | some cs => k (.ptr d (fresh ob d) 0) (newAt d (.box cs) ob) | none => none
  | .build t ps => xBuild E t (ps.toList.map fun p => (p.1, ρ p.2)) ob k
  | .buildSlice t n ps => xBuildSlice E d t n (ps.toList.map fun p => (p.1, ρ p.2)) ob k
  | .load t a => xLoad E t (ρ a) ob k
  | .store t a v => xStore E t (ρ a) (ρ v) ob k
  | .nilCheck x => match nilOf (ρ x) with | some false => k (ρ x) ob | _ => none
  | .binOp op t x y _ => xBin E t (isC x || isC y) op (ρ x) (ρ y) ob k
  | .unOp op _ x => xUn op (ρ x) ob k
  | .convert src dst x => xConvert E d src dst (ρ x) ob k
  | .makeFunc (.func f) fst caps => if fst.size = 0 then k (.fn f (caps.toList.map ρ)) ob else none
  | .makeSlice t l c => xMake E d t (ρ l) (ρ c) ob k
  | .slice t x lo hi mx => xSlice E d t (ρ x) (lo.map ρ) (hi.map ρ) (mx.map ρ) ob k
  | .fieldAddr t x f => xFieldAddr E t (ρ x) f ob k
  | .field t x f => xField E t (ρ x) f ob k
  | .indexAddr t x i => xIndexAddr E t (ρ x) (ρ i) ob k
  | .index t x i => xIndex E t (ρ x) (ρ i) ob k
  | .range t x => match E.ti t, ρ x with | some ⟨_, _, _, _, .str, _⟩, .str s => k (.iter d (fresh ob d)) (newAt d (.iter s 0) ob) | _, _ => none
  | .next it true =>
    match ρ it with
    | .iter n g =>
      match get ob n with
      | some ⟨g', .iter s p⟩ =>
        if g = g' then (if p < s.length then k (.tup [.bool true, .int .i64 p, .int .i32 (dec s p).1]) (upd ob n ⟨g', .iter s (p + (dec s p).2)⟩) else k (.tup [.bool false]) ob) else none
      | _ => none
    | _ => none
  | .extract t i => match ρ t with | .tup vs => ret1 vs[i]? ob k | _ => none
  | .call c =>
    match c.callee with
    | .builtin b => xBuiltin E d b c.argTypes.toList (c.args.toList.map ρ) ob k
    | .value f => match ρ f with | .fn f caps => xCall E d f (c.args.toList.map ρ ++ caps) ob k | _ => none
    | _ => none
  | _ => none

end exec

/-! #### Code -/
def putD (sl : List SV) (d : Option Nat) (v : SV) : List SV := match d with | some i => setAt sl i v | none => sl

/-- one operation of a region -/
def evalOp (E : Env) (ops : Array Oper) {R : Type} (i : Nat) (σ : St) (k : St → Option R) : Option R :=
  match ops[i]? with
  | none => none
  | some o =>
    match o.guard with
    | none => exec E (o.dst.getD 0) o.op (opd σ.sl) σ.ob fun v ob => k ⟨putD σ.sl o.dst v, ob⟩
    | some (j, want) =>
      match (ops[j]?).bind (·.dst) with
      | none => none
      | some g =>
        match σ.sl.getD g .undef with
        | .bool b =>
          if b then
            (if want then exec E (o.dst.getD 0) o.op (opd (setAt σ.sl g (.bool true))) σ.ob fun v ob => k ⟨putD (setAt σ.sl g (.bool true)) o.dst v, ob⟩
             else k ⟨putD (setAt σ.sl g (.bool true)) o.dst .skip, σ.ob⟩)
          else
            (if want then k ⟨putD (setAt σ.sl g (.bool false)) o.dst .skip, σ.ob⟩
             else exec E (o.dst.getD 0) o.op (opd (setAt σ.sl g (.bool false))) σ.ob fun v ob => k ⟨putD (setAt σ.sl g (.bool false)) o.dst v, ob⟩)
        | .skip => k ⟨putD σ.sl o.dst .skip, σ.ob⟩
        | _ => none

/-- the operations of a region, one behind the other -/
def evalOps (E : Env) (ops : Array Oper) {R : Type} : List Nat → St → (St → Option R) → Option R
  | [], σ, k => k σ
  | i :: rest, σ, k => evalOp E ops i σ fun σ' => evalOps E ops rest σ' k

/-! regions that draw their order -/
/-- the object that a value names -/
def dN : SV → List Nat
  | .own n _ => [n]
  | .ptr n _ _ => [n]
  | .elt _ n _ _ _ => [n]
  | _ => []

/-- a literal that is only read -/
def xBuildRo (E : Env) (t len : Nat) (ps : List (Nat × SV)) (ob : Obs) {R : Type} (k : SV → Option R) : Option R :=
  match E.el t with
  | some (_, e) =>
    if len * e.cells ≤ 16777216 ∧ len ≤ lim ∧ ps.map (·.1) = List.range len ∧ e.deep = false then
      match fillSl e ob (ps.map (·.2)) with
      | some (xs, _) => k (.ro e xs)
      | none => none
    else none
  | none => none

/-- an operation that changes no object -/
def execN (E : Env) (o : Op) (ρ : Operand → SV) (ob : Obs) {R : Type} (k : SV → Option R) : Option R :=
  match o with
  | .move x => k (ρ x)
  | .assign x => k (ρ x)
  | .pick c a b => match ρ c with | .bool t => if t then k (ρ a) else k (ρ b) | _ => none
  | .load t a => xLoad E t (ρ a) ob fun v _ => k v
  | .nilCheck x => match nilOf (ρ x) with | some false => k (ρ x) | _ => none
  | .binOp op t x y _ => xBin E t (isC x || isC y) op (ρ x) (ρ y) [] fun v _ => k v
  | .unOp op _ x => xUn op (ρ x) [] fun v _ => k v
  | .build t ps => xBuild E t (ps.toList.map fun p => (p.1, ρ p.2)) [] fun v _ => k v
  | .buildSlice t n ps => xBuildRo E t n (ps.toList.map fun p => (p.1, ρ p.2)) [] k
  | .convert src dst x => match ρ x with | .str _ => none | v => xConvert E 0 src dst v ob fun v _ => k v
  | .slice t x lo hi mx => match ρ x with | .str s => xSlice E 0 t (.str s) (lo.map ρ) (hi.map ρ) (mx.map ρ) [] fun v _ => k v | _ => none
  | .fieldAddr t x f => xFieldAddr E t (ρ x) f [] fun v _ => k v
  | .field t x f => xField E t (ρ x) f [] fun v _ => k v
  | .indexAddr t x i => xIndexAddr E t (ρ x) (ρ i) ob fun v _ => k v
  | .index t x i => xIndex E t (ρ x) (ρ i) [] fun v _ => k v
  | .extract t i => match ρ t with | .tup vs => ret1 vs[i]? [] fun v _ => k v | _ => none
  | .call c =>
    match c.callee with
    | .builtin .len => xBuiltin E 0 .len c.argTypes.toList (c.args.toList.map ρ) ob fun v _ => k v
    | .builtin .min => xBuiltin E 0 .min c.argTypes.toList (c.args.toList.map ρ) [] fun v _ => k v
    | .builtin .max => xBuiltin E 0 .max c.argTypes.toList (c.args.toList.map ρ) [] fun v _ => k v
    | _ => none
  | _ => none

/-- the objects that it looks at -/
def namesN (o : Op) (ρ : Operand → SV) : List Nat :=
  match o with
  | .load _ a => dN (ρ a)
  | .convert _ _ x => dN (ρ x)
  | .indexAddr _ x _ => dN (ρ x)
  | .call c => c.args.toList.flatMap fun x => dN (ρ x)
  | _ => []

/-- is it one that changes objects? -/
def isCh (E : Env) : Op → Bool
  | .store _ _ _ => true
  | .alloc _ => true
  | .box _ _ => true
  | .buildSlice _ _ _ => true
  | .makeSlice _ _ _ => true
  | .slice t _ _ _ _ => match E.ti t with | some ⟨_, _, _, _, .str, _⟩ => false | _ => true
  | .convert _ dst _ => match E.ti dst with | some ⟨_, _, _, _, .sl _, _⟩ => true | _ => false
  | .call c => match c.callee with | .value _ => true | .builtin .append => true | _ => false
  | _ => false

mutual
/-- the objects that a value names -/
def svN : SV → List Nat
  | .own n _ => [n]
  | .ptr n _ _ => [n]
  | .elt _ n _ _ _ => [n]
  | .iter n _ => [n]
  | .agg cs => svNs cs
  | .tup vs => svNs vs
  | .fn _ caps => svNs caps
  | _ => []
def svNs : List SV → List Nat
  | [] => []
  | v :: vs => svN v ++ svNs vs
end

/-- what a box names -/
def obN (ob : Obs) (n : Nat) : List Nat := match get ob n with | some ⟨_, .box cs⟩ => svNs cs | _ => []

def addN : List Nat → List Nat → List Nat
  | l, [] => l
  | l, x :: r => addN (if l.contains x then l else x :: l) r

/-- what the boxes among these name besides -/
def inBoxes (ob : Obs) (ts : List Nat) : List Nat := ts.flatMap (obN ob)

def reach (ob : Obs) : Nat → List Nat → List Nat
  | 0, ts => ts
  | f + 1, ts => reach ob f (addN ts (inBoxes ob ts))

/-- the objects that a change touches -/
def touched (E : Env) (d : Nat) (o : Op) (ρ : Operand → SV) (ob : Obs) : List Nat :=
  let outs := match o with
    | .call c =>
      (match c.callee with
      | .value f => (match ρ f with | .fn f _ => (match look E.ct f with | some c' => c'.out.map fun p => nm d p.1 | none => []) | _ => [])
      | .builtin _ => [d]
      | _ => [])
    | .store _ _ _ => []
    | _ => [d]
  reach ob 4 (addN [] (outs ++ o.operands.toList.flatMap fun x => svN (ρ x)))

/-- these objects alone -/
def restr (ob : Obs) : List Nat → Obs
  | [] => []
  | n :: ts => match get ob n with | some e => upd (restr ob ts) n e | none => restr ob ts

/-- these objects as they are there -/
def merge (ob ob' : Obs) : List Nat → Obs
  | [] => ob
  | n :: ts => match get ob' n with | some e => upd (merge ob ob' ts) n e | none => merge ob ob' ts

/-- the values and the boxes name nothing else -/
def okT (o : Op) (ρ : Operand → SV) (ob : Obs) (ts : List Nat) : Bool :=
  (o.operands.toList.all fun x => (svN (ρ x)).all ts.contains) && ts.all fun n => (obN ob n).all ts.contains

def keysOK (ob ob' : Obs) (ts : List Nat) : Bool :=
  (ob'.all fun p => ts.contains p.1) && ts.all fun n => (get ob' n).isSome || (get ob n).isNone

/-- what must have come ahead: transitively -/
def closOf (ops : List Oper) : List (List Nat) :=
  ops.foldl (fun acc o => acc ++ [o.after.toList.foldl (fun l e => if Region.binds .any e then (if l.contains e.on then l else (e.on :: l) ++ (acc.getD e.on []).filter fun j => !l.contains j && j != e.on) else l) []]) []

/-- the form of a region whose order does not matter -/
def drawOK (ops : List Oper) (cl : List (List Nat)) : Bool :=
  let n := ops.length
  Region.noSelect ops.toArray && decide (cl.length = n) &&
  (List.range n).all fun i =>
    match ops[i]? with
    | none => false
    | some o =>
      let ci := cl.getD i []
      (ci.all fun j => decide (j < i)) &&
      (o.after.toList.all fun e => !Region.binds .any e || decide (e.on < i)) &&
      -- the closure: each one's grounds
      (ci.all fun j => o.after.toList.any fun e => Region.binds .any e && (e.on == j || (cl.getD e.on []).contains j)) &&
      (List.range n).all fun j =>
        match ops[j]? with
        | none => false
        | some p =>
          j == i || (ci.contains j || (cl.getD j []).contains i ||
            (match p.dst with | some d => !(o.looksAt ops.toArray).contains d | none => true)) &&
          (match p.dst with | some d => o.dst != some d | none => true)

structure Log where
  n : List (Nat × List Nat)
  c : List (Nat × List Nat)

def disj (a b : List Nat) : Bool := a.all fun x => !b.contains x

/-- the operations in the text's order -/
def evalDraw (E : Env) (ops : Array Oper) (cl : List (List Nat)) {R : Type} : List Nat → St → Log → (St → Option R) → Option R
  | [], σ, _, k => k σ
  | i :: rest, σ, lg, k =>
    match ops[i]? with
    | none => none
    | some o =>
      let run (sl : List SV) : Option R :=
        if isCh E o.op = true then
          let ts := touched E (o.dst.getD 0) o.op (opd sl) σ.ob
          if ((lg.n.all fun p => (cl.getD i []).contains p.1 || disj p.2 ts) && (lg.c.all fun p => (cl.getD i []).contains p.1 || disj p.2 ts) && okT o.op (opd sl) σ.ob ts) = true then
            exec E (o.dst.getD 0) o.op (opd sl) (restr σ.ob ts) fun v ob =>
              if keysOK (restr σ.ob ts) ob ts = true then evalDraw E ops cl rest ⟨putD sl o.dst v, merge σ.ob ob ts⟩ { lg with c := (i, ts) :: lg.c } k else none
          else none
        else
          let ns := namesN o.op (opd sl)
          if (lg.c.all fun p => (cl.getD i []).contains p.1 || disj ns p.2) = true then
            execN E o.op (opd sl) σ.ob fun v => evalDraw E ops cl rest ⟨putD sl o.dst v, σ.ob⟩ { lg with n := (i, ns) :: lg.n } k
          else none
      match o.guard with
      | none => run σ.sl
      | some (j, want) =>
        match (ops[j]?).bind (·.dst) with
        | none => none
        | some g =>
          match σ.sl.getD g .undef with
          | .bool b =>
            if b then
              (if want then run (setAt σ.sl g (.bool true)) else evalDraw E ops cl rest ⟨putD (setAt σ.sl g (.bool true)) o.dst .skip, σ.ob⟩ lg k)
            else
              (if want then evalDraw E ops cl rest ⟨putD (setAt σ.sl g (.bool false)) o.dst .skip, σ.ob⟩ lg k else run (setAt σ.sl g (.bool false)))
          | .skip => evalDraw E ops cl rest ⟨putD σ.sl o.dst .skip, σ.ob⟩ lg k
          | _ => none

inductive Xt where
  | normal
  | exit (id : Nat)
  | ret

/-- where states are put into a form: at loops, and where ways meet -/
inductive H where
  | z                              -- nothing below
  | two (a b : H)
  | one (a : H)
  | loop (t : Tm) (h : H)
  | cut (t : Tm) (h : H)           -- ways meet behind this code; no other exits
  | cutx (t : Tm) (h : H)          -- the same, with other exits
  | cutr (t : Tm) (h : H)          -- the same, where the only other way out is a return

def H.l : H → H | .two a _ => a | _ => .z
def H.r : H → H | .two _ b => b | _ => .z
def H.i : H → H | .one a => a | _ => .z

/-- a template's data; the boxes that came in keep their names -/
def Tm.matK (kp : List Nat) (t : Tm) (σ : St) : Option t.T :=
  match t.mat σ.sl σ.ob with
  | some (x, ms) => if (kp.all fun m => match look ms.mu m with | some (.ob n g off) => n == m && g == 0 && off == 0 | _ => false) = true then some x else none
  | none => none

/-- a loop: from the template's data on -/
def loopF {R : Type} (kp : List Nat) (t : Tm) (n : Nat) (body : St → (Xt → St → Option R) → Option R) (k : Xt → St → Option R) : Nat → t.T → Option R
  | 0, _ => none
  | f + 1, x => body (t.build n x) fun e σ =>
    match e with
    | .normal => match t.matK kp σ with | some x' => loopF kp t n body k f x' | none => none
    | .exit j => k (.exit j) σ
    | .ret => k .ret σ

/-- a piece of code whose ways may meet again behind it -/
def cutting {R : Type} (kp : List Nat) (N : Nat) (h : H) (body : H → (R' : Type) → (Xt → St → Option R') → Option R') (k : Xt → St → Option R) : Option R :=
  match h with
  | .cut t h =>
    (body h t.T fun e σ => match e with | .normal => t.matK kp σ | _ => none).bind fun x => k .normal (t.build N x)
  | .cutx t h =>
    (body h (R ⊕ t.T) fun e σ => match e with | .normal => (t.matK kp σ).map Sum.inr | .exit j => (k (.exit j) σ).map Sum.inl | .ret => (k .ret σ).map Sum.inl).bind fun x =>
      match x with | .inl r => some r | .inr x => k .normal (t.build N x)
  | .cutr t h =>
    (body h (R ⊕ t.T) fun e σ => match e with | .normal => (t.matK kp σ).map Sum.inr | .exit _ => none | .ret => (k .ret σ).map Sum.inl).bind fun x =>
      match x with | .inl r => some r | .inr x => k .normal (t.build N x)
  | h => body h R k

def evalCode (E : Env) (kp : List Nat) (N : Nat) : Code → H → {R : Type} → St → (Xt → St → Option R) → Option R
  | .skip, _, _, σ, k => k .normal σ
  | .label _, _, _, σ, k => k .normal σ
  | .exit id, _, _, σ, k => k (.exit id) σ
  | .ret, _, _, σ, k => k .ret σ
  | .region _ ops draw, h, _, σ, k => cutting kp N h (fun _ _ k => if draw then (let cl := closOf ops.toList; if (E.P.follows .mixedOrders && drawOK ops.toList cl) = true then evalDraw E ops cl (List.range ops.size) σ ⟨[], []⟩ (k .normal) else none) else evalOps E ops (List.range ops.size) σ (k .normal)) k
  | .seq a b, h, _, σ, k => cutting kp N h (fun h _ k => evalCode E kp N a h.l σ fun e σ' => match e with | .normal => evalCode E kp N b h.r σ' k | .exit j => k (.exit j) σ' | .ret => k .ret σ') k
  | .cond c a b, h, _, σ, k =>
    cutting kp N h (fun h _ k =>
      match opd σ.sl c with
      | .bool x => if x then evalCode E kp N a h.l σ k else evalCode E kp N b h.r σ k
      | _ => none) k
  | .block id c, h, _, σ, k =>
    cutting kp N h (fun h _ k => evalCode E kp N c h.i σ fun e σ' => match e with | .exit j => if j = id then k .normal σ' else k (.exit j) σ' | .normal => k .normal σ' | .ret => k .ret σ') k
  | .scope c, h, _, σ, k => cutting kp N h (fun h _ k => evalCode E kp N c h.i σ k) k
  | .loop c, h, _, σ, k =>
    match h with
    | .loop t h => match t.matK kp σ with | some x => loopF kp t N (fun σ k => evalCode E kp N c h σ k) k E.fuel x | none => none
    | _ => none
  | _, _, _, _, _ => none

/-- the results, and what became of the objects that came in -/
def loadBox (E : Env) (σ : St) (a t : Nat) : Option SV :=
  match σ.sl.getD a .undef with
  | .ptr n g off =>
    match E.ti t, get σ.ob n with
    | some ti, some ⟨g', .box cs⟩ => if g = g' then mkv ti.agg ti.cells ((cs.drop off).take ti.cells) else none
    | _, _ => none
  | _ => none

def resVals (E : Env) (σ : St) : List ResultVar → Option (List SV)
  | [] => some []
  | .tmp t :: r => match resVals E σ r with | some vs => some (σ.sl.getD t .undef :: vs) | none => none
  | .cell a t :: r =>
    match resVals E σ r, loadBox E σ a t with
    | some vs, some v => some (v :: vs)
    | _, _ => none

def res1 : List SV → SV
  | [v] => v
  | vs => .tup vs

/-- the names of the boxes, and of the arrays that are written in place -/
def boxes : List (Nat × ObT) → List Nat
  | [] => []
  | (m, .box _) :: r => m :: boxes r
  | (m, .arr _) :: r => if isK m then m :: boxes r else boxes r
  | (_, .iter) :: r => boxes r

/-- slots that name them -/
def boxSl (i : Nat) : List Nat → List (Nat × Lf)
  | [] => []
  | m :: r => (i, if isK m then .own m else .ptr m) :: boxSl (i + 1) r

/-- a box that comes out came in; so did an array that is written in place -/
def inOut (tin out : List (Nat × ObT)) : Bool :=
  out.all fun p => match p.2 with
    | .box _ => (match look tin p.1 with | some (.box _) => !isK p.1 | _ => false)
    | .arr _ => if isK p.1 then (match look tin p.1 with | some (.arr _) => true | _ => false) else true
    | .iter => true

def finish (E : Env) (rs : List ResultVar) (res : Lf) (out : List (Nat × ObT)) (σ : St) : Option (res.T × ObTs out) :=
  match resVals E σ rs with
  | none => none
  | some vs =>
    let bs := boxes out
    match Tm.matK bs ⟨(0, res) :: boxSl 1 bs, out⟩ ⟨res1 vs :: bs.map (fun m => if isK m then .own m 0 else .ptr m 0 0), σ.ob⟩ with
    | none => none
    | some x => some (x.1.1, x.2)

def evalFn (E : Env) (fn : Func) (tin : Tm) (res : Lf) (out : List (Nat × ObT)) (h : H) (x : tin.T) : Option (res.T × ObTs out) :=
  match fn.body with
  | none => none
  | some c =>
    if (nodupKeys tin.ob && nodupKeys out && inOut tin.ob out) = true then
      evalCode E (boxes out) fn.ntmps c h (tin.build fn.ntmps x) fun e σ => match e with | .exit _ => none | .normal => finish E fn.results.toList res out σ | .ret => finish E fn.results.toList res out σ
    else none

end Go.Vm
