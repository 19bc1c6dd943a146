/-
  Names for what a walk comes to.
-/
import Derived.Test.YtannkglddbaalaaDoorVmFn
set_option linter.unusedSimpArgs false
set_option linter.unusedVariables false
namespace Go.Vm

/-- code within code -/
def sub : Code → List Nat → Code
  | c, [] => c
  | .seq a b, i :: r => if i = 0 then sub a r else sub b r
  | .cond _ a b, i :: r => if i = 0 then sub a r else sub b r
  | .block _ c, _ :: r => sub c r
  | .loop c, _ :: r => sub c r
  | .scope c, _ :: r => sub c r
  | c, _ => c

def bodyOf (fn : Func) : Code := fn.body.getD .skip

section
variable {R : Type}
def kSeq (E : Env) (kp : List Nat) (N : Nat) (b : Code) (h : H) (k : Xt → St → Option R) : Xt → St → Option R := fun e σ =>
  match e with | .normal => evalCode E kp N b h σ k | .exit j => k (.exit j) σ | .ret => k .ret σ
def kBlock (id : Nat) (k : Xt → St → Option R) : Xt → St → Option R := fun e σ =>
  match e with | .exit j => if j = id then k .normal σ else k (.exit j) σ | .normal => k .normal σ | .ret => k .ret σ
def kFin (E : Env) (fn : Func) (res : Lf) (out : List (Nat × ObT)) : Xt → St → Option (res.T × ObTs out) := fun e σ =>
  match e with | .exit _ => none | .normal => finish E fn.results.toList res out σ | .ret => finish E fn.results.toList res out σ
def kCutr (kp : List Nat) (t : Tm) (kr : St → Option R) : Xt → St → Option (R ⊕ t.T) := fun e σ =>
  match e with | .normal => (t.matK kp σ).map Sum.inr | .exit _ => none | .ret => (kr σ).map Sum.inl
def kFinR (E : Env) (fn : Func) (res : Lf) (out : List (Nat × ObT)) : St → Option (res.T × ObTs out) := fun σ => finish E fn.results.toList res out σ
def kCut (kp : List Nat) (t : Tm) : Xt → St → Option t.T := fun e σ => match e with | .normal => t.matK kp σ | _ => none
end

/-- a loop of a function -/
def lpF {R : Type} (E : Env) (kp : List Nat) (t : Tm) (N : Nat) (c : Code) (h : H) (k : Xt → St → Option R) : Nat → t.T → Option R :=
  loopF kp t N (fun σ k => evalCode E kp N c h σ k) k

/-- its round, with what follows it given -/
def rnd {R : Type} (E : Env) (kp : List Nat) (t : Tm) (N : Nat) (c : Code) (h : H) (k : Xt → St → Option R) (lp : t.T → Option R) (x : t.T) : Option R :=
  evalCode E kp N c h (t.build N x) fun e σ =>
    match e with | .normal => (match t.matK kp σ with | some x' => lp x' | none => none) | .exit j => k (.exit j) σ | .ret => k .ret σ

theorem lpF_succ {R : Type} (E : Env) (kp : List Nat) (t : Tm) (N : Nat) (c : Code) (h : H) (k : Xt → St → Option R) (f : Nat) (x : t.T) :
    lpF E kp t N c h k (f + 1) x = rnd E kp t N c h k (lpF E kp t N c h k f) x := rfl

theorem lpF_zero {R : Type} (E : Env) (kp : List Nat) (t : Tm) (N : Nat) (c : Code) (h : H) (k : Xt → St → Option R) (x : t.T) : lpF E kp t N c h k 0 x = none := rfl

/-- callees -/
theorem ct_cons {P : Program} {gl : List (Nat × Obj)} {f : Nat} {c : Con} {ct : List (Nat × Con)} (h : Sat P gl f c) (hs : ∀ f c, look ct f = some c → Sat P gl f c) : ∀ f' c', look ((f, c) :: ct) f' = some c' → Sat P gl f' c' := by
  intro f' c' h'
  simp only [look] at h'
  split at h'
  · rename_i e; subst e; cases h'; exact h
  · exact hs _ _ h'

/-- a contract that promises nothing -/
theorem sat_none {P : Program} {gl : List (Nat × Obj)} {f : Nat} {c : Con} (he : Enters P f) (h : ∀ n x, c.g n x = none) : Sat P gl f c :=
  ⟨he, fun n x y hy => by rw [h] at hy; cases hy⟩

/-- contracts by depth, all in one -/
theorem sat_diag {P : Program} {gl : List (Nat × Obj)} {f : Nat} {tin : Tm} {res : Lf} {out : List (Nat × ObT)} {g : Nat → Nat → tin.T → Option (res.T × ObTs out)} {g' : Nat → tin.T → Option (res.T × ObTs out)}
    (hs : ∀ m, Sat P gl f ⟨tin, res, out, fun n x => g m n x⟩) (h : ∀ n x, g' n x = g n n x) : Sat P gl f ⟨tin, res, out, g'⟩ :=
  ⟨(hs 0).1, fun n x y hy => (hs n).2 n x y ((h n x).symm.trans hy)⟩

end Go.Vm
