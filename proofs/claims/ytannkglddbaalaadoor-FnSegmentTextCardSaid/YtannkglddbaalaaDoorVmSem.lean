/-
  What the machine's states say of the model's worlds.
-/
import Derived.Test.YtannkglddbaalaaDoorVmDefs
import Derived.Deep.MidRow
import Derived.Deep.AppendSrc
import Derived.Below
set_option linter.unusedSimpArgs false
set_option linter.unusedVariables false
namespace Go.Vm

/-! #### Whole numbers -/
def has (k : IntKind) (n : Int) : Prop := k.min ≤ n ∧ n ≤ k.max

theorem wrap_has (k : IntKind) (n : Int) : has k (k.wrap n) := by
  unfold has IntKind.wrap IntKind.min IntKind.max
  cases k <;> simp [IntKind.bits, IntKind.signed] <;> (try split) <;> omega

theorem zero_has (k : IntKind) : has k 0 := by
  unfold has IntKind.min IntKind.max
  cases k <;> simp [IntKind.bits, IntKind.signed]

theorem has_between {k : IntKind} {a n : Int} (h : has k a) (h1 : 0 ≤ a → 0 ≤ n ∧ n ≤ a) (h2 : a < 0 → a ≤ n ∧ n ≤ 0) : has k n := by
  have hz := zero_has k
  unfold has at *
  rcases Int.lt_or_le a 0 with h0 | h0
  · have := h2 h0; omega
  · have := h1 h0; omega

theorem tmod_abs (a b : Int) : (a.tmod b).natAbs ≤ a.natAbs := by
  rw [Int.natAbs_tmod]
  exact Nat.mod_le _ _

theorem tmod_has {k : IntKind} {a b : Int} (h : has k a) : has k (a.tmod b) := by
  have h3 := tmod_abs a b
  refine has_between h (fun h0 => ?_) (fun h0 => ?_)
  · have := Int.tmod_nonneg b h0
    omega
  · have h4 := Int.tmod_nonneg b (show 0 ≤ -a by omega)
    rw [Int.neg_tmod] at h4
    omega

theorem fdiv_has {k : IntKind} {a : Int} (n : Nat) (h : has k a) : has k (a.fdiv (2 ^ n)) := by
  have hp : (0 : Int) < 2 ^ n := by exact_mod_cast Nat.two_pow_pos n
  rw [Int.fdiv_eq_ediv_of_nonneg _ (by omega)]
  refine has_between h (fun h0 => ⟨Int.ediv_nonneg h0 (by omega), Int.ediv_le_self _ h0⟩) (fun h0 => ⟨?_, ?_⟩)
  · have h1 : a * 2 ^ n ≤ a * 1 := Int.mul_le_mul_of_nonpos_left (by omega) (by omega)
    exact (Int.le_ediv_iff_mul_le hp).2 (by omega)
  · have := Int.ediv_neg_of_neg_of_pos h0 hp
    omega

theorem i64_of_le {n : Int} (h0 : 0 ≤ n) (h : n ≤ 9223372036854775807) : has .i64 n := by
  unfold has IntKind.min IntKind.max
  simp [IntKind.bits, IntKind.signed]
  omega

theorem u8_has {n : Int} : has .u8 n ↔ 0 ≤ n ∧ n < 256 := by
  unfold has IntKind.min IntKind.max
  simp [IntKind.bits, IntKind.signed]
  omega

/-! #### Strings -/
def toBA (s : List Int) : ByteArray := ⟨(s.map fun n => UInt8.ofNat n.toNat).toArray⟩
def bytesOK (s : List Int) : Prop := ∀ x ∈ s, 0 ≤ x ∧ x < 256
def strOK (s : List Int) : Prop := bytesOK s ∧ s.length ≤ 9223372036854775807

theorem toBA_size (s : List Int) : (toBA s).size = s.length := by
  show (toBA s).data.size = _
  simp [toBA]

/-! #### Data in memory -/
def Rd (w : World) (S : Nat → Nat → Prop) : (e : K) → e.T → List Value → Prop
  | .int k, n, vs => vs = [.int k n] ∧ has k n
  | .bool, b, vs => vs = [.bool b]
  | .str, s, vs => vs = [.string (toBA s)] ∧ strOK s
  | .sl e, xs, vs => ∃ A len cap, vs = [.slice A len cap] ∧ xs.length = len ∧ len ≤ cap ∧ xs.length ≤ 9223372036854775807 ∧
      (xs ≠ [] → ∃ b off, A = some ⟨b, off, none⟩ ∧ ∀ i (h : i < xs.length), ∃ cs, Rd w S e xs[i] cs ∧ w.rangeAt b (off + i * e.cells) cs ∧ ∀ j, j < e.cells → S b (off + i * e.cells + j))
  | .pair a b, x, vs => ∃ v1 v2, vs = v1 ++ v2 ∧ Rd w S a x.1 v1 ∧ Rd w S b x.2 v2
  | .unit, _, vs => vs = []

theorem Rd.len {w : World} {S : Nat → Nat → Prop} : ∀ {e : K} {x : e.T} {vs : List Value}, Rd w S e x vs → vs.length = e.cells
  | .int _, _, _, h => by rw [h.1]; rfl
  | .bool, _, _, h => by simp only [Rd] at h; rw [h]; rfl
  | .str, _, _, h => by rw [h.1]; rfl
  | .sl _, _, _, h => by obtain ⟨_, _, _, rfl, _⟩ := h; rfl
  | .pair a b, _, _, h => by
    obtain ⟨v1, v2, rfl, h1, h2⟩ := h
    rw [List.length_append, h1.len, h2.len]; rfl
  | .unit, _, _, h => by simp only [Rd] at h; rw [h]; rfl

theorem Rd.one {w : World} {S : Nat → Nat → Prop} : ∀ {e : K} {x : e.T} {vs : List Value}, Rd w S e x vs → ∀ v ∈ vs, v.oneCell' = true
  | .int _, _, _, h, v, hv => by rw [h.1] at hv; simp at hv; subst hv; rfl
  | .bool, _, _, h, v, hv => by simp only [Rd] at h; rw [h] at hv; simp at hv; subst hv; rfl
  | .str, _, _, h, v, hv => by rw [h.1] at hv; simp at hv; subst hv; rfl
  | .sl _, _, _, h, v, hv => by obtain ⟨_, _, _, rfl, _⟩ := h; simp at hv; subst hv; rfl
  | .pair a b, _, _, h, v, hv => by
    obtain ⟨v1, v2, rfl, h1, h2⟩ := h
    rcases List.mem_append.1 hv with hv | hv
    · exact h1.one v hv
    · exact h2.one v hv
  | .unit, _, _, h, v, hv => by simp only [Rd] at h; rw [h] at hv; cases hv

/-- every cell of S reads as it did -/
def Keeps (S : Nat → Nat → Prop) (w w' : World) : Prop := ∀ b o v, S b o → w.cell? ⟨b, o, none⟩ = some v → w'.cell? ⟨b, o, none⟩ = some v

theorem Rd.mono {w w' : World} {S S' : Nat → Nat → Prop} (hS : ∀ b o, S b o → S' b o) (hk : Keeps S w w') :
    ∀ {e : K} {x : e.T} {vs : List Value}, Rd w S e x vs → Rd w' S' e x vs
  | .int _, _, _, h => h
  | .bool, _, _, h => h
  | .str, _, _, h => h
  | .sl e, xs, vs, h => by
    obtain ⟨A, len, cap, h1, h2, h3, h4, h5⟩ := h
    refine ⟨A, len, cap, h1, h2, h3, h4, fun hne => ?_⟩
    obtain ⟨b, off, hA, h6⟩ := h5 hne
    refine ⟨b, off, hA, fun i hi => ?_⟩
    obtain ⟨cs, h7, h8, h9⟩ := h6 i hi
    refine ⟨cs, h7.mono hS hk, fun j v hv => ?_, fun j hj => hS _ _ (h9 j hj)⟩
    have hj : j < e.cells := by
      have := h7.len
      have := (List.getElem?_eq_some_iff.1 hv).1
      omega
    exact hk _ _ _ (h9 j hj) (h8 j v hv)
  | .pair a b, _, _, h => by
    obtain ⟨v1, v2, h0, h1, h2⟩ := h
    exact ⟨v1, v2, h0, h1.mono hS hk, h2.mono hS hk⟩
  | .unit, _, _, h => h

/-! #### Values -/
inductive Loc where
  | blk (b off : Nat)
  | hdr (A : Option Addr) (len cap : Nat)

structure Gh where
  β : Nat → Nat → Option Loc
  S : Nat → Nat → Prop

mutual
def V (w : World) (γ : Gh) : SV → Value → Prop
  | .undef, _ => True
  | .skip, v => v = Go.undef
  | .int k n, v => v = .int k n ∧ has k n
  | .bool b, v => v = .bool b
  | .str s, v => v = .string (toBA s) ∧ strOK s
  | .ro e xs, v => Rd w γ.S (.sl e) xs [v]
  | .own n g, v => ∃ A l c, γ.β n g = some (.hdr A l c) ∧ v = .slice A l c
  | .nilsl, v => v = .slice none 0 0
  | .ptr n g off, v => ∃ b o, γ.β n g = some (.blk b o) ∧ v = .pointer (some ⟨b, o + off, none⟩)
  | .elt e n g i off, v => ∃ b o l c, γ.β n g = some (.hdr (some ⟨b, o, none⟩) l c) ∧ 0 ≤ i ∧ i < l ∧ v = .pointer (some ⟨b, o + i.toNat * e.cells + off, none⟩)
  | .relt e x off, v => ∃ b o cs, v = .pointer (some ⟨b, o + off, none⟩) ∧ Rd w γ.S e x cs ∧ w.rangeAt b o cs ∧ ∀ j, j < e.cells → γ.S b (o + j)
  | .nilptr, v => v = .pointer none
  | .err b, v => if b then v = .nilIface else ∃ t x, v = .iface t x
  | .iter n g, v => ∃ b, γ.β n g = some (.blk b 0) ∧ v = .pointer (some ⟨b, 0, none⟩)
  | .agg cs, v => ∃ vs : List Value, v = .agg vs.toArray ∧ VL w γ cs vs ∧ ∀ u ∈ vs, u.oneCell' = true
  | .tup cs, v => ∃ vs : List Value, v = .tuple vs.toArray ∧ VL w γ cs vs
  | .fn f caps, v => ∃ vs : List Value, v = .func (.func f) #[] vs.toArray ∧ VL w γ caps vs
def VL (w : World) (γ : Gh) : List SV → List Value → Prop
  | [], vs => vs = []
  | c :: cs, vs => match vs with | v :: vs => V w γ c v ∧ VL w γ cs vs | [] => False
end

/-- a later world, and what is known of it -/
structure Le (γ : Gh) (w : World) (γ' : Gh) (w' : World) : Prop where
  β : ∀ n g l, γ.β n g = some l → γ'.β n g = some l
  S : ∀ b o, γ.S b o → γ'.S b o
  keeps : Keeps γ.S w w'

theorem Le.refl (γ : Gh) (w : World) : Le γ w γ w := ⟨fun _ _ _ h => h, fun _ _ h => h, fun _ _ _ _ h => h⟩

theorem Le.trans {γ γ' γ'' : Gh} {w w' w'' : World} (h : Le γ w γ' w') (h' : Le γ' w' γ'' w'') : Le γ w γ'' w'' :=
  ⟨fun n g l x => h'.β n g l (h.β n g l x), fun b o x => h'.S b o (h.S b o x), fun b o v s x => h'.keeps b o v (h.S b o s) (h.keeps b o v s x)⟩

mutual
theorem V.mono {γ γ' : Gh} {w w' : World} (h : Le γ w γ' w') : ∀ {c : SV} {v : Value}, V w γ c v → V w' γ' c v
  | .undef, _, _ => by simp only [V]
  | .skip, _, x => by simp only [V] at x ⊢; exact x
  | .int _ _, _, x => by simp only [V] at x ⊢; exact x
  | .bool _, _, x => by simp only [V] at x ⊢; exact x
  | .str _, _, x => by simp only [V] at x ⊢; exact x
  | .ro e xs, v, x => by simp only [V] at x ⊢; exact Rd.mono h.S h.keeps x
  | .own n g, _, x => by
    simp only [V] at x ⊢
    obtain ⟨A, l, c, h1, h2⟩ := x
    exact ⟨A, l, c, h.β _ _ _ h1, h2⟩
  | .nilsl, _, x => by simp only [V] at x ⊢; exact x
  | .ptr n g off, _, x => by
    simp only [V] at x ⊢
    obtain ⟨b, o, h1, h2⟩ := x
    exact ⟨b, o, h.β _ _ _ h1, h2⟩
  | .elt e n g i off, _, x => by
    simp only [V] at x ⊢
    obtain ⟨b, o, l, c, h1, h2⟩ := x
    exact ⟨b, o, l, c, h.β _ _ _ h1, h2⟩
  | .relt e y off, _, x => by
    simp only [V] at x ⊢
    obtain ⟨b, o, cs, h1, h2, h3, h4⟩ := x
    refine ⟨b, o, cs, h1, h2.mono h.S h.keeps, fun j u hu => ?_, fun j hj => h.S _ _ (h4 j hj)⟩
    have hj : j < e.cells := by
      have := h2.len
      have := (List.getElem?_eq_some_iff.1 hu).1
      omega
    exact h.keeps _ _ _ (h4 j hj) (h3 j u hu)
  | .nilptr, _, x => by simp only [V] at x ⊢; exact x
  | .err _, _, x => by simp only [V] at x ⊢; exact x
  | .iter n g, _, x => by
    simp only [V] at x ⊢
    obtain ⟨b, h1, h2⟩ := x
    exact ⟨b, h.β _ _ _ h1, h2⟩
  | .agg cs, _, x => by
    simp only [V] at x ⊢
    obtain ⟨vs, h1, h2, h3⟩ := x
    exact ⟨vs, h1, VL.mono h h2, h3⟩
  | .tup cs, _, x => by
    simp only [V] at x ⊢
    obtain ⟨vs, h1, h2⟩ := x
    exact ⟨vs, h1, VL.mono h h2⟩
  | .fn f caps, _, x => by
    simp only [V] at x ⊢
    obtain ⟨vs, h1, h2⟩ := x
    exact ⟨vs, h1, VL.mono h h2⟩
theorem VL.mono {γ γ' : Gh} {w w' : World} (h : Le γ w γ' w') : ∀ {cs : List SV} {vs : List Value}, VL w γ cs vs → VL w' γ' cs vs
  | [], _, x => by simp only [VL] at x ⊢; exact x
  | c :: cs, [], x => by simp only [VL] at x
  | c :: cs, v :: vs, x => by
    simp only [VL] at x ⊢
    exact ⟨V.mono h x.1, VL.mono h x.2⟩
end

/-! lists of cells -/
theorem VL.len {w : World} {γ : Gh} : ∀ {cs : List SV} {vs : List Value}, VL w γ cs vs → vs.length = cs.length
  | [], _, x => by simp only [VL] at x; rw [x]; rfl
  | c :: cs, [], x => by simp only [VL] at x
  | c :: cs, v :: vs, x => by simp only [VL] at x; simp [VL.len x.2]

theorem VL.append {w : World} {γ : Gh} : ∀ {cs ds : List SV} {vs us : List Value}, VL w γ cs vs → VL w γ ds us → VL w γ (cs ++ ds) (vs ++ us)
  | [], _, _, _, x, y => by simp only [VL] at x; rw [x]; exact y
  | c :: cs, _, [], _, x, _ => by simp only [VL] at x
  | c :: cs, _, v :: vs, _, x, y => by simp only [VL] at x; simp only [List.cons_append, VL]; exact ⟨x.1, VL.append x.2 y⟩

theorem VL.drop {w : World} {γ : Gh} : ∀ {cs : List SV} {vs : List Value} (n : Nat), VL w γ cs vs → VL w γ (cs.drop n) (vs.drop n)
  | _, _, 0, x => by simpa using x
  | [], _, n + 1, x => by simp only [VL] at x; rw [x]; simp [VL]
  | c :: cs, [], _, x => by simp only [VL] at x
  | c :: cs, v :: vs, n + 1, x => by simp only [VL] at x; simpa using VL.drop n x.2

theorem VL.take {w : World} {γ : Gh} : ∀ {cs : List SV} {vs : List Value} (n : Nat), VL w γ cs vs → VL w γ (cs.take n) (vs.take n)
  | _, _, 0, _ => by simp [VL]
  | [], _, n + 1, x => by simp only [VL] at x; rw [x]; simp [VL]
  | c :: cs, [], _, x => by simp only [VL] at x
  | c :: cs, v :: vs, n + 1, x => by simp only [VL] at x; simp only [List.take_succ_cons, VL]; exact ⟨x.1, VL.take n x.2⟩

theorem VL.get {w : World} {γ : Gh} : ∀ {cs : List SV} {vs : List Value}, VL w γ cs vs → ∀ (i : Nat) (c : SV), cs[i]? = some c → ∃ v : Value, vs[i]? = some v ∧ V w γ c v
  | [], _, x, i, c, h => by simp at h
  | c :: cs, [], x, _, _, _ => by simp only [VL] at x
  | c :: cs, v :: vs, x, 0, d, h => by
    simp only [VL] at x
    simp at h
    subst h
    exact ⟨v, rfl, x.1⟩
  | c :: cs, v :: vs, x, i + 1, d, h => by
    simp only [VL] at x
    simpa using VL.get x.2 i d (by simpa using h)

/-- data, as the machine writes it -/
theorem Rd.ofK {w : World} {γ : Gh} : ∀ {e : K} {x : e.T} {vs : List Value}, Rd w γ.S e x vs → VL w γ (Vm.ofK e x) vs
  | .int _, _, _, h => by rw [h.1]; simp only [Vm.ofK, VL, V]; exact ⟨⟨trivial, h.2⟩, trivial⟩
  | .bool, _, _, h => by simp only [Rd] at h; rw [h]; simp only [Vm.ofK, VL, V, and_self]
  | .str, _, _, h => by rw [h.1]; simp only [Vm.ofK, VL, V]; exact ⟨⟨trivial, h.2⟩, trivial⟩
  | .sl e, xs, vs, h => by
    have h' := h
    obtain ⟨A, len, cap, rfl, _⟩ := h'
    simp only [Vm.ofK, VL, V]
    exact ⟨h, trivial⟩
  | .pair a b, _, _, h => by
    obtain ⟨v1, v2, rfl, h1, h2⟩ := h
    exact VL.append h1.ofK h2.ofK
  | .unit, _, _, h => by simp only [Rd] at h; rw [h]; simp only [Vm.ofK, VL]

end Go.Vm
