/-
  Plain facts on the words of the printed texts.
-/
import Derived.Test.YtannkglddbaalaaDoorVmLibPure
set_option linter.unusedSimpArgs false
set_option linter.unusedVariables false
namespace Go.Vm

theorem wi64_def (n : Int) : wi64 n = if n % 18446744073709551616 ≥ 9223372036854775808 then n % 18446744073709551616 - 18446744073709551616 else n % 18446744073709551616 := by
  show (if ((true && decide (n % 2 ^ 64 ≥ 2 ^ 63)) = true) then n % 2 ^ 64 - 2 ^ 64 else n % 2 ^ 64) = _
  simp
theorem wi64_id {n : Int} (h0 : -9223372036854775808 ≤ n) (h1 : n ≤ 9223372036854775807) : wi64 n = n := by
  rw [wi64_def]; split <;> omega
theorem wi64_bd (n : Int) : -9223372036854775808 ≤ wi64 n ∧ wi64 n ≤ 9223372036854775807 := by
  rw [wi64_def]; split <;> omega
theorem wu64_id {n : Int} (h0 : 0 ≤ n) (h1 : n ≤ 18446744073709551615) : wu64 n = n := by
  simp [wu64, IntKind.wrap, IntKind.signed, IntKind.bits]; omega
theorem wu64_bd (n : Int) : 0 ≤ wu64 n ∧ wu64 n ≤ 18446744073709551615 := by
  simp [wu64, IntKind.wrap, IntKind.signed, IntKind.bits]; omega
theorem wu8_id {n : Int} (h0 : 0 ≤ n) (h1 : n ≤ 255) : wu8 n = n := by
  simp [wu8, IntKind.wrap, IntKind.signed, IntKind.bits]; omega
theorem wu8_bd (n : Int) : 0 ≤ wu8 n ∧ wu8 n < 256 := by
  simp [wu8, IntKind.wrap, IntKind.signed, IntKind.bits]; omega
theorem ixor64_bd (a b : Int) : 0 ≤ ixor .u64 a b ∧ ixor .u64 a b ≤ 18446744073709551615 := wu64_bd _

theorem gd_pos {α : Type} {p : Prop} [Decidable p] {x : Option α} (h : p) : gd p x = x := if_pos h
theorem ngd_neg {α : Type} {p : Prop} [Decidable p] {x : Option α} (h : ¬ p) : ngd p x = x := if_neg h
theorem sbind_inl {α β : Type} {r : β} {f : α → Option β} : sbind (some (.inl r)) f = some r := rfl
theorem sbind_inr {α β : Type} {x : α} {f : α → Option β} : sbind (some (.inr x)) f = f x := rfl
theorem bind_some' {α β : Type} {x : α} {f : α → Option β} : (some x).bind f = f x := rfl

/-- something is said, and it is so -/
def Ret {α : Type} (o : Option α) (Q : α → Prop) : Prop := ∃ y, o = some y ∧ Q y
theorem Ret.some {α : Type} {y : α} {Q : α → Prop} (h : Q y) : Ret (some y) Q := ⟨y, rfl, h⟩
theorem Ret.bind {α β : Type} {o : Option α} {f : α → Option β} {Q : α → Prop} {R : β → Prop} (h : Ret o Q) (h2 : ∀ y, Q y → Ret (f y) R) : Ret (o.bind f) R := by
  obtain ⟨y, rfl, hy⟩ := h; exact h2 y hy
theorem Ret.mono {α : Type} {o : Option α} {Q R : α → Prop} (h : Ret o Q) (h2 : ∀ y, Q y → R y) : Ret o R := by
  obtain ⟨y, rfl, hy⟩ := h; exact ⟨y, rfl, h2 y hy⟩
theorem Ret.gd {α : Type} {p : Prop} [Decidable p] {x : Option α} {Q : α → Prop} (h : p) (h2 : Ret x Q) : Ret (gd p x) Q := by rw [gd_pos h]; exact h2
theorem Ret.ngd {α : Type} {p : Prop} [Decidable p] {x : Option α} {Q : α → Prop} (h : ¬ p) (h2 : Ret x Q) : Ret (ngd p x) Q := by rw [ngd_neg h]; exact h2
theorem Ret.ite {α : Type} {p : Prop} [Decidable p] {x y : Option α} {Q : α → Prop} (h : p → Ret x Q) (h2 : ¬ p → Ret y Q) : Ret (if p then x else y) Q := by
  split
  · exact h ‹_›
  · exact h2 ‹_›
theorem Ret.sbind {α β : Type} {o : Option (β ⊕ α)} {f : α → Option β} {Q : β ⊕ α → Prop} {R : β → Prop} (h : Ret o Q) (h1 : ∀ r, Q (.inl r) → R r)
    (h2 : ∀ y, Q (.inr y) → Ret (f y) R) : Ret (sbind o f) R := by
  obtain ⟨y, rfl, hy⟩ := h
  cases y with
  | inl r => exact ⟨r, rfl, h1 r hy⟩
  | inr x => exact h2 x hy
theorem Ret.eq {α : Type} {o : Option α} {Q : α → Prop} {y : α} (h : Ret o Q) (e : o = Option.some y) : Q y := by
  obtain ⟨z, hz, hq⟩ := h; rw [e] at hz; cases hz; exact hq

/-! numbers' texts -/
def decI (n : Int) : List Int := un8 (Lib.decDigits n.toNat)

theorem un8_app (a b : List UInt8) : un8 (a ++ b) = un8 a ++ un8 b := by simp [un8]
theorem decI_small {n : Int} (h0 : 0 ≤ n) (h : n < 10) : decI n = [48 + n] := by
  rw [decI, Lib.decDigits, dif_pos (by omega)]
  simp [un8]
  omega
theorem decI_big {n : Int} (h : 10 ≤ n) : decI n = decI (n / 10) ++ [48 + n % 10] := by
  rw [decI, Lib.decDigits, dif_neg (by omega), un8_app, decI]
  have : (n / 10).toNat = n.toNat / 10 := by omega
  rw [this]
  simp [un8]
  omega

theorem decI_len : ∀ (k : Nat) {n : Int}, 0 ≤ n → n < 10 ^ (k + 1) → (decI n).length ≤ k + 1
  | 0, n, h0, h => by rw [decI_small h0 (by simpa using h)]; simp
  | k + 1, n, h0, h => by
    by_cases hn : n < 10
    · rw [decI_small h0 hn]; simp
    · rw [decI_big (by omega)]
      have := decI_len k (n := n / 10) (by omega) (by rw [Int.pow_succ] at h; omega)
      simp; omega

def isDig (c : Int) : Prop := 48 ≤ c ∧ c ≤ 57
theorem decI_digs (k : Nat) : ∀ {n : Int}, 0 ≤ n → n.toNat ≤ k → ∀ c ∈ decI n, isDig c := by
  induction k with
  | zero => intro n h0 h c hc; rw [decI_small h0 (by omega)] at hc; simp at hc; unfold isDig; omega
  | succ k ih =>
    intro n h0 h c hc
    by_cases hn : n < 10
    · rw [decI_small h0 hn] at hc; simp at hc; unfold isDig; omega
    · rw [decI_big (by omega)] at hc
      rcases List.mem_append.1 hc with hc | hc
      · exact ih (n := n / 10) (by omega) (by omega) c hc
      · simp at hc; unfold isDig; omega
theorem decI_dig {n : Int} (h0 : 0 ≤ n) : ∀ c ∈ decI n, isDig c := decI_digs n.toNat h0 (Nat.le_refl _)
theorem decI_ne (n : Int) : decI n ≠ [] := by
  rw [decI, Lib.decDigits]
  split <;> simp [un8]

/-- a number's first digit is no 0, but where it is all -/
theorem decI_head (k : Nat) : ∀ {n : Int}, 0 < n → n.toNat ≤ k → ∃ c r, decI n = c :: r ∧ 49 ≤ c ∧ c ≤ 57 := by
  induction k with
  | zero => intro n h0 h; omega
  | succ k ih =>
    intro n h0 h
    by_cases hn : n < 10
    · rw [decI_small (by omega) hn]; exact ⟨_, _, rfl, by omega, by omega⟩
    · rw [decI_big (by omega)]
      obtain ⟨c, r, e, h1, h2⟩ := ih (n := n / 10) (by omega) (by omega)
      rw [e]; exact ⟨c, r ++ _, rfl, h1, h2⟩

/-- the number that digits say -/
def valI (v : Int) : List Int → Int
  | [] => v
  | c :: r => valI (v * 10 + (c - 48)) r
theorem valI_app (v : Int) (a b : List Int) : valI v (a ++ b) = valI (valI v a) b := by
  induction a generalizing v with
  | nil => rfl
  | cons c r ih => exact ih _
theorem valI_decI (k : Nat) : ∀ {n : Int}, 0 ≤ n → n.toNat ≤ k → valI 0 (decI n) = n := by
  induction k with
  | zero => intro n h0 h; rw [decI_small h0 (by omega)]; simp [valI]; omega
  | succ k ih =>
    intro n h0 h
    by_cases hn : n < 10
    · rw [decI_small h0 hn]; simp [valI]; omega
    · rw [decI_big (by omega), valI_app, ih (n := n / 10) (by omega) (by omega)]
      simp [valI]; omega
theorem valI_bd : ∀ (w : List Int) {v : Int}, (∀ c ∈ w, isDig c) → 0 ≤ v → 0 ≤ valI v w ∧ valI v w < (v + 1) * 10 ^ w.length
  | [], v, _, h0 => by simp [valI]; omega
  | c :: r, v, h, h0 => by
    have hc : isDig c := h c (by simp)
    unfold isDig at hc
    have := valI_bd r (v := v * 10 + (c - 48)) (fun d hd => h d (by simp [hd])) (by omega)
    refine ⟨this.1, Int.lt_of_lt_of_le this.2 ?_⟩
    simp only [List.length_cons, Int.pow_succ]
    have h10 : (0 : Int) ≤ 10 ^ r.length := Int.le_of_lt (Int.pow_pos (by omega))
    calc (v * 10 + (c - 48) + 1) * 10 ^ r.length ≤ ((v + 1) * 10) * 10 ^ r.length := Int.mul_le_mul_of_nonneg_right (by omega) h10
      _ = (v + 1) * (10 ^ r.length * 10) := by rw [Int.mul_assoc, Int.mul_comm 10]

/-! joined and cut words -/
theorem joinI_nil (sep : List Int) : joinI sep [] = [] := rfl
theorem joinI_one (sep a : List Int) : joinI sep [a] = a := by simp [joinI, List.intercalate]
theorem joinI_cons (sep a b : List Int) (r : List (List Int)) : joinI sep (a :: b :: r) = a ++ sep ++ joinI sep (b :: r) := by
  simp [joinI, List.intercalate]
theorem joinI_app (sep : List Int) : ∀ (xs : List (List Int)) (a : List Int), xs ≠ [] → joinI sep (xs ++ [a]) = joinI sep xs ++ sep ++ a
  | [], _, h => absurd rfl h
  | [x], a, _ => by simp [joinI_cons, joinI_one]
  | x :: y :: r, a, _ => by
    have := joinI_app sep (y :: r) a (by simp)
    simp only [List.cons_append] at this ⊢
    rw [joinI_cons, this, joinI_cons]; simp

theorem splitI_word {c : Int} : ∀ {w : List Int}, c ∉ w → splitI c w = [w]
  | [], _ => rfl
  | x :: r, h => by
    simp only [List.mem_cons, not_or] at h
    rw [splitI, if_neg (Ne.symm h.1), splitI_word h.2]
theorem splitI_app {c : Int} {t : List Int} : ∀ {w : List Int}, c ∉ w → splitI c (w ++ c :: t) = w :: splitI c t
  | [], _ => by simp [splitI]
  | x :: r, h => by
    simp only [List.mem_cons, not_or] at h
    rw [List.cons_append, splitI, if_neg (Ne.symm h.1), splitI_app h.2]
theorem splitI_joinI {c : Int} : ∀ {ws : List (List Int)}, ws ≠ [] → (∀ w ∈ ws, c ∉ w) → splitI c (joinI [c] ws) = ws
  | [], h, _ => absurd rfl h
  | [w], _, h => by rw [joinI_one, splitI_word (h w (by simp))]
  | w :: v :: r, _, h => by
    rw [joinI_cons, List.append_assoc, List.singleton_append, splitI_app (h w (by simp)), splitI_joinI (by simp) (fun x hx => h x (by simp [hx]))]
theorem cutI_app {c : Int} {t : List Int} : ∀ {w : List Int}, c ∉ w → cutI c (w ++ c :: t) = (w, t, true)
  | [], _ => by simp [cutI]
  | x :: r, h => by
    simp only [List.mem_cons, not_or] at h
    rw [List.cons_append, cutI, if_neg (Ne.symm h.1), cutI_app h.2]

/-! lists by place -/
theorem getD_app {α : Type} (pre : List α) (x : α) (r : List α) (d : α) : (pre ++ x :: r).getD pre.length d = x := by
  simp [List.getD_eq_getElem?_getD]
theorem getD_appI {α : Type} (pre : List α) (x : α) (r : List α) (d : α) {i : Int} (h : i = pre.length) : (pre ++ x :: r).getD (Int.toNat i) d = x := by
  subst h; exact getD_app pre x r d
theorem cutL_all {α : Type} (l : List α) {hi : Int} (h : hi = l.length) : cutL l 0 hi = l := by
  subst h; simp [cutL]
theorem cutL_tail {α : Type} (x : α) (l : List α) {hi : Int} (h : hi = (x :: l).length) : cutL (x :: l) 1 hi = l := by
  subst h; simp [cutL]
theorem cutL_len {α : Type} (l : List α) {lo hi : Int} (h0 : 0 ≤ lo) (h1 : lo ≤ hi) (h2 : hi ≤ l.length) : (cutL l lo hi).length = (hi - lo).toNat := by
  simp [cutL]; omega

end Go.Vm
