/-
  impl.ReadSegment: it always answers; on a text that ShowSegment says it gives the segment back.
-/
import Derived.Test.YtannkglddbaalaaDoorR1Rune
set_option linter.unusedSimpArgs false
set_option linter.unusedVariables false
namespace Go.Vm

def nextF : List (List Int) → Bool → List Int × ((List (List Int) × Bool × Unit) × Unit)
  | [], _ => ([], (([], true, ()), ()))
  | x :: r, b => (x, ((r, b, ()), ()))
theorem next_eq (n : Nat) (w : List (List Int)) (b : Bool) : g_impl_wordReader_next n w b = some (nextF w b) := by
  cases w with
  | nil => simp [g_impl_wordReader_next, nextF]
  | cons x r =>
    rw [g_impl_wordReader_next, if_neg (by (first | (simp; done) | (simp; omega) | omega)), gd_pos (by (first | (simp; done) | (simp; omega) | omega)), gd_pos (by (first | (simp; done) | (simp; omega) | omega)), cutL_tail x r rfl]
    rfl

def isF (word : List Int) : List (List Int) → Bool → Bool × ((List (List Int) × Bool × Unit) × Unit)
  | [], b => (false, (([], b, ()), ()))
  | x :: r, b => cond (x == word) (true, ((r, b, ()), ())) (false, ((x :: r, b, ()), ()))
theorem is_eq (n : Nat) (word : List Int) (w : List (List Int)) (b : Bool) : g_impl_wordReader_is n word w b = some (isF word w b) := by
  cases w with
  | nil => simp [g_impl_wordReader_is, isF]
  | cons x r =>
    rw [g_impl_wordReader_is, if_pos (by (first | (simp; done) | (simp; omega) | omega)), gd_pos (by (first | (simp; done) | (simp; omega) | omega))]
    simp only [bind_some']
    have e : (x :: r).getD (Int.toNat 0) [] = x := rfl
    rw [e]
    rcases bft (x == word) with h | h
    · simp [h, isF]
    · rw [if_pos h, gd_pos (by (first | (simp; done) | (simp; omega) | omega)), cutL_tail x r rfl]; simp [isF, h]

def WSok (w : List (List Int)) : Prop := ∀ x ∈ w, x.length ≤ 2000000
theorem WSok.tail {x : List Int} {r : List (List Int)} (h : WSok (x :: r)) : WSok r := fun y hy => h y (by simp [hy])
theorem nextF_ok {w : List (List Int)} {b : Bool} (h : WSok w) : (nextF w b).1.length ≤ 2000000 ∧ WSok (nextF w b).2.1.1 ∧ (nextF w b).2.1.1.length ≤ w.length := by
  cases w with
  | nil => exact ⟨by simp [nextF], by simp [nextF, WSok], by simp [nextF]⟩
  | cons x r => exact ⟨h x (by simp), h.tail, by simp [nextF]⟩
theorem isF_ok {word : List Int} {w : List (List Int)} {b : Bool} (h : WSok w) : WSok (isF word w b).2.1.1 ∧ (isF word w b).2.1.1.length ≤ w.length ∧ ((isF word w b).1 = true → (isF word w b).2.1.1.length < w.length) := by
  cases w with
  | nil => simp [isF, WSok]
  | cons x r =>
    rcases bft (x == word) with e | e
    · simp only [isF, e, cond_false]; exact ⟨h, Nat.le_refl _, by simp⟩
    · simp only [isF, e, cond_true]; exact ⟨h.tail, by simp, by simp⟩

theorem digLoop_ret (n : Nat) : ∀ (rest pre : List Int) (m : Nat) (v N i : Int), i = pre.length → N = (pre ++ rest).length → N ≤ 1000 → rest.length < m →
    Ret (l_impl_decimal_0 n m v N i (pre ++ rest)) fun _ => True := by
  intro rest
  induction rest with
  | nil =>
    intro pre m v N i hi hN hb hm
    obtain ⟨m, rfl⟩ : ∃ k, m = k + 1 := ⟨m - 1, by simp at hm; omega⟩
    rw [l_impl_decimal_0, if_neg (by simp at hN; simp; omega)]
    exact .some trivial
  | cons c r ih =>
    intro pre m v N i hi hN hb hm
    obtain ⟨m, rfl⟩ : ∃ k, m = k + 1 := ⟨m - 1, by simp at hm; omega⟩
    have hN' : N = pre.length + (r.length + 1) := by rw [hN]; simp
    rw [l_impl_decimal_0, if_pos (by simp; omega), gd_pos (by simp; omega)]
    simp only [getD_appI pre c r _ hi]
    have hg : ∀ (b : Bool), Ret (if b = true then some (Sum.inl ((0, false, ()), ())) else
        l_impl_decimal_0 n m (wi64 ((wi64 (v * 10)) + (wi64 (wu8 (c - 48))))) N (wi64 (i + 1)) (pre ++ c :: r)) (fun _ => True) := by
      intro b
      cases b
      · rw [if_neg (by simp), wi64_id (n := i + 1) (by omega) (by omega)]
        have := ih (pre ++ [c]) m (wi64 ((wi64 (v * 10)) + (wi64 (wu8 (c - 48))))) N (i + 1) (by simp; omega) (by simp; omega) hb (by simp at hm; omega)
        simpa only [List.append_assoc, List.singleton_append] using this
      · rw [if_pos rfl]; exact .some trivial
    by_cases h : c < 48
    · simp only [h, decide_true, if_true, bind_some']; exact .some trivial
    · simp only [h, decide_false, Bool.false_eq_true, if_false, bind_some']; exact hg _

theorem decimal_ret (n : Nat) (hn : 1000 ≤ n) (s : List Int) (d : Int) (hd : d ≤ 100) : Ret (g_impl_decimal n s d) fun _ => True := by
  simp only [g_impl_decimal, t_impl_decimal]
  have hg : ∀ (b : Bool), (b = false → s.length ≤ 100) → Ret (if b = true then some ((0, false, ()), ()) else
      gd (s.length ≤ lim) <| sbind (l_impl_decimal_0 n n 0 (s.length : Int) 0 s) fun x_46 => some ((x_46.1.1, true, ()), ())) (fun _ => True) := by
    intro b hb
    cases b
    · have hl := hb rfl
      rw [if_neg (by simp), gd_pos (by simp only [lim]; omega)]
      have := digLoop_ret n s [] n 0 (s.length : Int) 0 rfl rfl (by omega) (by omega)
      rw [List.nil_append] at this
      exact .sbind this (fun _ _ => trivial) (fun _ _ => .some trivial)
    · rw [if_pos rfl]; exact .some trivial
  by_cases h0 : s.length = 0
  · rw [if_pos (by simp [h0])]; exact .some trivial
  · rw [if_neg (by simpa using h0)]
    by_cases h1 : (s.length : Int) > d
    · rw [if_pos (by simpa using h1)]; exact .some trivial
    · rw [if_neg (by simpa using h1)]
      by_cases h2 : (s.length : Int) > 1
      · rw [if_pos (by simpa using h2), gd_pos (by simp; omega)]; exact hg _ (fun _ => by omega)
      · rw [if_neg (by simpa using h2)]; exact hg false (fun _ => by omega)

theorem digLoop_eq (n : Nat) : ∀ (rest pre : List Int) (m : Nat) (v N i : Int), i = pre.length → N = (pre ++ rest).length → N ≤ 1000 → rest.length < m →
    (∀ c ∈ rest, isDig c) → 0 ≤ v → (v + 1) * 10 ^ rest.length ≤ 1000000000000 →
    l_impl_decimal_0 n m v N i (pre ++ rest) = some (.inr ((valI v rest, ()), ())) := by
  intro rest
  induction rest with
  | nil =>
    intro pre m v N i hi hN hb hm _ _ _
    obtain ⟨m, rfl⟩ : ∃ k, m = k + 1 := ⟨m - 1, by simp at hm; omega⟩
    rw [l_impl_decimal_0, if_neg (by simp at hN; simp; omega)]
    rfl
  | cons c r ih =>
    intro pre m v N i hi hN hb hm hD hv hB
    obtain ⟨m, rfl⟩ : ∃ k, m = k + 1 := ⟨m - 1, by simp at hm; omega⟩
    have hN' : N = pre.length + (r.length + 1) := by rw [hN]; simp
    have hc : isDig c := hD c (by simp)
    unfold isDig at hc
    have hp : (0 : Int) < 10 ^ r.length := Int.pow_pos (by omega)
    have hB1 : ((v + 1) * 10) * 10 ^ r.length ≤ 1000000000000 := by
      rw [List.length_cons, Int.pow_succ] at hB
      rw [Int.mul_assoc, Int.mul_comm 10]; exact hB
    have hsm : (v + 1) * 10 ≤ 1000000000000 := by
      refine Int.le_trans ?_ hB1
      calc (v + 1) * 10 = (v + 1) * 10 * 1 := by omega
        _ ≤ (v + 1) * 10 * 10 ^ r.length := Int.mul_le_mul_of_nonneg_left (by omega) (by omega)
    rw [l_impl_decimal_0, if_pos (by simp; omega), gd_pos (by simp; omega)]
    simp only [getD_appI pre c r _ hi]
    rw [if_neg (by simp; omega), bind_some']
    simp only
    rw [if_neg (by simp; omega), wi64_id (n := v * 10) (by omega) (by omega), wu8_id (by omega) (by omega), wi64_id (n := c - 48) (by omega) (by omega), wi64_id (n := v * 10 + (c - 48)) (by omega) (by omega),
      wi64_id (n := i + 1) (by omega) (by omega)]
    have := ih (pre ++ [c]) m (v * 10 + (c - 48)) N (i + 1) (by simp; omega) (by simp; omega) hb (by simp at hm; omega) (fun d hd => hD d (by simp [hd])) (by omega) (by
      refine Int.le_trans (Int.mul_le_mul_of_nonneg_right ?_ (Int.le_of_lt hp)) hB1
      omega)
    simp only [List.append_assoc, List.singleton_append] at this
    rw [this]; rfl

theorem decimal_eq (n : Nat) (hn : 1000 ≤ n) {v : Int} (h : 0 ≤ v ∧ v ≤ 4294967295) : g_impl_decimal n (decI v) 10 = some ((v, true, ()), ()) := by
  have hl := dlen h
  have hne := decI_ne v
  have hpos : 0 < (decI v).length := List.length_pos_iff.2 hne
  have hD := decI_dig h.1
  have hv := valI_decI v.toNat h.1 (Nat.le_refl _)
  have hB : ((0 : Int) + 1) * 10 ^ (decI v).length ≤ 1000000000000 := by
    have : (10 : Int) ^ (decI v).length ≤ 10 ^ 10 := by exact_mod_cast Nat.pow_le_pow_right (n := 10) (by omega) hl
    omega
  have := digLoop_eq n (decI v) [] n 0 ((decI v).length : Int) 0 rfl rfl (by omega) (by omega) hD (by omega) hB
  rw [List.nil_append] at this
  simp only [g_impl_decimal, t_impl_decimal]
  have hfin : (gd ((decI v).length ≤ lim) <| sbind (l_impl_decimal_0 n n 0 ((decI v).length : Int) 0 (decI v)) fun x_46 => some ((x_46.1.1, true, ()), ())) = some ((v, true, ()), ()) := by
    rw [gd_pos (by simp only [lim]; omega), this, sbind_inr, hv]
  rw [if_neg (by simp; omega), if_neg (by simp; omega)]
  by_cases h2 : ((decI v).length : Int) > 1
  · rw [if_pos (by simpa using h2), gd_pos (by simp; omega)]
    have hn0 : 0 < v := by
      by_cases a : 0 < v
      · exact a
      · have : v = 0 := by omega
        subst this; rw [decI_small (by omega) (by omega)] at h2; simp at h2
    obtain ⟨c, r, e, h3, h4⟩ := decI_head v.toNat hn0 (Nat.le_refl _)
    have e0 : (decI v).getD (Int.toNat 0) 0 = c := by rw [e]; rfl
    rw [bind_some', if_neg (by rw [e0]; simp; omega)]
    exact hfin
  · rw [if_neg (by simpa using h2), bind_some', if_neg (by simp)]
    exact hfin

theorem notin_digs {v c : Int} (h : 0 ≤ v) (hc : c < 48 ∨ 57 < c) : c ∉ decI v := fun hm => by have := decI_dig h c hm; unfold isDig at this; omega

theorem number_eq (n : Nat) (hn : 1000 ≤ n) {v : Int} (h : 0 ≤ v ∧ v ≤ 4294967295) (r : List (List Int)) : g_impl_wordReader_number n 10 (decI v :: r) false = some (v, ((r, false, ()), ())) := by
  simp only [g_impl_wordReader_number, next_eq, bind_some', nextF, decimal_eq n hn h]
  rfl
theorem number_ret (n : Nat) (hn : 1000 ≤ n) {w : List (List Int)} {b : Bool} (h : WSok w) : Ret (g_impl_wordReader_number n 10 w b) fun y => WSok y.2.1.1 ∧ y.2.1.1.length ≤ w.length := by
  have hf := nextF_ok (b := b) h
  simp only [g_impl_wordReader_number, next_eq, bind_some']
  refine .bind (decimal_ret n hn _ _ (by omega)) fun y _ => .ite (fun _ => ?_) (fun _ => ?_)
  · exact .some hf.2
  · exact .some hf.2

theorem f1_ret (n : Nat) (hn : 1000 ≤ n) (c : Int) {w : List (List Int)} {b : Bool} (h : WSok w) : Ret (g_impl_ReadSegment_f1 n [c] w b) fun y => WSok y.2.2.1.1 ∧ y.2.2.1.1.length ≤ w.length := by
  have hf := nextF_ok (b := b) h
  simp only [g_impl_ReadSegment_f1, next_eq, bind_some']
  rw [g_strings_Cut, if_pos (by omega), bind_some']
  refine .bind (decimal_ret n hn _ _ (by omega)) fun y _ => .bind (decimal_ret n hn _ _ (by omega)) fun y' _ => .ite (fun _ => .some hf.2) (fun _ => .ite (fun _ => .some hf.2) (fun _ => .ite (fun _ => .some hf.2) (fun _ => .some hf.2)))

theorem f1_eq (n : Nat) (hn : 1000 ≤ n) {c a b : Int} (hc : c < 48 ∨ 57 < c) (ha : 0 ≤ a ∧ a ≤ 4294967295) (hb : 0 ≤ b ∧ b ≤ 4294967295) (r : List (List Int)) :
    g_impl_ReadSegment_f1 n [c] (pairW c a b :: r) false = some ((a, b, ()), (((), ()), (r, false, ()), ())) := by
  have l1 := dlen ha
  have l2 := dlen hb
  simp only [g_impl_ReadSegment_f1, next_eq, bind_some', nextF]
  rw [g_strings_Cut, if_pos (by simp [pairW]; omega), bind_some', pairW, cutI_app (notin_digs ha.1 hc)]
  simp only [decimal_eq n hn ha, decimal_eq n hn hb, bind_some']
  rfl

/-! the flags' loop -/
set_option maxRecDepth 4000
def flR : Nat → List Int → Nat → Int → Option Int
  | 0, _, _, _ => none
  | m + 1, it, p, acc =>
    if p < it.length then
      if 0 ≤ ixR (dec it p).1 then flR m it (p + (dec it p).2) (ior .i64 acc (ishl .i64 1 (ixR (dec it p).1))) else flR m it (p + (dec it p).2) acc
    else some acc
theorem flR_mono : ∀ (m k : Nat) {it : List Int} {p : Nat} {acc a : Int}, flR m it p acc = some a → flR (m + k) it p acc = some a
  | 0, k, it, p, acc, a, h => by simp [flR] at h
  | m + 1, k, it, p, acc, a, h => by
    rw [show m + 1 + k = (m + k) + 1 by omega, flR]
    rw [flR] at h
    by_cases h1 : p < it.length
    · rw [if_pos h1] at h ⊢
      by_cases h2 : 0 ≤ ixR (dec it p).1
      · rw [if_pos h2] at h ⊢; exact flR_mono m k h
      · rw [if_neg h2] at h ⊢; exact flR_mono m k h
    · rw [if_neg h1] at h ⊢; exact h
theorem flR_some : ∀ (m : Nat) (it : List Int) (p : Nat) (acc : Int), it.length < p + m → 0 < m → ∃ a, flR m it p acc = some a
  | 0, it, p, acc, h, h0 => by omega
  | m + 1, it, p, acc, h, _ => by
    rw [flR]
    by_cases h1 : p < it.length
    · have := dec_pos h1
      rw [if_pos h1]
      by_cases h2 : 0 ≤ ixR (dec it p).1
      · rw [if_pos h2]; exact flR_some m _ _ _ (by omega) (by omega)
      · rw [if_neg h2]; exact flR_some m _ _ _ (by omega) (by omega)
    · rw [if_neg h1]; exact ⟨_, rfl⟩

theorem flLoop_eq (n : Nat) (hn : 1000 ≤ n) (text : List Int) (z1 z2 z3 z4 z5 z6 z7 : Int) (z8 : Bool) (z9 : Int) (z10 : Bool) (a1 a2 a3 a4 a6 a7 : Int) (a8 : Bool) (a9 : Int) (a10 : Bool) (it : List Int) (w : List (List Int)) (b : Bool) :
    ∀ (m p : Nat) (acc : Int), l_impl_ReadSegment_0 n m text z1 z2 z3 z4 z5 z6 z7 z8 z9 z10 a1 a2 a3 a4 acc a6 a7 a8 a9 a10 it p w b =
      (flR m it p acc).map fun a => ((text, (), (), ((), ()), (), ()), ((z1, z2, z3, z4, z5, z6, z7, z8, z9, z10, (), (), ()), ((), ()), (a1, a2, a3, a4, a, a6, a7, a8, a9, a10, (), (), ()), (w, b, ()), ()))
  | 0, p, acc => rfl
  | m + 1, p, acc => by
    rw [l_impl_ReadSegment_0, flR]
    by_cases h1 : p < it.length
    · rw [if_pos h1, if_pos h1]
      have e := indexRune_eq n hn (dec it p).1
      rw [FSR] at e
      rw [e, bind_some']
      by_cases h2 : 0 ≤ ixR (dec it p).1
      · rw [if_pos h2, if_pos (by simpa using h2), ngd_neg (by simp; omega)]
        exact flLoop_eq n hn text z1 z2 z3 z4 z5 z6 z7 z8 z9 z10 a1 a2 a3 a4 a6 a7 a8 a9 a10 it w b m _ _
      · rw [if_neg h2, if_neg (by simpa using h2)]
        exact flLoop_eq n hn text z1 z2 z3 z4 z5 z6 z7 z8 z9 z10 a1 a2 a3 a4 a6 a7 a8 a9 a10 it w b m _ _
    · rw [if_neg h1, if_neg h1]; rfl

theorem flR_fin : ∀ f : Fin 64, flR 8 (flagW (f.val : Int)) 0 0 = some (f.val : Int) := by decide +kernel
theorem flR_flag {f : Int} (h : rg f 0 63 = true) {n : Nat} (hn : 8 ≤ n) : flR n (flagW f) 0 0 = some f := by
  obtain ⟨g, rfl⟩ := fin64 h
  obtain ⟨k, rfl⟩ : ∃ k, n = 8 + k := ⟨n - 8, by omega⟩
  exact flR_mono 8 k (flR_fin g)

end Go.Vm
