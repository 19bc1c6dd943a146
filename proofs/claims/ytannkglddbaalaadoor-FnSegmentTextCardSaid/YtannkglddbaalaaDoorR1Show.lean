/-
  ShowSegment, of both: one text.
-/
import Derived.Test.YtannkglddbaalaaDoorNiceA
import Derived.Test.YtannkglddbaalaaDoorGTxt
set_option linter.unusedSimpArgs false
set_option linter.unusedVariables false
namespace Go.Vm

structure Sg where
  p : Int
  q : Int
  s : Int
  a : Int
  f : Int
  w : Int
  m : Int
  sc : Bool
  k : Int
  so : Bool
  sk : List (Int × Int × Unit)
  da : List Int

def okE (e : Int × Int × Unit) : Bool := decide (0 ≤ e.1) && decide (e.1 ≤ 4294967295) && (decide (0 ≤ e.2.1) && decide (e.2.1 ≤ 4294967295))
def rg (n lo hi : Int) : Bool := decide (lo ≤ n) && decide (n ≤ hi)
def Sg.ok (x : Sg) : Bool :=
  rg x.p 0 65535 && rg x.q 0 65535 && rg x.s 0 4294967295 && rg x.a 0 4294967295 && rg x.f 0 63 && rg x.w 0 65535 && rg x.m 0 65535 && rg x.k 0 14 &&
  (x.sc || x.k == 0) && decide (x.sk.length ≤ 3) && x.sk.all okE

theorem bft (b : Bool) : b = false ∨ b = true := by cases b <;> simp

theorem isPort_eq (n : Nat) (v : Int) : g_impl_isPort n v = some (rg v 0 65535, ()) := by
  simp only [g_impl_isPort, rg]
  by_cases h : 0 ≤ v <;> simp [h]
theorem isSeq_eq (n : Nat) (v : Int) : g_impl_isSeq n v = some (rg v 0 4294967295, ()) := by
  simp only [g_impl_isSeq, rg]
  by_cases h : 0 ≤ v <;> simp [h]
theorem l01In_eq (n : Nat) (v lo hi : Int) : g_spec_l01In n v lo hi = some (rg v lo hi, ()) := by
  simp only [g_spec_l01In, rg]
  by_cases h : lo ≤ v <;> simp [h]
theorem l10PortOK_eq (n : Nat) (v : Int) : g_spec_l10PortOK n v = some (rg v 0 65535, ()) := by
  simp only [g_spec_l10PortOK, l01In_eq, bind_some']
theorem l11Seq_eq (n : Nat) (v : Int) : g_spec_l11Seq n v = some (rg v 0 4294967295, ()) := by
  simp only [g_spec_l11Seq, g_spec_l02AddrOK, l01In_eq, bind_some']
theorem okE_eq (e : Int × Int × Unit) : okE e = (rg e.1 0 4294967295 && rg e.2.1 0 4294967295) := rfl

theorem loop_ok_impl (n : Nat) : ∀ (rest pre : List (Int × Int × Unit)) (m : Nat) (i N : Int), i = pre.length → N = (pre ++ rest).length → N ≤ 1000 → rest.length < m →
    l_impl_okSegment_0 n m (pre ++ rest) N i = some (cond (rest.all okE) (.inr ((), ())) (.inl (false, ()))) := by
  intro rest
  induction rest with
  | nil =>
    intro pre m i N hi hN hb hm
    obtain ⟨m, rfl⟩ : ∃ k, m = k + 1 := ⟨m - 1, by simp at hm; omega⟩
    rw [l_impl_okSegment_0, if_neg (by simp at hN; simp; omega)]
    simp
  | cons e r ih =>
    intro pre m i N hi hN hb hm
    obtain ⟨m, rfl⟩ : ∃ k, m = k + 1 := ⟨m - 1, by simp at hm; omega⟩
    have hN' : N = pre.length + (r.length + 1) := by rw [hN]; simp
    rw [l_impl_okSegment_0, if_pos (by simp; omega), gd_pos (by simp; omega)]
    simp only [getD_appI pre e r _ hi, isSeq_eq, bind_some']
    rw [wi64_id (by omega) (by omega)]
    have := ih (pre ++ [e]) m (i + 1) N (by simp; omega) (by simp; omega) hb (by simp at hm; omega)
    simp only [List.append_assoc, List.singleton_append] at this
    rw [this]
    rw [List.all_cons, okE_eq]
    rcases bft (rg e.1 0 4294967295) with h1 | h1 <;> rcases bft (rg e.2.1 0 4294967295) with h2 | h2 <;> simp [h1, h2]

theorem okSegment_eq (n : Nat) (hn : 1000 ≤ n) (x : Sg) : g_impl_okSegment n x.p x.q x.s x.a x.f x.w x.m x.sc x.k x.so x.sk x.da = some (x.ok, ()) := by
  simp only [g_impl_okSegment, t_impl_okSegment, isPort_eq, isSeq_eq, bind_some', Sg.ok]
  rcases bft (rg x.p 0 65535) with h1 | h1
  · simp [h1]
  rcases bft (rg x.q 0 65535) with h2 | h2
  · simp [h1, h2]
  rcases bft (rg x.s 0 4294967295) with h3 | h3
  · simp [h1, h2, h3]
  rcases bft (rg x.a 0 4294967295) with h4 | h4
  · simp [h1, h2, h3, h4]
  simp only [h1, h2, h3, h4, Bool.not_true, Bool.false_eq_true, if_false, Bool.true_and]
  by_cases h5 : x.f < 0
  · simp [h5, rg]; omega
  by_cases h6 : x.f > 63
  · simp [h5, h6, rg]; omega
  have h56 : rg x.f 0 63 = true := by simp [rg]; omega
  simp only [h5, h6, h56, decide_false, Bool.false_eq_true, if_false, Bool.true_and]
  rcases bft (rg x.w 0 65535) with h7 | h7
  · simp [h7]
  rcases bft (rg x.m 0 65535) with h8 | h8
  · simp [h7, h8]
  simp only [h7, h8, Bool.not_true, Bool.false_eq_true, if_false, Bool.true_and]
  by_cases h9 : x.k < 0
  · simp [h9, rg]; omega
  by_cases h10 : x.k > 14
  · simp [h9, h10, rg]; omega
  have h910 : rg x.k 0 14 = true := by simp [rg]; omega
  simp only [h9, h10, h910, decide_false, Bool.false_eq_true, if_false, Bool.true_and]
  have key : ∀ b : Bool, b = decide ((x.sk.length : Int) > 3) → (if b = true then some (false, ()) else sbind (l_impl_okSegment_0 n n x.sk (x.sk.length : Int) 0) fun _ => some (true, ())) = some (decide (x.sk.length ≤ 3) && x.sk.all okE, ()) := by
    intro b hb
    by_cases hl : x.sk.length ≤ 3
    · have e : b = false := by rw [hb]; simp; omega
      rw [e, if_neg (by simp)]
      have := loop_ok_impl n x.sk [] n 0 x.sk.length rfl rfl (by omega) (by omega)
      rw [List.nil_append] at this
      rw [this]
      cases h : x.sk.all okE <;> simp [sbind_inl, sbind_inr, hl]
    · have e : b = true := by rw [hb]; simp; omega
      rw [e, if_pos rfl]; simp [hl]
  by_cases h11 : x.sc
  · simp only [h11, Bool.not_true, Bool.false_eq_true, if_false, bind_some', Bool.true_or, Bool.true_and]
    exact key _ rfl
  · by_cases h12 : x.k = 0
    · simp only [h11, h12, Bool.not_false, if_true, bind_some', bne_self_eq_false, Bool.false_eq_true, if_false, Bool.false_or, beq_self_eq_true, Bool.true_and]
      exact key _ rfl
    · simp [h11, h12]

theorem loop_ok_spec (n : Nat) (x1 x2 x3 x4 x5 x6 x7 : Int) (x8 : Bool) (x9 : Int) (x10 : Bool) (da : List Int) : ∀ (rest pre : List (Int × Int × Unit)) (m : Nat) (i : Int), i = pre.length → (pre ++ rest).length ≤ 1000 → rest.length < m →
    l_spec_l11OK_0 n m i x1 x2 x3 x4 x5 x6 x7 x8 x9 x10 (pre ++ rest) da = some (cond (rest.all okE) (.inr ((), ())) (.inl (false, ()))) := by
  intro rest
  induction rest with
  | nil =>
    intro pre m i hi hb hm
    obtain ⟨m, rfl⟩ : ∃ k, m = k + 1 := ⟨m - 1, by simp at hm; omega⟩
    rw [l_spec_l11OK_0, if_neg (by simp; omega)]
    simp
  | cons e r ih =>
    intro pre m i hi hb hm
    obtain ⟨m, rfl⟩ : ∃ k, m = k + 1 := ⟨m - 1, by simp at hm; omega⟩
    have hb' : pre.length + (r.length + 1) ≤ 1000 := by simpa using hb
    rw [l_spec_l11OK_0, if_pos (by simp; omega), gd_pos (by simp; omega)]
    simp only [getD_appI pre e r _ hi, l11Seq_eq, bind_some']
    rw [wi64_id (by omega) (by omega), gd_pos (by simp; omega)]
    have := ih (pre ++ [e]) m (i + 1) (by simp; omega) (by simpa using hb) (by simp at hm; omega)
    simp only [List.append_assoc, List.singleton_append] at this
    rw [this]
    rw [List.all_cons, okE_eq]
    rcases bft (rg e.1 0 4294967295) with h1 | h1 <;> rcases bft (rg e.2.1 0 4294967295) with h2 | h2 <;> simp [h1, h2]

theorem l11OK_eq (n : Nat) (hn : 1000 ≤ n) (x : Sg) : g_spec_l11OK n x.p x.q x.s x.a x.f x.w x.m x.sc x.k x.so x.sk x.da = some (x.ok, ()) := by
  simp only [g_spec_l11OK, t_spec_l11OK, l10PortOK_eq, l11Seq_eq, l01In_eq, bind_some', Sg.ok]
  rcases bft (rg x.p 0 65535) with h1 | h1
  · simp [h1]
  rcases bft (rg x.q 0 65535) with h2 | h2
  · simp [h1, h2]
  rcases bft (rg x.s 0 4294967295) with h3 | h3
  · simp [h1, h2, h3]
  rcases bft (rg x.a 0 4294967295) with h4 | h4
  · simp [h1, h2, h3, h4]
  rcases bft (rg x.f 0 63) with h5 | h5
  · simp [h1, h2, h3, h4, h5]
  rcases bft (rg x.w 0 65535) with h7 | h7
  · simp [h1, h2, h3, h4, h5, h7]
  rcases bft (rg x.m 0 65535) with h8 | h8
  · simp [h1, h2, h3, h4, h5, h7, h8]
  rcases bft (rg x.k 0 14) with h9 | h9
  · simp [h1, h2, h3, h4, h5, h7, h8, h9]
  simp only [h1, h2, h3, h4, h5, h7, h8, h9, Bool.not_true, Bool.false_eq_true, if_false, Bool.true_and]
  have key : ∀ (b sc : Bool) (k : Int), b = decide ((x.sk.length : Int) > 3) → (if b = true then some (false, ()) else sbind (l_spec_l11OK_0 n n 0 x.p x.q x.s x.a x.f x.w x.m sc k x.so x.sk x.da) fun _ => some (true, ())) = some (decide (x.sk.length ≤ 3) && x.sk.all okE, ()) := by
    intro b sc k hb
    by_cases hl : x.sk.length ≤ 3
    · have e : b = false := by rw [hb]; simp; omega
      rw [e, if_neg (by simp)]
      have := loop_ok_spec n x.p x.q x.s x.a x.f x.w x.m sc k x.so x.da x.sk [] n 0 rfl (by simp; omega) (by omega)
      rw [List.nil_append] at this
      rw [this]
      cases h : x.sk.all okE <;> simp [sbind_inl, sbind_inr, hl]
    · have e : b = true := by rw [hb]; simp; omega
      rw [e, if_pos rfl]; simp [hl]
  by_cases h11 : x.sc
  · simp only [h11, Bool.not_true, Bool.false_eq_true, if_false, bind_some', Bool.true_or, Bool.true_and]
    exact key _ _ _ rfl
  · by_cases h12 : x.k = 0
    · simp only [h11, h12, Bool.not_false, if_true, bind_some', bne_self_eq_false, Bool.false_eq_true, if_false, Bool.false_or, beq_self_eq_true, Bool.true_and]
      exact key _ _ _ rfl
    · simp [h11, h12]

/-! the flags' word -/
def flagS (f : Int) : List Int :=
  (if (iand .i64 f 2 != 0) then [83] else []) ++ (if (iand .i64 f 1 != 0) then [70] else []) ++ (if (iand .i64 f 4 != 0) then [82] else []) ++
  (if (iand .i64 f 8 != 0) then [80] else []) ++ (if (iand .i64 f 16 != 0) then [65] else []) ++ (if (iand .i64 f 32 != 0) then [85] else [])
def flagI (f : Int) : List Int :=
  (if (iand .i64 (ishr .i64 f 1) 1 == 1) then [83] else []) ++ (if (iand .i64 (ishr .i64 f 0) 1 == 1) then [70] else []) ++
  (if (iand .i64 (ishr .i64 f 2) 1 == 1) then [82] else []) ++ (if (iand .i64 (ishr .i64 f 3) 1 == 1) then [80] else []) ++
  (if (iand .i64 (ishr .i64 f 4) 1 == 1) then [65] else []) ++ (if (iand .i64 (ishr .i64 f 5) 1 == 1) then [85] else [])
theorem let_fin : ∀ f : Fin 64, flagI (f.val : Int) = flagS (f.val : Int) ∧ (flagS (f.val : Int) = [] ↔ f.val = 0) ∧ (flagS (f.val : Int)).length ≤ 6 ∧
    (∀ c ∈ flagS (f.val : Int), c = 83 ∨ c = 70 ∨ c = 82 ∨ c = 80 ∨ c = 65 ∨ c = 85) := by decide +kernel
theorem fin64 {f : Int} (h : rg f 0 63 = true) : ∃ g : Fin 64, f = (g.val : Int) := by
  simp [rg] at h
  exact ⟨⟨f.toNat, by omega⟩, by simp; omega⟩
def flagW (f : Int) : List Int := if f == 0 then [45] else flagS f

theorem step_letI (n m : Nat) (o : List Int) (j t : Int) (a1 a2 a3 a4 f a6 a7 : Int) (a8 : Bool) (a9 : Int) (a10 : Bool) (sk : List (Int × Int × Unit)) (da : List Int)
    (hj : 0 ≤ j ∧ j < 6) (ht : ([1, 0, 2, 3, 4, 5] : List Int).getD (Int.toNat j) 0 = t) (h0 : 0 ≤ t ∧ t < 6) (ho : o.length ≤ 1000000) :
    l_impl_ShowSegment_0 n (m + 1) o 6 j a1 a2 a3 a4 f a6 a7 a8 a9 a10 sk da [1, 0, 2, 3, 4, 5] =
    l_impl_ShowSegment_0 n m (o ++ (if (iand .i64 (ishr .i64 f t) 1 == 1) then cutL ([70, 83, 82, 80, 65, 85] : List Int) t (t + 1) else [])) 6 (j + 1) a1 a2 a3 a4 f a6 a7 a8 a9 a10 sk da [1, 0, 2, 3, 4, 5] := by
  rw [l_impl_ShowSegment_0, if_pos (by simp; omega), gd_pos (by simp; omega)]
  simp only [ht]
  rw [wi64_id (n := j + 1) (by omega) (by omega), wi64_id (n := t + 1) (by omega) (by omega), ngd_neg (by omega)]
  by_cases h : (iand .i64 (ishr .i64 f t) 1 == 1) = true
  · rw [if_pos h, if_pos h, gd_pos (by omega), gd_pos (by rw [cutL_len _ (by omega) (by omega) (by simp; omega)]; simp only [lim]; omega)]
  · rw [if_neg h, if_neg h, List.append_nil]

theorem letI_eq (n : Nat) (hn : 1000 ≤ n) (a1 a2 a3 a4 f a6 a7 : Int) (a8 : Bool) (a9 : Int) (a10 : Bool) (sk : List (Int × Int × Unit)) (da : List Int) :
    l_impl_ShowSegment_0 n n [] 6 0 a1 a2 a3 a4 f a6 a7 a8 a9 a10 sk da [1, 0, 2, 3, 4, 5] = some (((), flagI f, ()), ((a1, a2, a3, a4, f, a6, a7, a8, a9, a10, sk, da, ()), ())) := by
  obtain ⟨m, rfl⟩ : ∃ k, n = k + 7 := ⟨n - 7, by omega⟩
  have hl : ∀ (b : Bool) (t : Int), (if b then cutL ([70, 83, 82, 80, 65, 85] : List Int) t (t + 1) else []).length ≤ 6 := by
    intro b t; split <;> simp [cutL]; omega
  rw [step_letI (t := 1) (hj := by omega) (ht := rfl) (h0 := by omega) (ho := by simp)]
  rw [step_letI (t := 0) (hj := by omega) (ht := rfl) (h0 := by omega) (ho := by simp only [List.length_append, List.length_nil]; have := hl (iand .i64 (ishr .i64 f 1) 1 == 1) 1; omega)]
  rw [step_letI (t := 2) (hj := by omega) (ht := rfl) (h0 := by omega) (ho := by
    simp only [List.length_append, List.length_nil]; have := hl (iand .i64 (ishr .i64 f 1) 1 == 1) 1; have := hl (iand .i64 (ishr .i64 f 0) 1 == 1) 0; omega)]
  rw [step_letI (t := 3) (hj := by omega) (ht := rfl) (h0 := by omega) (ho := by
    simp only [List.length_append, List.length_nil]; have := hl (iand .i64 (ishr .i64 f 1) 1 == 1) 1; have := hl (iand .i64 (ishr .i64 f 0) 1 == 1) 0
    have := hl (iand .i64 (ishr .i64 f 2) 1 == 1) 2; omega)]
  rw [step_letI (t := 4) (hj := by omega) (ht := rfl) (h0 := by omega) (ho := by
    simp only [List.length_append, List.length_nil]; have := hl (iand .i64 (ishr .i64 f 1) 1 == 1) 1; have := hl (iand .i64 (ishr .i64 f 0) 1 == 1) 0
    have := hl (iand .i64 (ishr .i64 f 2) 1 == 1) 2; have := hl (iand .i64 (ishr .i64 f 3) 1 == 1) 3; omega)]
  rw [step_letI (t := 5) (hj := by omega) (ht := rfl) (h0 := by omega) (ho := by
    simp only [List.length_append, List.length_nil]; have := hl (iand .i64 (ishr .i64 f 1) 1 == 1) 1; have := hl (iand .i64 (ishr .i64 f 0) 1 == 1) 0
    have := hl (iand .i64 (ishr .i64 f 2) 1 == 1) 2; have := hl (iand .i64 (ishr .i64 f 3) 1 == 1) 3; have := hl (iand .i64 (ishr .i64 f 4) 1 == 1) 4; omega)]
  rw [l_impl_ShowSegment_0, if_neg (by simp)]
  rfl

theorem step_letS (n m : Nat) (o : List Int) (j b : Int) (a1 a2 a3 a4 f a6 a7 : Int) (a8 : Bool) (a9 : Int) (a10 : Bool) (sk : List (Int × Int × Unit)) (da : List Int)
    (hj : 0 ≤ j ∧ j < 6) (hb : ([2, 1, 4, 8, 16, 32] : List Int).getD (Int.toNat j) 0 = b) (ho : o.length ≤ 1000000) :
    l_spec_ShowSegment_0 n (m + 1) o j a1 a2 a3 a4 f a6 a7 a8 a9 a10 sk da =
    l_spec_ShowSegment_0 n m (o ++ (if (iand .i64 f b != 0) then cutL ([83, 70, 82, 80, 65, 85] : List Int) j (j + 1) else [])) (j + 1) a1 a2 a3 a4 f a6 a7 a8 a9 a10 sk da := by
  rw [l_spec_ShowSegment_0, if_pos (by simp; omega)]
  simp only [g_spec_l11Bit, g_spec_l11Has]
  rw [gd_pos (by simp; omega)]
  simp only [bind_some', hb]
  rw [wi64_id (n := j + 1) (by omega) (by omega)]
  by_cases h : (iand .i64 f b != 0) = true
  · rw [if_pos h, if_pos h, gd_pos (by omega), gd_pos (by rw [cutL_len _ (by omega) (by omega) (by simp; omega)]; simp only [lim]; omega)]
  · rw [if_neg h, if_neg h, List.append_nil]

theorem letS_eq (n : Nat) (hn : 1000 ≤ n) (o : List Int) (ho : o.length ≤ 1000) (a1 a2 a3 a4 f a6 a7 : Int) (a8 : Bool) (a9 : Int) (a10 : Bool) (sk : List (Int × Int × Unit)) (da : List Int) :
    l_spec_ShowSegment_0 n n o 0 a1 a2 a3 a4 f a6 a7 a8 a9 a10 sk da = some (((), o ++ flagS f, ()), ((a1, a2, a3, a4, f, a6, a7, a8, a9, a10, sk, da, ()), ())) := by
  obtain ⟨m, rfl⟩ : ∃ k, n = k + 7 := ⟨n - 7, by omega⟩
  have hl : ∀ (b : Bool) (t : Int), (if b then cutL ([83, 70, 82, 80, 65, 85] : List Int) t (t + 1) else []).length ≤ 6 := by
    intro b t; split <;> simp [cutL]; omega
  have h2 := hl (iand .i64 f 2 != 0) 0
  have h1 := hl (iand .i64 f 1 != 0) (0 + 1)
  have h4 := hl (iand .i64 f 4 != 0) (0 + 1 + 1)
  have h8 := hl (iand .i64 f 8 != 0) (0 + 1 + 1 + 1)
  have h16 := hl (iand .i64 f 16 != 0) (0 + 1 + 1 + 1 + 1)
  rw [step_letS (b := 2) (hj := by omega) (hb := rfl) (ho := by omega)]
  rw [step_letS (b := 1) (hj := by omega) (hb := rfl) (ho := by simp only [List.length_append]; omega)]
  rw [step_letS (b := 4) (hj := by omega) (hb := rfl) (ho := by simp only [List.length_append]; omega)]
  rw [step_letS (b := 8) (hj := by omega) (hb := rfl) (ho := by simp only [List.length_append]; omega)]
  rw [step_letS (b := 16) (hj := by omega) (hb := rfl) (ho := by simp only [List.length_append]; omega)]
  rw [step_letS (b := 32) (hj := by omega) (hb := rfl) (ho := by simp only [List.length_append]; omega)]
  rw [l_spec_ShowSegment_0, if_neg (by simp)]
  simp only [flagS, List.append_assoc]
  rfl


/-! numbers and digits -/
theorem num_eq (n : Nat) {v : Int} (h : 0 ≤ v) : g_impl_num n v = some (decI v, ()) := by
  simp only [g_impl_num, g_strconv_FormatInt, if_true, bind_some', Lib.itoa, if_neg (Int.not_lt.2 h), decI]

theorem dec_loop (n : Nat) : ∀ (k m : Nat) {v : Int}, 0 ≤ v → v < 10 ^ (k + 1) → k < 18 → k < m → d_spec_l02Dec n m v = some (decI v, ())
  | 0, m, v, h0, h, _, hm => by
    obtain ⟨m, rfl⟩ : ∃ k, m = k + 1 := ⟨m - 1, by omega⟩
    have h : v < 10 := by simpa using h
    rw [d_spec_l02Dec, if_pos (by simpa using h), decI_small h0 h, wi64_id (by omega) (by omega), wu8_id (by omega) (by omega)]
  | k + 1, m, v, h0, h, hk, hm => by
    obtain ⟨m, rfl⟩ : ∃ k, m = k + 1 := ⟨m - 1, by omega⟩
    by_cases hv : v < 10
    · rw [d_spec_l02Dec, if_pos (by simpa using hv), decI_small h0 hv, wi64_id (by omega) (by omega), wu8_id (by omega) (by omega)]
    · have hb : (10 : Int) ^ (k + 1 + 1) ≤ 10 ^ 18 := by
        exact_mod_cast Nat.pow_le_pow_right (n := 10) (by omega) (by omega : k + 1 + 1 ≤ 18)
      have hp : v / 10 < 10 ^ (k + 1) := by rw [Int.pow_succ] at h; omega
      have hl := decI_len k (n := v / 10) (by omega) hp
      rw [d_spec_l02Dec, if_neg (by simpa using hv), Int.tdiv_eq_ediv_of_nonneg h0, Int.tmod_eq_emod_of_nonneg h0, wi64_id (n := v / 10) (by omega) (by omega),
        dec_loop n k m (by omega) hp (by omega) (by omega), decI_big (n := v) (by omega)]
      simp only [bind_some']
      rw [wi64_id (by omega) (by omega), wu8_id (by omega) (by omega), gd_pos (by simp [lim]; omega)]
theorem dec_eq (n : Nat) (hn : 1000 ≤ n) {v : Int} (h0 : 0 ≤ v) (h : v < 1000000000000000000) : g_spec_l02Dec n v = some (decI v, ()) :=
  dec_loop n 17 n h0 (by simpa using h) (by omega) (by omega)

def hexI (b : List Int) : List Int := un8 (Lib.Hx.encode (by8 b))
def hexD : List Int := [48, 49, 50, 51, 52, 53, 54, 55, 56, 57, 97, 98, 99, 100, 101, 102]
def isByte (c : Int) : Prop := 0 ≤ c ∧ c < 256
def bytesI (l : List Int) : Prop := ∀ c ∈ l, isByte c
theorem hex_fin : ∀ c : Fin 256, (0 ≤ ishr .u8 (c.val : Int) 4 ∧ ishr .u8 (c.val : Int) 4 < 16) ∧ (0 ≤ iand .u8 (c.val : Int) 15 ∧ iand .u8 (c.val : Int) 15 < 16) ∧
    hexI [(c.val : Int)] = [hexD.getD (Int.toNat (ishr .u8 (c.val : Int) 4)) 0, hexD.getD (Int.toNat (iand .u8 (c.val : Int) 15)) 0] := by decide +kernel
theorem hexI_cons (c : Int) (r : List Int) : hexI (c :: r) = hexI [c] ++ hexI r := by
  simp [hexI, by8, Lib.Hx.encode, un8]
theorem hexI_nil : hexI [] = [] := rfl
theorem hexI_len (l : List Int) : (hexI l).length = 2 * l.length := by simp [hexI, un8, Lib.Hx.encode_length, by8]

theorem hexText_loop (n : Nat) : ∀ (rest pre o : List Int) (m : Nat) (i : Int), i = pre.length → (pre ++ rest).length ≤ 100000 → o.length + 2 * rest.length ≤ 1000000 → bytesI rest → rest.length < m →
    l_spec_l11HexText_0 n m (pre ++ rest) hexD i o = some (((), ()), (o ++ hexI rest, ())) := by
  intro rest
  induction rest with
  | nil =>
    intro pre o m i hi hb ho hB hm
    obtain ⟨m, rfl⟩ : ∃ k, m = k + 1 := ⟨m - 1, by simp at hm; omega⟩
    rw [l_spec_l11HexText_0, if_neg (by simp; omega), hexI_nil, List.append_nil]
  | cons c r ih =>
    intro pre o m i hi hb ho hB hm
    obtain ⟨m, rfl⟩ : ∃ k, m = k + 1 := ⟨m - 1, by simp at hm; omega⟩
    have hb' : pre.length + (r.length + 1) ≤ 100000 := by simpa using hb
    have ho' : o.length + 2 * (r.length + 1) ≤ 1000000 := by simpa using ho
    have hc : isByte c := hB c (by simp)
    unfold isByte at hc
    have hf := hex_fin ⟨c.toNat, by omega⟩
    have e : (((⟨c.toNat, by omega⟩ : Fin 256).val : Nat) : Int) = c := by simp; omega
    rw [e] at hf
    have hd : (hexD.length : Int) = 16 := rfl
    rw [l_spec_l11HexText_0, if_pos (by simp; omega), gd_pos (by simp; omega)]
    simp only [getD_appI pre c r _ hi]
    rw [gd_pos (by rw [hd]; exact hf.1), gd_pos (by simp [lim]; omega), gd_pos (by simp; omega), gd_pos (by rw [hd]; exact hf.2.1), gd_pos (by simp [lim]; omega),
      wi64_id (by omega) (by omega)]
    have := ih (pre ++ [c]) (o ++ hexI [c]) m (i + 1) (by simp; omega) (by simpa using hb) (by simp [hexI_len]; omega) (fun d hd => hB d (by simp [hd])) (by simp at hm; omega)
    simp only [List.append_assoc, List.singleton_append] at this
    rw [hexI_cons c r]
    rw [← this, hf.2.2]
    simp

theorem hexText_eq (n : Nat) (hn : 100000 ≤ n) {b : List Int} (hb : b.length ≤ 10000) (hB : bytesI b) : g_spec_l11HexText n b = some (hexI b, ()) := by
  have := hexText_loop n b [] [] n 0 rfl (by simp; omega) (by simp; omega) hB (by omega)
  simp only [g_spec_l11HexText, t_spec_l11HexText]
  rw [List.nil_append] at this
  show (l_spec_l11HexText_0 n n b hexD 0 []).bind _ = _
  rw [this]; rfl

/-! the words -/
def wMss : List Int := [109, 115, 115]
def wScale : List Int := [115, 99, 97, 108, 101]
def wOk : List Int := [115, 97, 99, 107, 111, 107]
def wSack : List Int := [115, 97, 99, 107]
def wData : List Int := [100, 97, 116, 97]
def pairW (c : Int) (a b : Int) : List Int := decI a ++ c :: decI b
def sackWs : List (Int × Int × Unit) → List (List Int)
  | [] => []
  | e :: r => wSack :: pairW 45 e.1 e.2.1 :: sackWs r
def dataWs (da : List Int) : List (List Int) := if da = [] then [] else [wData, hexI da]
def ws0 (x : Sg) : List (List Int) := [pairW 62 x.p x.q, flagW x.f, decI x.s, decI x.a, decI x.w]
def wsM (m : Int) : List (List Int) := if m = 0 then [] else [wMss, decI m]
def wsK (sc : Bool) (k : Int) : List (List Int) := if sc then [wScale, decI k] else []
def wsO (so : Bool) : List (List Int) := if so then [wOk] else []
def words (x : Sg) : List (List Int) := ws0 x ++ (wsM x.m ++ (wsK x.sc x.k ++ (wsO x.so ++ (sackWs x.sk ++ dataWs x.da))))
def showT (x : Sg) : List Int := joinI [32] (words x)

end Go.Vm
