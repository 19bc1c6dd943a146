/-
  spec.ReadSegment: its parts.
-/
import Derived.Test.YtannkglddbaalaaDoorR1ReadI3
set_option linter.unusedSimpArgs false
set_option linter.unusedVariables false
namespace Go.Vm

/-! cutting -/
theorem cutLoop_eq (n : Nat) (at' : Int) : ∀ (rest cur done : List Int) (m : Nat) (fr i : Int) (o : List (List Int)), fr = done.length → i = (done ++ cur).length → (done ++ cur ++ rest).length ≤ 2000000 →
    o.length + (cur ++ rest).length ≤ 4000000 → rest.length < m → at' ∉ cur →
    ∃ fr' o', l_spec_l02Cut_0 n m (done ++ cur ++ rest) at' fr i o = some ((done ++ cur ++ rest, (), fr', ()), (o', ())) ∧ 0 ≤ fr' ∧ fr' ≤ ((done ++ cur ++ rest).length : Int) ∧
      o.length ≤ o'.length ∧ o'.length + 1 ≤ o.length + rest.length + 1 ∧
      o' ++ [cutL (done ++ cur ++ rest) fr' ((done ++ cur ++ rest).length : Int)] = o ++ splitI at' (cur ++ rest) := by
  intro rest
  induction rest with
  | nil =>
    intro cur done m fr i o hf hi hb ho hm hc
    obtain ⟨m, rfl⟩ : ∃ k, m = k + 1 := ⟨m - 1, by simp at hm; omega⟩
    have hi' : i = done.length + cur.length := by rw [hi]; simp
    refine ⟨fr, o, ?_, by omega, by simp; omega, Nat.le_refl _, by simp, ?_⟩
    · rw [l_spec_l02Cut_0, if_neg (by simp; omega)]
    · rw [List.append_nil, List.append_nil, splitI_word hc]
      congr 2
      rw [hf, cutL]; simp
      have : ((done.length : Int) + cur.length).toNat - done.length = cur.length := by omega
      rw [this]; simp
  | cons x r ih =>
    intro cur done m fr i o hf hi hb ho hm hc
    obtain ⟨m, rfl⟩ : ∃ k, m = k + 1 := ⟨m - 1, by simp at hm; omega⟩
    have hi' : i = done.length + cur.length := by rw [hi]; simp
    have hb' : done.length + (cur.length + (r.length + 1)) ≤ 2000000 := by simpa using hb
    have ho' : o.length + (cur.length + (r.length + 1)) ≤ 4000000 := by simpa using ho
    have hg : (done ++ cur ++ x :: r).getD (Int.toNat i) 0 = x := getD_appI (done ++ cur) x r 0 hi
    rw [l_spec_l02Cut_0, if_pos (by simp; omega), gd_pos (by simp; omega), hg, wi64_id (by omega) (by omega)]
    by_cases hx : x = at'
    · subst hx
      rw [if_pos (by simp), gd_pos (by simp; omega)]
      have ec : cutL (done ++ cur ++ x :: r) fr i = cur := by
        rw [hf, hi', cutL]
        simp
        have : ((done.length : Int) + cur.length).toNat - done.length = cur.length := by omega
        rw [this]; simp
      simp only [ec]
      rw [gd_pos (by simp [lim]; omega)]
      obtain ⟨fr', o', h1, h2, h3, h4, h5, h6⟩ := ih [] (done ++ cur ++ [x]) m (i + 1) (i + 1) (o ++ [cur]) (by simp; omega) (by simp; omega) (by simp; omega) (by simp; omega) (by simp at hm; omega) (by simp)
      simp only [List.append_nil, List.append_assoc, List.singleton_append, List.cons_append, List.nil_append] at h1 h3 h6 ⊢
      refine ⟨fr', o', h1, h2, h3, ?_, ?_, ?_⟩
      · simp at h4; omega
      · simp at h5 ⊢; omega
      · rw [h6, splitI_app hc]
    · rw [if_neg (by simpa using hx)]
      obtain ⟨fr', o', h1, h2, h3, h4, h5, h6⟩ := ih (cur ++ [x]) done m fr (i + 1) o hf (by simp; omega) (by simpa using hb) (by simpa using ho) (by simp at hm; omega) (by simp [hc]; exact fun e => hx e.symm)
      simp only [List.append_assoc, List.singleton_append] at h1 h3 h6 ⊢
      refine ⟨fr', o', h1, h2, h3, h4, ?_, h6⟩
      simp; omega

theorem l02Cut_eq (n : Nat) (hn : 10000000 ≤ n) (s : List Int) (hs : s.length ≤ 2000000) (c : Int) : g_spec_l02Cut n s c = some ((), (splitI c s, ())) := by
  obtain ⟨fr', o', h1, h2, h3, h4, h5, h6⟩ := cutLoop_eq n c s [] [] n 0 0 [] rfl rfl (by simpa using hs) (by simp; omega) (by omega) (by simp)
  simp only [List.nil_append, List.length_nil] at h1 h3 h5 h6
  simp only [g_spec_l02Cut, t_spec_l02Cut]
  rw [h1, bind_some']
  simp only
  rw [gd_pos ⟨h2, h3, Int.le_refl _⟩, gd_pos (by simp [lim]; omega), h6]

/-! numbers -/
theorem numLoop_ret (n : Nat) : ∀ (rest pre : List Int) (m : Nat) (v i : Int), i = pre.length → (pre ++ rest).length ≤ 1000 → rest.length < m → -9223372036854775808 ≤ v ∧ v ≤ 9223372036854775807 →
    Ret (l_spec_l02Number_0 n m (pre ++ rest) v i) fun y => ∀ z, y = .inr z → z.1.1 = pre ++ rest ∧ -9223372036854775808 ≤ z.1.2.1 ∧ z.1.2.1 ≤ 9223372036854775807 := by
  intro rest
  induction rest with
  | nil =>
    intro pre m v i hi hb hm hv
    obtain ⟨m, rfl⟩ : ∃ k, m = k + 1 := ⟨m - 1, by simp at hm; omega⟩
    rw [l_spec_l02Number_0, if_neg (by simp; omega)]
    exact .some (fun z hz => by cases hz; exact ⟨rfl, hv.1, hv.2⟩)
  | cons c r ih =>
    intro pre m v i hi hb hm hv
    obtain ⟨m, rfl⟩ : ∃ k, m = k + 1 := ⟨m - 1, by simp at hm; omega⟩
    have hb' : pre.length + (r.length + 1) ≤ 1000 := by simpa using hb
    rw [l_spec_l02Number_0, if_pos (by simp; omega), gd_pos (by simp; omega), gd_pos (by simp; omega)]
    simp only [getD_appI pre c r _ hi]
    have hg : ∀ (b : Bool), Ret (if b = true then some (Sum.inl ((0, false, ()), ())) else
        gd (0 ≤ i ∧ i < ((pre ++ c :: r).length : Int)) <|
        l_spec_l02Number_0 n m (pre ++ c :: r) (wi64 ((wi64 (v * 10)) + (wi64 (wu8 ((pre ++ c :: r).getD (Int.toNat i) 0 - 48))))) (wi64 (i + 1)))
        (fun y => ∀ z, y = .inr z → z.1.1 = pre ++ c :: r ∧ -9223372036854775808 ≤ z.1.2.1 ∧ z.1.2.1 ≤ 9223372036854775807) := by
      intro b
      cases b
      · rw [if_neg (by simp), wi64_id (n := i + 1) (by omega) (by omega), gd_pos (by simp; omega)]
        have := ih (pre ++ [c]) m (wi64 ((wi64 (v * 10)) + (wi64 (wu8 ((pre ++ c :: r).getD (Int.toNat i) 0 - 48))))) (i + 1) (by simp; omega) (by simpa using hb) (by simp at hm; omega) (wi64_bd _)
        simpa only [List.append_assoc, List.singleton_append] using this
      · rw [if_pos rfl]; exact .some (fun z hz => by cases hz)
    by_cases h : c < 48
    · simp only [h, decide_true, if_true, bind_some']; exact .some (fun z hz => by cases hz)
    · simp only [h, decide_false, Bool.false_eq_true, if_false, bind_some']; exact hg _

theorem decAny_ret (n : Nat) (hn : 1000 ≤ n) {v : Int} (h : v ≤ 9223372036854775807) : Ret (g_spec_l02Dec n v) fun _ => True := by
  by_cases h0 : 0 ≤ v
  · by_cases h1 : v < 1000000000000000000
    · rw [dec_eq n hn h0 h1]; exact .some trivial
    · obtain ⟨m, rfl⟩ : ∃ k, n = k + 1 := ⟨n - 1, by omega⟩
      have e := dec_loop (m + 1) 17 m (v := v / 10) (by omega) (by omega) (by omega) (by omega)
      have hl := decI_len 17 (n := v / 10) (by omega) (by omega)
      rw [g_spec_l02Dec, d_spec_l02Dec, if_neg (by simp; omega), Int.tdiv_eq_ediv_of_nonneg h0, wi64_id (n := v / 10) (by omega) (by omega), e, bind_some']
      rw [gd_pos (by simp [lim]; omega)]
      exact .some trivial
  · obtain ⟨m, rfl⟩ : ∃ k, n = k + 1 := ⟨n - 1, by omega⟩
    rw [g_spec_l02Dec, d_spec_l02Dec, if_pos (by simp; omega)]
    exact .some trivial

theorem l02Number_ret (n : Nat) (hn : 1000 ≤ n) (s : List Int) (d : Int) (hd : d ≤ 100) : Ret (g_spec_l02Number n s d) fun _ => True := by
  simp only [g_spec_l02Number, t_spec_l02Number]
  have hg : ∀ (b : Bool), (b = false → s.length ≤ 100) → Ret (if b = true then some ((0, false, ()), ()) else
      sbind (l_spec_l02Number_0 n n s 0 0) fun x_46 => (g_spec_l02Dec n x_46.1.2.1).bind fun y_47 => some ((x_46.1.2.1, (y_47.1 == x_46.1.1), ()), ())) (fun _ => True) := by
    intro b hb
    cases b
    · have hl := hb rfl
      rw [if_neg (by simp)]
      have := numLoop_ret n s [] n 0 0 rfl (by simp; omega) (by omega) (by omega)
      rw [List.nil_append] at this
      exact .sbind this (fun _ _ => trivial) (fun y hy => .bind (decAny_ret n hn (hy _ rfl).2.2) fun _ _ => .some trivial)
    · rw [if_pos rfl]; exact .some trivial
  by_cases h0 : (s.length : Int) < 1
  · rw [if_pos (by simpa using h0)]; exact .some trivial
  · rw [if_neg (by simpa using h0)]
    exact hg _ (fun hb => by simp at hb; omega)

theorem numLoop_eq (n : Nat) : ∀ (rest pre : List Int) (m : Nat) (v i : Int), i = pre.length → (pre ++ rest).length ≤ 1000 → rest.length < m →
    (∀ c ∈ rest, isDig c) → 0 ≤ v → (v + 1) * 10 ^ rest.length ≤ 1000000000000 →
    l_spec_l02Number_0 n m (pre ++ rest) v i = some (.inr ((pre ++ rest, valI v rest, ()), ())) := by
  intro rest
  induction rest with
  | nil =>
    intro pre m v i hi hb hm _ _ _
    obtain ⟨m, rfl⟩ : ∃ k, m = k + 1 := ⟨m - 1, by simp at hm; omega⟩
    rw [l_spec_l02Number_0, if_neg (by simp; omega)]
    rfl
  | cons c r ih =>
    intro pre m v i hi hb hm hD hv hB
    obtain ⟨m, rfl⟩ : ∃ k, m = k + 1 := ⟨m - 1, by simp at hm; omega⟩
    have hb' : pre.length + (r.length + 1) ≤ 1000 := by simpa using hb
    have hc : isDig c := hD c (by simp)
    unfold isDig at hc
    have hp : (0 : Int) < 10 ^ r.length := Int.pow_pos (by omega)
    have hB1 : ((v + 1) * 10) * 10 ^ r.length ≤ 1000000000000 := by
      rw [List.length_cons, Int.pow_succ] at hB
      rw [Int.mul_assoc, Int.mul_comm 10]; exact hB
    have hsm : (v + 1) * 10 ≤ 1000000000000 := by
      refine Int.le_trans ?_ hB1
      calc (v + 1) * 10 = (v + 1) * 10 * 1 := by omega
        _ ≤ (v + 1) * 10 * 10 ^ r.length := Int.mul_le_mul_of_nonneg_left (by omega) (by omega)
    rw [l_spec_l02Number_0, if_pos (by simp; omega), gd_pos (by simp; omega), gd_pos (by simp; omega)]
    simp only [getD_appI pre c r _ hi]
    rw [if_neg (by simp; omega), bind_some']
    simp only
    rw [if_neg (by simp; omega), gd_pos (by simp; omega), getD_appI pre c r _ hi, wi64_id (n := v * 10) (by omega) (by omega), wu8_id (by omega) (by omega), wi64_id (n := c - 48) (by omega) (by omega), wi64_id (n := v * 10 + (c - 48)) (by omega) (by omega),
      wi64_id (n := i + 1) (by omega) (by omega)]
    have := ih (pre ++ [c]) m (v * 10 + (c - 48)) (i + 1) (by simp; omega) (by simpa using hb) (by simp at hm; omega) (fun d hd => hD d (by simp [hd])) (by omega) (by
      refine Int.le_trans (Int.mul_le_mul_of_nonneg_right ?_ (Int.le_of_lt hp)) hB1
      omega)
    simp only [List.append_assoc, List.singleton_append] at this
    rw [this]; rfl

theorem l02Number_eq (n : Nat) (hn : 1000 ≤ n) {v d : Int} (h : 0 ≤ v ∧ v ≤ 4294967295) (hl : ((decI v).length : Int) ≤ d) : g_spec_l02Number n (decI v) d = some ((v, true, ()), ()) := by
  have hl10 := dlen h
  have hpos : 0 < (decI v).length := List.length_pos_iff.2 (decI_ne v)
  have hv := valI_decI v.toNat h.1 (Nat.le_refl _)
  have hB : ((0 : Int) + 1) * 10 ^ (decI v).length ≤ 1000000000000 := by
    have : (10 : Int) ^ (decI v).length ≤ 10 ^ 10 := by exact_mod_cast Nat.pow_le_pow_right (n := 10) (by omega) hl10
    omega
  have := numLoop_eq n (decI v) [] n 0 0 rfl (by simp; omega) (by omega) (decI_dig h.1) (by omega) hB
  rw [List.nil_append, hv] at this
  simp only [g_spec_l02Number, t_spec_l02Number]
  rw [if_neg (by simp; omega), bind_some']
  simp only
  rw [if_neg (by simp; omega), this, sbind_inr]
  simp only
  rw [dec_eq n hn h.1 (by omega), bind_some']
  simp

theorem l11Pair_ret (n : Nat) (hn : 10000000 ≤ n) (w : List Int) (hw : w.length ≤ 2000000) (c d : Int) (hd : d ≤ 100) : Ret (g_spec_l11Pair n w c d) fun _ => True := by
  simp only [g_spec_l11Pair]
  rw [l02Cut_eq n hn w hw, bind_some']
  refine .ite (fun _ => .some trivial) (fun h => ?_)
  have h2 : (splitI c w).length = 2 := by simp at h; omega
  simp only [h2]
  refine .gd (by decide) (.bind (l02Number_ret n (by omega) _ _ hd) fun y _ => .gd (by decide) (.bind (l02Number_ret n (by omega) _ _ hd) fun y' _ => .ite (fun _ => .some trivial) (fun _ => .some trivial)))

theorem l11Pair_eq (n : Nat) (hn : 10000000 ≤ n) {c d a b : Int} (hc : c < 48 ∨ 57 < c) (ha : 0 ≤ a ∧ a ≤ 4294967295) (hb : 0 ≤ b ∧ b ≤ 4294967295) (hla : ((decI a).length : Int) ≤ d) (hlb : ((decI b).length : Int) ≤ d) :
    g_spec_l11Pair n (pairW c a b) c d = some ((a, b, true, ()), ()) := by
  have l1 := dlen ha
  have l2 := dlen hb
  simp only [g_spec_l11Pair]
  rw [l02Cut_eq n hn _ (by simp [pairW]; omega), bind_some', pairW, splitI_app (notin_digs ha.1 hc), splitI_word (notin_digs hb.1 hc)]
  simp only
  rw [if_neg (by simp), gd_pos (by simp)]
  have e0 : [decI a, decI b].getD (Int.toNat 0) [] = decI a := rfl
  have e1 : [decI a, decI b].getD (Int.toNat 1) [] = decI b := rfl
  rw [e0, l02Number_eq n (by omega) ha hla, bind_some', gd_pos (by simp), e1, l02Number_eq n (by omega) hb hlb, bind_some']
  rfl

end Go.Vm
