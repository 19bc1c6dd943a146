/-
  spec.ReadSegment: it always answers; on a text that ShowSegment says it gives the segment back.
-/
import Derived.Test.YtannkglddbaalaaDoorR1ReadS2
set_option linter.unusedSimpArgs false
set_option linter.unusedVariables false
namespace Go.Vm

theorem mem_getD {w : List (List Int)} (h : WSok w) (i : Nat) : (w.getD i []).length ≤ 2000000 := by
  rw [List.getD_eq_getElem?_getD]
  cases e : w[i]? with
  | none => simp
  | some x => exact h x (List.mem_of_getElem? e)

theorem optLoop_ret (n : Nat) (hn : 10000000 ≤ n) (text : List Int) (w : List (List Int)) (hw : WSok w) (hwl : w.length ≤ 2000001) : ∀ (m : Nat) (i : Int) (z1 z2 z3 z4 z5 z6 z7 : Int) (z8 : Bool) (z9 : Int) (z10 : Bool) (a1 a2 a3 a4 a5 a6 a7 : Int) (a8 : Bool) (a9 : Int) (a10 : Bool)
    (sk : List (Int × Int × Unit)) (da : List Int), 0 ≤ i → i ≤ 3000000 → (w.length : Int) - i < m → 0 < m → (sk.length : Int) ≤ i → bytesI da →
    Ret (l_spec_ReadSegment_0 n m text i z1 z2 z3 z4 z5 z6 z7 z8 z9 z10 w a1 a2 a3 a4 a5 a6 a7 a8 a9 a10 sk da) fun x => x.1.1 = text ∧ bytesI x.2.2.2.2.1
  | 0, i, _, _, _, _, _, _, _, _, _, _, _, _, _, _, _, _, _, _, _, _, sk, da, h0, h1, h2, hm, h3, hB => by omega
  | m + 1, i, z1, z2, z3, z4, z5, z6, z7, z8, z9, z10, a1, a2, a3, a4, a5, a6, a7, a8, a9, a10, sk, da, h0, h1, h2, hm, h3, hB => by
    rw [l_spec_ReadSegment_0]
    refine .ite (fun h => ?_) (fun _ => .some ⟨rfl, hB⟩)
    have h : i < w.length := by simpa using h
    refine .bind (Q := fun x => x.1.1 = text ∧ x.1.2.2.2.2.1 = i ∧ x.1.2.2.2.2.2.1.length ≤ 2000000 ∧ x.2.2.1 = w ∧ x.2.2.2.2.1 = sk ∧ x.2.2.2.2.2.1 = da) (.ite (fun h' => ?_) (fun _ => .some ⟨rfl, rfl, by simp, rfl, rfl, rfl⟩)) fun x hx => ?_
    · rw [wi64_id (by omega) (by omega)] at h' ⊢
      have h' : i + 1 < w.length := by simpa using h'
      exact .gd (by omega) (.some ⟨rfl, rfl, mem_getD hw _, rfl, rfl, rfl⟩)
    · obtain ⟨q1, q2, q3, q4, q5, q6⟩ := hx
      rw [q1, q2, q4, q5, q6, wi64_id (by omega) (by omega)]
      have ih := fun b1 b2 b3 b4 b5 b6 b7 b8 b9 b10 c1 c2 c3 c4 c5 c6 c7 c8 c9 c10 sk' da' => optLoop_ret n hn text w hw hwl m (i + 1) b1 b2 b3 b4 b5 b6 b7 b8 b9 b10 c1 c2 c3 c4 c5 c6 c7 c8 c9 c10 sk' da' (by omega) (by omega) (by omega) (by omega)
      refine .gd (by omega) (.ite (fun _ => .bind (l02Number_ret n (by omega) _ _ (by omega)) fun _ _ => ih _ _ _ _ _ _ _ _ _ _ _ _ _ _ _ _ _ _ _ _ _ _ (by omega) hB) (fun _ => .ite (fun _ => .bind (l02Number_ret n (by omega) _ _ (by omega)) fun _ _ => ih _ _ _ _ _ _ _ _ _ _ _ _ _ _ _ _ _ _ _ _ _ _ (by omega) hB)
        (fun _ => .ite (fun _ => ih _ _ _ _ _ _ _ _ _ _ _ _ _ _ _ _ _ _ _ _ _ _ (by omega) hB) (fun _ => .ite (fun _ => .bind (l11Pair_ret n hn _ q3 _ _ (by omega)) fun _ _ => .gd (by simp [lim]; omega) (ih _ _ _ _ _ _ _ _ _ _ _ _ _ _ _ _ _ _ _ _ _ _ (by simp; omega) hB))
        (fun _ => .ite (fun _ => .bind (l11Unhex_ret n hn _ q3) fun _ hy => ih _ _ _ _ _ _ _ _ _ _ _ _ _ _ _ _ _ _ _ _ _ _ (by omega) hy) (fun _ => ih _ _ _ _ _ _ _ _ _ _ _ _ _ _ _ _ _ _ _ _ _ _ (by omega) hB))))))

theorem specRead_ret (n : Nat) (hn : 10000000 ≤ n) (text : List Int) :
    Ret (g_spec_ReadSegment n text) fun o => o = errO ∨ ∃ x : Sg, x.ok = true ∧ x.da.length ≤ 4000 ∧ bytesI x.da ∧ showT x = text ∧ o = outO x := by
  have hn' : 1000 ≤ n := by omega
  simp only [g_spec_ReadSegment, t_spec_ReadSegment]
  refine .ite (fun _ => .some (.inl rfl)) (fun ht => ?_)
  have ht : text.length ≤ 9000 := by simp at ht; omega
  have hs := splitI_bd 32 text
  have hW : WSok (splitI 32 text) := fun w hw => by have := hs.1 w hw; omega
  rw [l02Cut_eq n hn text (by omega), bind_some']
  simp only
  refine .ite (fun _ => .some (.inl rfl)) (fun h5 => ?_)
  have h5 : 5 ≤ (splitI 32 text).length := by simp at h5; omega
  refine .gd (by omega) (.bind (l11Pair_ret n hn _ (mem_getD hW _) _ _ (by omega)) fun y6 _ => .gd (by omega) (.bind (l02Number_ret n hn' _ _ (by omega)) fun y8 _ => .gd (by omega) (.bind (l02Number_ret n hn' _ _ (by omega)) fun y10 _ => .gd (by omega) (.bind (l02Number_ret n hn' _ _ (by omega)) fun y12 _ => .gd (by omega) ?_))))
  rw [l11Flags_eq n hn _ (mem_getD hW _), bind_some']
  refine .bind (optLoop_ret n hn text _ hW (by omega) n 5 _ _ _ _ _ _ _ _ _ _ _ _ _ _ _ _ _ _ _ _ _ _ (by omega) (by omega) (by omega) (by omega) (by simp) (by simp [bytesI])) fun x167 h167 => ?_
  have e := specShow_eq n (by omega) (Sg.mk x167.2.2.1.1 x167.2.2.1.2.1 x167.2.2.1.2.2.1 x167.2.2.1.2.2.2.1 x167.2.2.1.2.2.2.2.1 x167.2.2.1.2.2.2.2.2.1 x167.2.2.1.2.2.2.2.2.2.1
    x167.2.2.1.2.2.2.2.2.2.2.1 x167.2.2.1.2.2.2.2.2.2.2.2.1 x167.2.2.1.2.2.2.2.2.2.2.2.2.1 x167.2.2.2.1 x167.2.2.2.2.1) h167.2
  generalize hx : Sg.mk x167.2.2.1.1 x167.2.2.1.2.1 x167.2.2.1.2.2.1 x167.2.2.1.2.2.2.1 x167.2.2.1.2.2.2.2.1 x167.2.2.1.2.2.2.2.2.1 x167.2.2.1.2.2.2.2.2.2.1
    x167.2.2.1.2.2.2.2.2.2.2.1 x167.2.2.1.2.2.2.2.2.2.2.2.1 x167.2.2.1.2.2.2.2.2.2.2.2.2.1 x167.2.2.2.1 x167.2.2.2.2.1 = x at e
  have ex : x.p = x167.2.2.1.1 ∧ x.q = x167.2.2.1.2.1 ∧ x.s = x167.2.2.1.2.2.1 ∧ x.a = x167.2.2.1.2.2.2.1 ∧ x.f = x167.2.2.1.2.2.2.2.1 ∧ x.w = x167.2.2.1.2.2.2.2.2.1 ∧ x.m = x167.2.2.1.2.2.2.2.2.2.1 ∧
    x.sc = x167.2.2.1.2.2.2.2.2.2.2.1 ∧ x.k = x167.2.2.1.2.2.2.2.2.2.2.2.1 ∧ x.so = x167.2.2.1.2.2.2.2.2.2.2.2.2.1 ∧ x.sk = x167.2.2.2.1 ∧ x.da = x167.2.2.2.2.1 := by subst hx; simp
  obtain ⟨e1, e2, e3, e4, e5, e6, e7, e8, e9, e10, e11, e12⟩ := ex
  rw [← e1, ← e2, ← e3, ← e4, ← e5, ← e6, ← e7, ← e8, ← e9, ← e10, ← e11, ← e12, e, bind_some', showA]
  rcases bft (x.ok && decide (x.da.length ≤ 4000)) with hk | hk
  · rw [hk, cond_false, if_pos (by simp), bind_some', if_pos rfl]
    exact .some (.inl rfl)
  · rw [hk, cond_true, if_neg (by simp), bind_some']
    simp only [Bool.and_eq_true, decide_eq_true_eq] at hk
    refine .ite (fun _ => .some (.inl rfl)) (fun ht' => .some (.inr ⟨x, hk.1, hk.2, by rw [e12]; exact h167.2, ?_, rfl⟩))
    rw [← h167.1]
    simpa using ht'

/-! steps on what ShowSegment says -/
theorem opt_end (n m : Nat) (text : List Int) (w : List (List Int)) (i : Int) (z1 z2 z3 z4 z5 z6 z7 : Int) (z8 : Bool) (z9 : Int) (z10 : Bool) (a1 a2 a3 a4 a5 a6 a7 : Int) (a8 : Bool) (a9 : Int) (a10 : Bool) (sk : List (Int × Int × Unit)) (da : List Int)
    (h : (w.length : Int) ≤ i) : l_spec_ReadSegment_0 n (m + 1) text i z1 z2 z3 z4 z5 z6 z7 z8 z9 z10 w a1 a2 a3 a4 a5 a6 a7 a8 a9 a10 sk da =
    some ((text, (), (), ()), ((z1, z2, z3, z4, z5, z6, z7, z8, z9, z10, (), (), ()), (a1, a2, a3, a4, a5, a6, a7, a8, a9, a10, (), (), ()), sk, da, ())) := by
  rw [l_spec_ReadSegment_0, if_neg (by simp; omega)]

theorem opt_skip (n m : Nat) (text : List Int) (pre : List (List Int)) (x : List Int) (r : List (List Int)) (i : Int) (z1 z2 z3 z4 z5 z6 z7 : Int) (z8 : Bool) (z9 : Int) (z10 : Bool) (a1 a2 a3 a4 a5 a6 a7 : Int) (a8 : Bool) (a9 : Int) (a10 : Bool) (sk : List (Int × Int × Unit)) (da : List Int)
    (hi : i = pre.length) (hb : (pre ++ x :: r).length ≤ 1000) (h1 : x ≠ wMss) (h2 : x ≠ wScale) (h3 : x ≠ wOk) (h4 : x ≠ wSack) (h5 : x ≠ wData) :
    l_spec_ReadSegment_0 n (m + 1) text i z1 z2 z3 z4 z5 z6 z7 z8 z9 z10 (pre ++ x :: r) a1 a2 a3 a4 a5 a6 a7 a8 a9 a10 sk da =
    l_spec_ReadSegment_0 n m text (i + 1) z1 z2 z3 z4 z5 z6 z7 z8 z9 z10 (pre ++ x :: r) a1 a2 a3 a4 a5 a6 a7 a8 a9 a10 sk da := by
  have hb' : pre.length + (r.length + 1) ≤ 1000 := by simpa using hb
  have g1 : (x == [109, 115, 115]) = false := by simpa [wMss] using h1
  have g2 : (x == [115, 99, 97, 108, 101]) = false := by simpa [wScale] using h2
  have g3 : (x == [115, 97, 99, 107, 111, 107]) = false := by simpa [wOk] using h3
  have g4 : (x == [115, 97, 99, 107]) = false := by simpa [wSack] using h4
  have g5 : (x == [100, 97, 116, 97]) = false := by simpa [wData] using h5
  rw [l_spec_ReadSegment_0, if_pos (by simp; omega), wi64_id (by omega) (by omega)]
  have hg := getD_appI pre x r [] hi
  by_cases h : i + 1 < ((pre ++ x :: r).length : Int)
  · rw [if_pos (by simpa using h), gd_pos (by omega), bind_some']
    simp only [hg, g1, g2, g3, g4, g5, Bool.false_eq_true, if_false]
    rw [gd_pos (by simp; omega), wi64_id (by omega) (by omega)]
  · rw [if_neg (by simpa using h), bind_some']
    simp only [hg, g1, g2, g3, g4, g5, Bool.false_eq_true, if_false]
    rw [gd_pos (by simp; omega), wi64_id (by omega) (by omega)]

theorem opt_mss (n m : Nat) (text : List Int) (pre : List (List Int)) (x : List Int) (r : List (List Int)) (i : Int) (z1 z2 z3 z4 z5 z6 z7 : Int) (z8 : Bool) (z9 : Int) (z10 : Bool) (a1 a2 a3 a4 a5 a6 a7 : Int) (a8 : Bool) (a9 : Int) (a10 : Bool) (sk : List (Int × Int × Unit)) (da : List Int)
    (hi : i = pre.length) (hb : (pre ++ wMss :: x :: r).length ≤ 1000) :
    l_spec_ReadSegment_0 n (m + 1) text i z1 z2 z3 z4 z5 z6 z7 z8 z9 z10 (pre ++ wMss :: x :: r) a1 a2 a3 a4 a5 a6 a7 a8 a9 a10 sk da =
    (g_spec_l02Number n x 5).bind fun y => l_spec_ReadSegment_0 n m text (i + 1) z1 z2 z3 z4 z5 z6 z7 z8 z9 z10 (pre ++ wMss :: x :: r) a1 a2 a3 a4 a5 a6 y.1.1 a8 a9 a10 sk da := by
  have hb' : pre.length + (r.length + 1 + 1) ≤ 1000 := by simpa using hb
  have hg := getD_appI pre wMss (x :: r) [] hi
  have hx : (pre ++ wMss :: x :: r).getD (Int.toNat (i + 1)) [] = x := by
    have := getD_appI (pre ++ [wMss]) x r [] (i := i + 1) (by simp; omega)
    simpa only [List.append_assoc, List.singleton_append] using this
  rw [l_spec_ReadSegment_0, if_pos (by simp; omega), wi64_id (by omega) (by omega), if_pos (by simp; omega), gd_pos (by simp; omega), bind_some']
  simp only [hg, hx]
  rw [gd_pos (by simp; omega), if_pos (by simp [wMss]), wi64_id (by omega) (by omega)]

theorem opt_scale (n m : Nat) (text : List Int) (pre : List (List Int)) (x : List Int) (r : List (List Int)) (i : Int) (z1 z2 z3 z4 z5 z6 z7 : Int) (z8 : Bool) (z9 : Int) (z10 : Bool) (a1 a2 a3 a4 a5 a6 a7 : Int) (a8 : Bool) (a9 : Int) (a10 : Bool) (sk : List (Int × Int × Unit)) (da : List Int)
    (hi : i = pre.length) (hb : (pre ++ wScale :: x :: r).length ≤ 1000) :
    l_spec_ReadSegment_0 n (m + 1) text i z1 z2 z3 z4 z5 z6 z7 z8 z9 z10 (pre ++ wScale :: x :: r) a1 a2 a3 a4 a5 a6 a7 a8 a9 a10 sk da =
    (g_spec_l02Number n x 2).bind fun y => l_spec_ReadSegment_0 n m text (i + 1) z1 z2 z3 z4 z5 z6 z7 z8 z9 z10 (pre ++ wScale :: x :: r) a1 a2 a3 a4 a5 a6 a7 true y.1.1 a10 sk da := by
  have hb' : pre.length + (r.length + 1 + 1) ≤ 1000 := by simpa using hb
  have hg := getD_appI pre wScale (x :: r) [] hi
  have hx : (pre ++ wScale :: x :: r).getD (Int.toNat (i + 1)) [] = x := by
    have := getD_appI (pre ++ [wScale]) x r [] (i := i + 1) (by simp; omega)
    simpa only [List.append_assoc, List.singleton_append] using this
  rw [l_spec_ReadSegment_0, if_pos (by simp; omega), wi64_id (by omega) (by omega), if_pos (by simp; omega), gd_pos (by simp; omega), bind_some']
  simp only [hg, hx]
  rw [gd_pos (by simp; omega), if_neg (by simp [wScale]), if_pos (by simp [wScale]), wi64_id (by omega) (by omega)]

theorem opt_ok (n m : Nat) (text : List Int) (pre : List (List Int)) (r : List (List Int)) (i : Int) (z1 z2 z3 z4 z5 z6 z7 : Int) (z8 : Bool) (z9 : Int) (z10 : Bool) (a1 a2 a3 a4 a5 a6 a7 : Int) (a8 : Bool) (a9 : Int) (a10 : Bool) (sk : List (Int × Int × Unit)) (da : List Int)
    (hi : i = pre.length) (hb : (pre ++ wOk :: r).length ≤ 1000) :
    l_spec_ReadSegment_0 n (m + 1) text i z1 z2 z3 z4 z5 z6 z7 z8 z9 z10 (pre ++ wOk :: r) a1 a2 a3 a4 a5 a6 a7 a8 a9 a10 sk da =
    l_spec_ReadSegment_0 n m text (i + 1) z1 z2 z3 z4 z5 z6 z7 z8 z9 z10 (pre ++ wOk :: r) a1 a2 a3 a4 a5 a6 a7 a8 a9 true sk da := by
  have hb' : pre.length + (r.length + 1) ≤ 1000 := by simpa using hb
  have hg := getD_appI pre wOk r [] hi
  rw [l_spec_ReadSegment_0, if_pos (by simp; omega), wi64_id (by omega) (by omega)]
  by_cases h : i + 1 < ((pre ++ wOk :: r).length : Int)
  · rw [if_pos (by simpa using h), gd_pos (by omega), bind_some']
    simp only [hg]
    rw [gd_pos (by simp; omega), if_neg (by simp [wOk]), if_neg (by simp [wOk]), if_pos (by simp [wOk]), wi64_id (by omega) (by omega)]
  · rw [if_neg (by simpa using h), bind_some']
    simp only [hg]
    rw [gd_pos (by simp; omega), if_neg (by simp [wOk]), if_neg (by simp [wOk]), if_pos (by simp [wOk]), wi64_id (by omega) (by omega)]

theorem opt_sack (n m : Nat) (text : List Int) (pre : List (List Int)) (x : List Int) (r : List (List Int)) (i : Int) (z1 z2 z3 z4 z5 z6 z7 : Int) (z8 : Bool) (z9 : Int) (z10 : Bool) (a1 a2 a3 a4 a5 a6 a7 : Int) (a8 : Bool) (a9 : Int) (a10 : Bool) (sk : List (Int × Int × Unit)) (da : List Int)
    (hi : i = pre.length) (hb : (pre ++ wSack :: x :: r).length ≤ 1000) (hk : sk.length ≤ 1000) :
    l_spec_ReadSegment_0 n (m + 1) text i z1 z2 z3 z4 z5 z6 z7 z8 z9 z10 (pre ++ wSack :: x :: r) a1 a2 a3 a4 a5 a6 a7 a8 a9 a10 sk da =
    (g_spec_l11Pair n x 45 10).bind fun y => l_spec_ReadSegment_0 n m text (i + 1) z1 z2 z3 z4 z5 z6 z7 z8 z9 z10 (pre ++ wSack :: x :: r) a1 a2 a3 a4 a5 a6 a7 a8 a9 a10 (sk ++ [(y.1.1, (y.1.2.1, ()))]) da := by
  have hb' : pre.length + (r.length + 1 + 1) ≤ 1000 := by simpa using hb
  have hg := getD_appI pre wSack (x :: r) [] hi
  have hx : (pre ++ wSack :: x :: r).getD (Int.toNat (i + 1)) [] = x := by
    have := getD_appI (pre ++ [wSack]) x r [] (i := i + 1) (by simp; omega)
    simpa only [List.append_assoc, List.singleton_append] using this
  rw [l_spec_ReadSegment_0, if_pos (by simp; omega), wi64_id (by omega) (by omega), if_pos (by simp; omega), gd_pos (by simp; omega), bind_some']
  simp only [hg, hx]
  rw [gd_pos (by simp; omega), if_neg (by simp [wSack]), if_neg (by simp [wSack]), if_neg (by simp [wSack]), if_pos (by simp [wSack]), wi64_id (by omega) (by omega)]
  congr 1; funext y
  rw [gd_pos (by simp [lim]; omega)]

theorem opt_data (n m : Nat) (text : List Int) (pre : List (List Int)) (x : List Int) (r : List (List Int)) (i : Int) (z1 z2 z3 z4 z5 z6 z7 : Int) (z8 : Bool) (z9 : Int) (z10 : Bool) (a1 a2 a3 a4 a5 a6 a7 : Int) (a8 : Bool) (a9 : Int) (a10 : Bool) (sk : List (Int × Int × Unit)) (da : List Int)
    (hi : i = pre.length) (hb : (pre ++ wData :: x :: r).length ≤ 1000) :
    l_spec_ReadSegment_0 n (m + 1) text i z1 z2 z3 z4 z5 z6 z7 z8 z9 z10 (pre ++ wData :: x :: r) a1 a2 a3 a4 a5 a6 a7 a8 a9 a10 sk da =
    (g_spec_l11Unhex n x).bind fun y => l_spec_ReadSegment_0 n m text (i + 1) z1 z2 z3 z4 z5 z6 z7 z8 z9 z10 (pre ++ wData :: x :: r) a1 a2 a3 a4 a5 a6 a7 a8 a9 a10 sk y.2.1 := by
  have hb' : pre.length + (r.length + 1 + 1) ≤ 1000 := by simpa using hb
  have hg := getD_appI pre wData (x :: r) [] hi
  have hx : (pre ++ wData :: x :: r).getD (Int.toNat (i + 1)) [] = x := by
    have := getD_appI (pre ++ [wData]) x r [] (i := i + 1) (by simp; omega)
    simpa only [List.append_assoc, List.singleton_append] using this
  rw [l_spec_ReadSegment_0, if_pos (by simp; omega), wi64_id (by omega) (by omega), if_pos (by simp; omega), gd_pos (by simp; omega), bind_some']
  simp only [hg, hx]
  rw [gd_pos (by simp; omega), if_neg (by simp [wData]), if_neg (by simp [wData]), if_neg (by simp [wData]), if_neg (by simp [wData]), if_pos (by simp [wData]), wi64_id (by omega) (by omega)]

end Go.Vm
