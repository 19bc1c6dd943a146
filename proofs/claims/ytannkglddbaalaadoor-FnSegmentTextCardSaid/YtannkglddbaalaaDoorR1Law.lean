/-
  Both laws, in plain Lean.
-/
import Derived.Test.YtannkglddbaalaaDoorR1Draw
set_option linter.unusedSimpArgs false
set_option linter.unusedVariables false
namespace Go.Vm

theorem eqStretchS_eq (n : Nat) (hn : 10000000 ≤ n) (l : List (Int × Int × Unit)) (hl : l.length ≤ 2000000) : g_laws_eqStretchS n l l = some (true, ()) := by
  have lp : ∀ (rest pre : List (Int × Int × Unit)) (m : Nat) (i : Int), i = pre.length → (pre ++ rest).length ≤ 2000000 → rest.length < m → l_laws_eqStretchS_0 n m (pre ++ rest) (pre ++ rest) i = some (.inr ((), ())) := by
    intro rest
    induction rest with
    | nil =>
      intro pre m i hi hb hm
      obtain ⟨m, rfl⟩ : ∃ k, m = k + 1 := ⟨m - 1, by simp at hm; omega⟩
      rw [l_laws_eqStretchS_0, if_neg (by simp; omega)]
    | cons e r ih =>
      intro pre m i hi hb hm
      obtain ⟨m, rfl⟩ : ∃ k, m = k + 1 := ⟨m - 1, by simp at hm; omega⟩
      have hb' : pre.length + (r.length + 1) ≤ 2000000 := by simpa using hb
      rw [l_laws_eqStretchS_0, if_pos (by simp; omega), gd_pos (by simp; omega), gd_pos (by simp; omega)]
      simp only [g_laws_eqStretch, bne_self_eq_false, Bool.false_eq_true, if_false, bind_some', Bool.not_true]
      rw [wi64_id (by omega) (by omega)]
      have := ih (pre ++ [e]) m (i + 1) (by simp; omega) (by simpa using hb) (by simp at hm; omega)
      simpa only [List.append_assoc, List.singleton_append] using this
  have := lp l [] n 0 rfl (by simpa using hl) (by omega)
  rw [List.nil_append] at this
  simp only [g_laws_eqStretchS, t_laws_eqStretchS, bne_self_eq_false, Bool.false_eq_true, if_false]
  rw [this]; rfl

theorem eqByteS_eq (n : Nat) (hn : 10000000 ≤ n) (l : List Int) (hl : l.length ≤ 2000000) : g_laws_eqByteS n l l = some (true, ()) := by
  have lp : ∀ (rest pre : List Int) (m : Nat) (i : Int), i = pre.length → (pre ++ rest).length ≤ 2000000 → rest.length < m → l_laws_eqByteS_0 n m (pre ++ rest) (pre ++ rest) i = some (.inr ((), ())) := by
    intro rest
    induction rest with
    | nil =>
      intro pre m i hi hb hm
      obtain ⟨m, rfl⟩ : ∃ k, m = k + 1 := ⟨m - 1, by simp at hm; omega⟩
      rw [l_laws_eqByteS_0, if_neg (by simp; omega)]
    | cons e r ih =>
      intro pre m i hi hb hm
      obtain ⟨m, rfl⟩ : ∃ k, m = k + 1 := ⟨m - 1, by simp at hm; omega⟩
      have hb' : pre.length + (r.length + 1) ≤ 2000000 := by simpa using hb
      rw [l_laws_eqByteS_0, if_pos (by simp; omega), gd_pos (by simp; omega), gd_pos (by simp; omega)]
      simp only [bne_self_eq_false, Bool.false_eq_true, if_false]
      rw [wi64_id (by omega) (by omega)]
      have := ih (pre ++ [e]) m (i + 1) (by simp; omega) (by simpa using hb) (by simp at hm; omega)
      simpa only [List.append_assoc, List.singleton_append] using this
  have := lp l [] n 0 rfl (by simpa using hl) (by omega)
  rw [List.nil_append] at this
  simp only [g_laws_eqByteS, t_laws_eqByteS, bne_self_eq_false, Bool.false_eq_true, if_false]
  rw [this]; rfl

theorem eqSegment_eq (n : Nat) (hn : 10000000 ≤ n) (a1 a2 a3 a4 a5 a6 a7 : Int) (a8 : Bool) (a9 : Int) (a10 : Bool) (sk : List (Int × Int × Unit)) (da : List Int) (h1 : sk.length ≤ 2000000) (h2 : da.length ≤ 2000000) :
    g_laws_eqSegment n a1 a2 a3 a4 a5 a6 a7 a8 a9 a10 sk da a1 a2 a3 a4 a5 a6 a7 a8 a9 a10 sk da = some (true, ()) := by
  simp only [g_laws_eqSegment, bne_self_eq_false, beq_self_eq_true, Bool.not_true, Bool.false_eq_true, if_false, eqStretchS_eq n hn sk h1, eqByteS_eq n hn da h2, bind_some']

/-! marks -/
def markSt (k : Int) : List (Int × Int × Unit) → List (Int × Int × Unit)
  | [] => []
  | _ :: r => (k, (wi64 (k + 1), ())) :: markSt (wi64 (wi64 (k + 1) + 1)) r
def endSt (k : Int) : List (Int × Int × Unit) → Int
  | [] => k
  | _ :: r => endSt (wi64 (wi64 (k + 1) + 1)) r
def markBt (k : Int) : List Int → List Int
  | [] => []
  | _ :: r => wu8 k :: markBt (wi64 (k + 1)) r
def endBt (k : Int) : List Int → Int
  | [] => k
  | _ :: r => endBt (wi64 (k + 1)) r

theorem set_app {α : Type} (pre : List α) (x y : α) (r : List α) {i : Int} (h : i = pre.length) : (pre ++ x :: r).set (Int.toNat i) y = pre ++ y :: r := by
  subst h; simp

theorem markStretchS_eq (n : Nat) (hn : 10000000 ≤ n) (k : Int) (l : List (Int × Int × Unit)) (hl : l.length ≤ 2000000) : g_laws_markStretchS n k l = some (endSt k l, (markSt k l, ())) := by
  have lp : ∀ (rest pre : List (Int × Int × Unit)) (m : Nat) (i k : Int), i = pre.length → (pre ++ rest).length ≤ 2000000 → rest.length < m →
      l_laws_markStretchS_0 n m k i (pre ++ rest) = some (((), endSt k rest, ()), (pre ++ markSt k rest, ())) := by
    intro rest
    induction rest with
    | nil =>
      intro pre m i k hi hb hm
      obtain ⟨m, rfl⟩ : ∃ k, m = k + 1 := ⟨m - 1, by simp at hm; omega⟩
      rw [l_laws_markStretchS_0, if_neg (by simp; omega)]; simp [endSt, markSt]
    | cons e r ih =>
      intro pre m i k hi hb hm
      obtain ⟨m, rfl⟩ : ∃ k, m = k + 1 := ⟨m - 1, by simp at hm; omega⟩
      have hb' : pre.length + (r.length + 1) ≤ 2000000 := by simpa using hb
      rw [l_laws_markStretchS_0, if_pos (by simp; omega), gd_pos (by simp; omega)]
      simp only [set_app pre _ _ r hi, getD_appI pre _ r _ hi]
      rw [gd_pos (by simp; omega), wi64_id (n := i + 1) (by omega) (by omega)]
      have := ih (pre ++ [(k, (wi64 (k + 1), ()))]) m (i + 1) (wi64 (wi64 (k + 1) + 1)) (by simp; omega) (by simpa using hb) (by simp at hm; omega)
      simp only [List.append_assoc, List.singleton_append] at this
      exact this
  have := lp l [] n 0 k rfl (by simpa using hl) (by omega)
  simp only [List.nil_append] at this
  simp only [g_laws_markStretchS, t_laws_markStretchS]
  rw [this]; rfl

theorem markByteS_eq (n : Nat) (hn : 10000000 ≤ n) (k : Int) (l : List Int) (hl : l.length ≤ 2000000) : g_laws_markByteS n k l = some (endBt k l, (markBt k l, ())) := by
  have lp : ∀ (rest pre : List Int) (m : Nat) (i k : Int), i = pre.length → (pre ++ rest).length ≤ 2000000 → rest.length < m →
      l_laws_markByteS_0 n m k i (pre ++ rest) = some (((), endBt k rest, ()), (pre ++ markBt k rest, ())) := by
    intro rest
    induction rest with
    | nil =>
      intro pre m i k hi hb hm
      obtain ⟨m, rfl⟩ : ∃ k, m = k + 1 := ⟨m - 1, by simp at hm; omega⟩
      rw [l_laws_markByteS_0, if_neg (by simp; omega)]; simp [endBt, markBt]
    | cons e r ih =>
      intro pre m i k hi hb hm
      obtain ⟨m, rfl⟩ : ∃ k, m = k + 1 := ⟨m - 1, by simp at hm; omega⟩
      have hb' : pre.length + (r.length + 1) ≤ 2000000 := by simpa using hb
      rw [l_laws_markByteS_0, if_pos (by simp; omega), gd_pos (by simp; omega)]
      simp only [set_app pre _ _ r hi]
      rw [wi64_id (n := i + 1) (by omega) (by omega)]
      have := ih (pre ++ [wu8 k]) m (i + 1) (wi64 (k + 1)) (by simp; omega) (by simpa using hb) (by simp at hm; omega)
      simp only [List.append_assoc, List.singleton_append] at this
      exact this
  have := lp l [] n 0 k rfl (by simpa using hl) (by omega)
  simp only [List.nil_append] at this
  simp only [g_laws_markByteS, t_laws_markByteS]
  rw [this]; rfl

theorem markSt_len : ∀ (l : List (Int × Int × Unit)) (k : Int), (markSt k l).length = l.length
  | [], _ => rfl
  | e :: r, k => by simp [markSt, markSt_len r]
theorem markBt_len : ∀ (l : List Int) (k : Int), (markBt k l).length = l.length
  | [], _ => rfl
  | e :: r, k => by simp [markBt, markBt_len r]
theorem endSt_bd : ∀ (l : List (Int × Int × Unit)) (k : Int), 0 ≤ k → k ≤ 100000000 → l.length ≤ 2000000 → endSt k l = k + 2 * l.length
  | [], k, _, _, _ => by simp [endSt]
  | e :: r, k, h0, h1, hl => by
    have aux : ∀ (r : List (Int × Int × Unit)) (k : Int), 0 ≤ k → k + 2 * (r.length : Int) ≤ 1000000000 → endSt k r = k + 2 * r.length := by
      intro r
      induction r with
      | nil => intro k _ _; simp [endSt]
      | cons e r ih =>
        intro k h0 h1
        simp only [List.length_cons] at h1
        rw [endSt, wi64_id (n := k + 1) (by omega) (by omega), wi64_id (n := k + 1 + 1) (by omega) (by omega), ih _ (by omega) (by omega)]
        simp only [List.length_cons]; omega
    exact aux (e :: r) k h0 (by omega)
theorem endBt_bd : ∀ (l : List Int) (k : Int), 0 ≤ k → k + (l.length : Int) ≤ 1000000000 → endBt k l = k + l.length
  | [], k, _, _ => by simp [endBt]
  | e :: r, k, h0, h1 => by
    simp only [List.length_cons] at h1
    rw [endBt, wi64_id (by omega) (by omega), endBt_bd r _ (by omega) (by omega)]
    simp only [List.length_cons]; omega

theorem heldStretchS_eq (n : Nat) (hn : 10000000 ≤ n) (k : Int) (l : List (Int × Int × Unit)) (hl : l.length ≤ 2000000) : g_laws_heldStretchS n (markSt k l) k = some (endSt k l, ()) := by
  have lp : ∀ (rest : List (Int × Int × Unit)) (pre : List (Int × Int × Unit)) (m : Nat) (i k : Int), i = pre.length → pre.length + rest.length ≤ 2000000 → rest.length < m →
      l_laws_heldStretchS_0 n m (pre ++ markSt k rest) k i = some (.inr ((endSt k rest, ()), ())) := by
    intro rest
    induction rest with
    | nil =>
      intro pre m i k hi hb hm
      obtain ⟨m, rfl⟩ : ∃ k, m = k + 1 := ⟨m - 1, by simp at hm; omega⟩
      rw [l_laws_heldStretchS_0, if_neg (by simp [markSt]; omega)]; simp [endSt]
    | cons e r ih =>
      intro pre m i k hi hb hm
      obtain ⟨m, rfl⟩ : ∃ k, m = k + 1 := ⟨m - 1, by simp at hm; omega⟩
      simp only [List.length_cons] at hb
      rw [markSt, l_laws_heldStretchS_0, if_pos (by simp; omega), gd_pos (by simp; omega), getD_appI pre _ _ _ hi, if_neg (by simp), gd_pos (by simp; omega), if_neg (by simp), wi64_id (n := i + 1) (by omega) (by omega)]
      have := ih (pre ++ [(k, (wi64 (k + 1), ()))]) m (i + 1) (wi64 (wi64 (k + 1) + 1)) (by simp; omega) (by simp; omega) (by simp at hm; omega)
      simp only [List.append_assoc, List.singleton_append] at this
      exact this
  have := lp l [] n 0 k rfl (by simpa using hl) (by omega)
  simp only [List.nil_append] at this
  simp only [g_laws_heldStretchS, t_laws_heldStretchS]
  rw [this]; rfl

theorem heldByteS_eq (n : Nat) (hn : 10000000 ≤ n) (k : Int) (l : List Int) (hl : l.length ≤ 2000000) : g_laws_heldByteS n (markBt k l) k = some (endBt k l, ()) := by
  have lp : ∀ (rest : List Int) (pre : List Int) (m : Nat) (i k : Int), i = pre.length → pre.length + rest.length ≤ 2000000 → rest.length < m →
      l_laws_heldByteS_0 n m (pre ++ markBt k rest) k i = some (.inr ((endBt k rest, ()), ())) := by
    intro rest
    induction rest with
    | nil =>
      intro pre m i k hi hb hm
      obtain ⟨m, rfl⟩ : ∃ k, m = k + 1 := ⟨m - 1, by simp at hm; omega⟩
      rw [l_laws_heldByteS_0, if_neg (by simp [markBt]; omega)]; simp [endBt]
    | cons e r ih =>
      intro pre m i k hi hb hm
      obtain ⟨m, rfl⟩ : ∃ k, m = k + 1 := ⟨m - 1, by simp at hm; omega⟩
      simp only [List.length_cons] at hb
      rw [markBt, l_laws_heldByteS_0, if_pos (by simp; omega), gd_pos (by simp; omega), getD_appI pre _ _ _ hi, if_neg (by simp), wi64_id (n := i + 1) (by omega) (by omega)]
      have := ih (pre ++ [wu8 k]) m (i + 1) (wi64 (k + 1)) (by simp; omega) (by simp; omega) (by simp at hm; omega)
      simp only [List.append_assoc, List.singleton_append] at this
      exact this
  have := lp l [] n 0 k rfl (by simpa using hl) (by omega)
  simp only [List.nil_append] at this
  simp only [g_laws_heldByteS, t_laws_heldByteS]
  rw [this]; rfl

theorem markSegment_eq (n : Nat) (hn : 10000000 ≤ n) (a1 a2 a3 a4 a5 a6 a7 : Int) (a8 : Bool) (a9 : Int) (a10 : Bool) (k : Int) (sk : List (Int × Int × Unit)) (da : List Int) (h1 : sk.length ≤ 2000000) (h2 : da.length ≤ 2000000) :
    g_laws_markSegment n a1 a2 a3 a4 a5 a6 a7 a8 a9 a10 k sk da = some (endBt (endSt k sk) da, (markSt k sk, markBt (endSt k sk) da, ())) := by
  simp only [g_laws_markSegment, markStretchS_eq n hn k sk h1, markByteS_eq n hn _ da h2, bind_some']

theorem heldSegment_eq (n : Nat) (hn : 10000000 ≤ n) (a1 a2 a3 a4 a5 a6 a7 : Int) (a8 : Bool) (a9 : Int) (a10 : Bool) (k : Int) (sk : List (Int × Int × Unit)) (da : List Int) (h1 : sk.length ≤ 2000000) (h2 : da.length ≤ 2000000) (hk : 0 ≤ k ∧ k ≤ 1000) :
    g_laws_heldSegment n a1 a2 a3 a4 a5 a6 a7 a8 a9 a10 (markSt k sk) (markBt (endSt k sk) da) k = some (endBt (endSt k sk) da, ()) := by
  have e1 := endSt_bd sk k hk.1 (by omega) h1
  have e2 := endBt_bd da (endSt k sk) (by omega) (by omega)
  simp only [g_laws_heldSegment, heldStretchS_eq n hn k sk h1, bind_some']
  rw [if_neg (by simp; omega), heldByteS_eq n hn _ da h2, bind_some']
  simp only
  rw [if_neg (by simp; omega)]

/-- FnExactReadSegment answers true -/
theorem lawRead (n : Nat) (hn : 10000000 ≤ n) (text : List Int) : g_laws_FnExactReadSegment n text = some (true, ()) := by
  rw [g_laws_FnExactReadSegment]
  by_cases ht : (text.length : Int) > 1048576
  · rw [if_pos (by simpa using ht)]
  rw [if_neg (by simpa using ht)]
  obtain ⟨o, h1, h2, h3⟩ := reads n hn (text := text) (by omega)
  have hs : o.2.1.length ≤ 2000000 ∧ o.2.2.1.length ≤ 2000000 := by
    rcases h3 with rfl | ⟨x, hx, hd, hB, _, rfl⟩
    · simp [errO]
    · have := (x.ok_iff hx).n
      simp only [outO]; omega
  have hq := eqSegment_eq n hn o.1.1.1 o.1.1.2.1 o.1.1.2.2.1 o.1.1.2.2.2.1 o.1.1.2.2.2.2.1 o.1.1.2.2.2.2.2.1 o.1.1.2.2.2.2.2.2.1 o.1.1.2.2.2.2.2.2.2.1 o.1.1.2.2.2.2.2.2.2.2.1 o.1.1.2.2.2.2.2.2.2.2.2.1 o.2.1 o.2.2.1 hs.1 hs.2
  have e1 := endSt_bd o.2.1 1 (by omega) (by omega) hs.1
  have e2 := endBt_bd o.2.2.1 (endSt 1 o.2.1) (by omega) (by omega)
  rw [h2, bind_some', h1, bind_some']
  simp only [hq, bind_some', Bool.not_true, Bool.false_eq_true, if_false, bne_self_eq_false]
  rw [markSegment_eq n hn _ _ _ _ _ _ _ _ _ _ 1 _ _ hs.1 hs.2, bind_some']
  simp only
  rw [heldSegment_eq n hn _ _ _ _ _ _ _ _ _ _ 1 _ _ hs.1 hs.2 (by omega), bind_some']
  simp only
  rw [if_neg (by simp; omega)]
  simp only [bne_self_eq_false, Bool.false_eq_true, if_false, h1, bind_some', hq, Bool.not_true]
  rw [heldSegment_eq n hn _ _ _ _ _ _ _ _ _ _ 1 _ _ hs.1 hs.2 (by omega), bind_some']
  simp only
  rw [if_neg (by simp; omega)]
  simp only [bne_self_eq_false, Bool.false_eq_true, if_false]

theorem lwSegment_eq (n : Nat) (hn : 10000000 ≤ n) (a1 a2 a3 a4 a5 a6 a7 : Int) (a8 : Bool) (a9 : Int) (a10 : Bool) (sk : List (Int × Int × Unit)) (da : List Int) (h1 : sk.length ≤ 2000000) :
    g_laws_lwSegment n a1 a2 a3 a4 a5 a6 a7 a8 a9 a10 sk da a1 a2 a3 a4 a5 a6 a7 a8 a9 a10 sk da = some (true, ()) := by
  have lp : ∀ (rest pre : List (Int × Int × Unit)) (m : Nat) (i : Int), i = pre.length → (pre ++ rest).length ≤ 2000000 → rest.length < m →
      l_laws_lwSegment_0 n m i a1 a2 a3 a4 a5 a6 a7 a8 a9 a10 (pre ++ rest) da a1 a2 a3 a4 a5 a6 a7 a8 a9 a10 (pre ++ rest) da =
        some (.inr (((), (), ()), ((a1, a2, a3, a4, a5, a6, a7, a8, a9, a10, pre ++ rest, da, ()), (a1, a2, a3, a4, a5, a6, a7, a8, a9, a10, pre ++ rest, da, ()), ()))) := by
    intro rest
    induction rest with
    | nil =>
      intro pre m i hi hb hm
      obtain ⟨m, rfl⟩ : ∃ k, m = k + 1 := ⟨m - 1, by simp at hm; omega⟩
      rw [l_laws_lwSegment_0, if_neg (by simp; omega)]
    | cons e r ih =>
      intro pre m i hi hb hm
      obtain ⟨m, rfl⟩ : ∃ k, m = k + 1 := ⟨m - 1, by simp at hm; omega⟩
      have hb' : pre.length + (r.length + 1) ≤ 2000000 := by simpa using hb
      rw [l_laws_lwSegment_0, if_pos (by simp; omega), gd_pos (by simp; omega), gd_pos (by simp; omega)]
      simp only [beq_self_eq_true, Bool.and_self, Bool.not_true, Bool.false_eq_true, if_false]
      rw [wi64_id (by omega) (by omega)]
      have := ih (pre ++ [e]) m (i + 1) (by simp; omega) (by simpa using hb) (by simp at hm; omega)
      simpa only [List.append_assoc, List.singleton_append] using this
  have := lp sk [] n 0 rfl (by simpa using h1) (by omega)
  simp only [List.nil_append] at this
  simp only [g_laws_lwSegment, t_laws_lwSegment, bne_self_eq_false, beq_self_eq_true, Bool.not_true, Bool.false_eq_true, if_false, bind_some']
  rw [this, sbind_inr]
  simp only [g_laws_lwSame, bind_some', beq_self_eq_true]

/-- FnSegmentText answers true -/
theorem lawText (n : Nat) (hn : 10000000 ≤ n) (code : List Int) : g_laws_FnSegmentText n code = some (true, ()) := by
  rw [g_laws_FnSegmentText]
  by_cases ht : (code.length : Int) > 1048576
  · rw [if_pos (by simpa using ht)]
  rw [if_neg (by simpa using ht)]
  obtain ⟨y, hy, hB, hl1, hl2⟩ := drawShow_ret n hn code (by omega)
  rw [hy, bind_some']
  have ei := implShow_eq n (by omega) (Sg.mk y.1.1 y.1.2.1 y.1.2.2.1 y.1.2.2.2.1 y.1.2.2.2.2.1 y.1.2.2.2.2.2.1 y.1.2.2.2.2.2.2.1 y.1.2.2.2.2.2.2.2.1 y.1.2.2.2.2.2.2.2.2.1 y.1.2.2.2.2.2.2.2.2.2.1 y.2.1 y.1.2.2.2.2.2.2.2.2.2.2.2.1)
  have es := specShow_eq n (by omega) (Sg.mk y.1.1 y.1.2.1 y.1.2.2.1 y.1.2.2.2.1 y.1.2.2.2.2.1 y.1.2.2.2.2.2.1 y.1.2.2.2.2.2.2.1 y.1.2.2.2.2.2.2.2.1 y.1.2.2.2.2.2.2.2.2.1 y.1.2.2.2.2.2.2.2.2.2.1 y.2.1 y.1.2.2.2.2.2.2.2.2.2.2.2.1) hB
  generalize hx : Sg.mk y.1.1 y.1.2.1 y.1.2.2.1 y.1.2.2.2.1 y.1.2.2.2.2.1 y.1.2.2.2.2.2.1 y.1.2.2.2.2.2.2.1 y.1.2.2.2.2.2.2.2.1 y.1.2.2.2.2.2.2.2.2.1 y.1.2.2.2.2.2.2.2.2.2.1 y.2.1 y.1.2.2.2.2.2.2.2.2.2.2.2.1 = x at ei es
  have ex : x.p = y.1.1 ∧ x.q = y.1.2.1 ∧ x.s = y.1.2.2.1 ∧ x.a = y.1.2.2.2.1 ∧ x.f = y.1.2.2.2.2.1 ∧ x.w = y.1.2.2.2.2.2.1 ∧ x.m = y.1.2.2.2.2.2.2.1 ∧
    x.sc = y.1.2.2.2.2.2.2.2.1 ∧ x.k = y.1.2.2.2.2.2.2.2.2.1 ∧ x.so = y.1.2.2.2.2.2.2.2.2.2.1 ∧ x.sk = y.2.1 ∧ x.da = y.1.2.2.2.2.2.2.2.2.2.2.2.1 := by subst hx; simp
  obtain ⟨e1, e2, e3, e4, e5, e6, e7, e8, e9, e10, e11, e12⟩ := ex
  rw [← e1, ← e2, ← e3, ← e4, ← e5, ← e6, ← e7, ← e8, ← e9, ← e10, ← e11, ← e12, ei, bind_some', es, bind_some', if_neg (by simp), bind_some']
  simp only [bne_self_eq_false, Bool.false_eq_true, if_false]
  rw [← e12] at hB
  have hsk : x.sk.length ≤ 2000000 := by rw [e11]; omega
  -- the first half
  have first : ∀ F : ((List Int) × Unit) × Unit → Option (Bool × Unit), (sbind (
        if ((showA x).1.2.1 == 0) = true then
          (g_impl_ReadSegment n (showA x).1.1).bind fun y_18 =>
          (
            if (y_18.1.2.1 != 0) = true then
              some ((code, true, ()), ())
            else
              (g_laws_lwSegment n y_18.1.1.1 y_18.1.1.2.1 y_18.1.1.2.2.1 y_18.1.1.2.2.2.1 y_18.1.1.2.2.2.2.1 y_18.1.1.2.2.2.2.2.1 y_18.1.1.2.2.2.2.2.2.1 y_18.1.1.2.2.2.2.2.2.2.1 y_18.1.1.2.2.2.2.2.2.2.2.1 y_18.1.1.2.2.2.2.2.2.2.2.2.1 y_18.2.1 y_18.2.2.1 x.p x.q x.s x.a x.f x.w x.m x.sc x.k x.so x.sk x.da).bind fun y_22 =>
              some ((code, (!y_22.1), ()), ())
            : Option ((List Int × Bool × Unit) × Unit)).bind fun x_23 =>
          if x_23.1.2.1 = true then
            some (Sum.inl (false, ()))
          else
            some (Sum.inr ((x_23.1.1, ()), ()))
        else
          some (Sum.inr ((code, ()), ()))
        : Option ((Bool) × (Unit) ⊕ (((List Int) × Unit) × (Unit)))) F) = F ((code, ()), ()) := by
    intro F
    rw [showA]
    rcases bft (x.ok && decide (x.da.length ≤ 4000)) with hk | hk
    · rw [hk, cond_false, if_neg (by simp)]; rfl
    · rw [hk, cond_true, if_pos (by simp)]
      simp only [Bool.and_eq_true, decide_eq_true_eq] at hk
      simp only [implRead_eq n hn hk.1 hk.2 hB, bind_some', outO, bne_self_eq_false, Bool.false_eq_true, if_false, lwSegment_eq n hn _ _ _ _ _ _ _ _ _ _ _ _ hsk, Bool.not_true]
      rfl
  refine (first _).trans ?_
  obtain ⟨t, ht', htl⟩ := drawRead_ret n hn code (by omega)
  simp only
  rw [ht', bind_some']
  obtain ⟨o, h1, h2, h3⟩ := reads n hn (text := t.1) (by omega)
  rw [h1, bind_some', h2, bind_some']
  simp only [bne_self_eq_false, Bool.false_eq_true, if_false]
  rcases h3 with rfl | ⟨z, hz, hd, hB', hT, rfl⟩
  · have := implShow_eq n (by omega) (Sg.mk 0 0 0 0 0 0 0 false 0 false [] [])
    simp only at this
    simp only [errO]
    rw [this, bind_some']
    rfl
  · simp only [outO]
    rw [implShow_eq n (by omega) z, bind_some', showA, hz, decide_eq_true hd, Bool.and_self, cond_true]
    simp only [bne_self_eq_false, Bool.false_eq_true, if_false, beq_self_eq_true, if_true, hT]

end Go.Vm
