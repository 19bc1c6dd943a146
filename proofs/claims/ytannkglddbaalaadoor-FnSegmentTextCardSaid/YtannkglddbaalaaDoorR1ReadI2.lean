/-
  impl.ReadSegment, put together.
-/
import Derived.Test.YtannkglddbaalaaDoorR1ReadI
set_option linter.unusedSimpArgs false
set_option linter.unusedVariables false
namespace Go.Vm

theorem by8_un8' (l : List UInt8) : by8 (un8 l) = l := by
  induction l with
  | nil => rfl
  | cons a r ih =>
    simp only [by8, un8, List.map_cons] at ih ⊢
    rw [ih]
    congr 1
    simp
theorem un8_by8' {l : List Int} (h : bytesI l) : un8 (by8 l) = l := by
  induction l with
  | nil => rfl
  | cons a r ih =>
    have := ih (fun c hc => h c (by simp [hc]))
    have ha := h a (by simp)
    unfold isByte at ha
    simp only [by8, un8, List.map_cons] at this ⊢
    rw [this]
    congr 1
    simp; omega
theorem un8_bytes (l : List UInt8) : bytesI (un8 l) := by
  intro c hc
  simp only [un8, List.mem_map] at hc
  obtain ⟨b, _, rfl⟩ := hc
  have := b.toNat_lt
  unfold isByte; omega

theorem hx_fin : ∀ c : Fin 256, Lib.Hx.v (Lib.Hx.digit (c.val / 16)) ≤ 15 ∧ Lib.Hx.v (Lib.Hx.digit (c.val % 16)) ≤ 15 ∧
    Lib.Hx.v (Lib.Hx.digit (c.val / 16)) * 16 + Lib.Hx.v (Lib.Hx.digit (c.val % 16)) = c.val := by decide +kernel
theorem hx_back : ∀ l : List UInt8, Lib.Hx.decode (Lib.Hx.encode l) = (l, .ok)
  | [] => by simp [Lib.Hx.encode, Lib.Hx.decode_nil]
  | a :: r => by
    have h := hx_fin ⟨a.toNat, a.toNat_lt⟩
    simp only at h
    rw [Lib.Hx.encode_cons, Lib.Hx.decode_two, if_neg (by omega), if_neg (by omega), hx_back r, h.2.2]
    simp

theorem decodeString_eq (n : Nat) {b : List Int} (h : bytesI b) (hl : b.length ≤ 1000000) : g_encoding_hex_DecodeString n (hexI b) = some (((), true, ()), (b, ())) := by
  rw [g_encoding_hex_DecodeString, if_pos (by rw [hexI_len]; simp only [lim]; omega), hexI, by8_un8', hx_back]
  simp [hexEnd, un8_by8' h]

theorem sackLoop_ret (n : Nat) (hn : 1000 ≤ n) (text : List Int) (z1 z2 z3 z4 z5 z6 z7 : Int) (z8 : Bool) (z9 : Int) (z10 : Bool) (a1 a2 a3 a4 a5 a6 a7 : Int) (a8 : Bool) (a9 : Int) (a10 : Bool) :
    ∀ (m : Nat) (w : List (List Int)) (b : Bool) (sk : List (Int × Int × Unit)), WSok w → w.length < m → sk.length + w.length ≤ 4000000 →
    Ret (l_impl_ReadSegment_1 n m text z1 z2 z3 z4 z5 z6 z7 z8 z9 z10 a1 a2 a3 a4 a5 a6 a7 a8 a9 a10 w b sk) fun x => x.1.1 = text ∧ WSok x.2.2.2.2.1.1
  | 0, w, b, sk, h, hm, _ => by omega
  | m + 1, w, b, sk, h, hm, hl => by
    rw [l_impl_ReadSegment_1, is_eq, bind_some']
    have hi := isF_ok (word := [115, 97, 99, 107]) (b := b) h
    by_cases h1 : (isF [115, 97, 99, 107] w b).1 = true
    · rw [if_pos h1]
      refine .bind (f1_ret n hn 45 hi.1) fun y hy => .gd ?_ ?_
      · have := hi.2.2 h1; simp [lim]; omega
      · have := hi.2.2 h1
        exact sackLoop_ret n hn text z1 z2 z3 z4 z5 z6 z7 z8 z9 z10 a1 a2 a3 a4 a5 a6 a7 a8 a9 a10 m _ _ _ hy.1 (by omega) (by simp; omega)
    · rw [if_neg h1]
      exact .some ⟨rfl, hi.1⟩

theorem sackLoop_eq (n : Nat) (hn : 1000 ≤ n) (text : List Int) (z1 z2 z3 z4 z5 z6 z7 : Int) (z8 : Bool) (z9 : Int) (z10 : Bool) (a1 a2 a3 a4 a5 a6 a7 : Int) (a8 : Bool) (a9 : Int) (a10 : Bool)
    (r : List (List Int)) (hr : r.head? ≠ some wSack) : ∀ (sk' : List (Int × Int × Unit)) (m : Nat) (sk : List (Int × Int × Unit)), sk'.length < m → sk.length + sk'.length ≤ 4000 →
    (∀ e ∈ sk', (0 ≤ e.1 ∧ e.1 ≤ 4294967295) ∧ (0 ≤ e.2.1 ∧ e.2.1 ≤ 4294967295)) →
    l_impl_ReadSegment_1 n m text z1 z2 z3 z4 z5 z6 z7 z8 z9 z10 a1 a2 a3 a4 a5 a6 a7 a8 a9 a10 (sackWs sk' ++ r) false sk =
      some ((text, (), (), (), ()), ((z1, z2, z3, z4, z5, z6, z7, z8, z9, z10, (), (), ()), ((), ()), (a1, a2, a3, a4, a5, a6, a7, a8, a9, a10, (), (), ()), (r, false, ()), sk ++ sk', ()))
  | [], m, sk, hm, hl, hE => by
    obtain ⟨m, rfl⟩ : ∃ k, m = k + 1 := ⟨m - 1, by simp at hm; omega⟩
    rw [l_impl_ReadSegment_1, is_eq, bind_some']
    simp only [sackWs, List.nil_append]
    cases r with
    | nil => simp [isF]
    | cons x t =>
      have : (x == wSack) = false := by simpa using hr
      rw [wSack] at this
      simp [isF, this]
  | e :: t, m, sk, hm, hl, hE => by
    obtain ⟨m, rfl⟩ : ∃ k, m = k + 1 := ⟨m - 1, by simp at hm; omega⟩
    have he := hE e (by simp)
    have e1 : isF [115, 97, 99, 107] (sackWs (e :: t) ++ r) false = (true, ((pairW 45 e.1 e.2.1 :: (sackWs t ++ r), false, ()), ())) := by
      simp [sackWs, isF, wSack]
    rw [l_impl_ReadSegment_1, is_eq, bind_some', e1]
    simp only [if_true]
    rw [f1_eq n hn (by omega) he.1 he.2, bind_some', gd_pos (by simp at hl; simp [lim]; omega)]
    have := sackLoop_eq n hn text z1 z2 z3 z4 z5 z6 z7 z8 z9 z10 a1 a2 a3 a4 a5 a6 a7 a8 a9 a10 r hr t m (sk ++ [e]) (by simp at hm; omega) (by simp at hl; simp; omega) (fun d hd => hE d (by simp [hd]))
    rw [List.append_assoc, List.singleton_append] at this
    exact this

abbrev OutT := ((Int × Int × Int × Int × Int × Int × Int × Bool × Int × Bool × Unit × Unit × Unit) × Int × Unit) × ((List (Int × Int × Unit)) × (List Int) × Unit)
def errO : OutT := (((0, 0, 0, 0, 0, 0, 0, false, 0, false, (), (), ()), 6, ()), ([], [], ()))
def outO (x : Sg) : OutT := (((x.p, x.q, x.s, x.a, x.f, x.w, x.m, x.sc, x.k, x.so, (), (), ()), 0, ()), (x.sk, x.da, ()))

theorem joinI_bd (xs : List (List Int)) : ∀ w ∈ xs, w.length ≤ (joinI [32] xs).length ∧ xs.length ≤ (joinI [32] xs).length + 1 := by
  induction xs with
  | nil => intro w hw; simp at hw
  | cons x r ih =>
    intro w hw
    cases r with
    | nil =>
      simp only [List.mem_cons, List.not_mem_nil, or_false] at hw
      subst hw; simp [joinI_one]
    | cons y t =>
      have h2 := ih y (by simp)
      rw [joinI_cons]
      simp only [List.length_append, List.length_cons, List.length_nil] at h2 ⊢
      rcases List.mem_cons.1 hw with rfl | hw
      · omega
      · have := ih w hw; omega
theorem splitI_bd (c : Int) : ∀ s : List Int, (∀ w ∈ splitI c s, w.length ≤ s.length) ∧ (splitI c s).length ≤ s.length + 1
  | [] => by simp [splitI]
  | x :: r => by
    have h := splitI_bd c r
    rw [splitI]
    split
    · constructor
      · intro w hw
        rcases List.mem_cons.1 hw with rfl | hw
        · simp
        · have := h.1 w hw; simp; omega
      · simp; omega
    · split
      · simp
      · rename_i p ps e
        rw [e] at h
        constructor
        · intro w hw
          rcases List.mem_cons.1 hw with rfl | hw
          · have := h.1 p (by simp); simp; omega
          · have := h.1 w (by simp [hw]); simp; omega
        · have := h.2; simp at this ⊢; omega

theorem implRead_ret (n : Nat) (hn : 10000000 ≤ n) {text : List Int} (ht : text.length ≤ 2000000) :
    Ret (g_impl_ReadSegment n text) fun o => o = errO ∨ ∃ x : Sg, x.ok = true ∧ x.da.length ≤ 4000 ∧ bytesI x.da ∧ showT x = text ∧ o = outO x := by
  have hn' : 1000 ≤ n := by omega
  simp only [g_impl_ReadSegment, t_impl_ReadSegment]
  rw [g_strings_Split]
  rw [if_pos (by omega), bind_some']
  have hs := splitI_bd 32 text
  have hW : WSok (splitI 32 text) := fun w hw => by have := hs.1 w hw; omega
  refine .bind (f1_ret n hn' 62 hW) fun y3 h3 => ?_
  rw [next_eq, bind_some']
  have h4 := nextF_ok (b := y3.2.2.1.2.1) h3.1
  rw [flLoop_eq n hn']
  obtain ⟨fl, hfl⟩ := flR_some n (nextF y3.2.2.1.1 y3.2.2.1.2.1).1 0 0 (by omega) (by omega)
  rw [hfl]
  simp only [Option.map_some, bind_some']
  refine .bind (number_ret n hn' h4.2.1) fun y64 h64 => .bind (number_ret n hn' h64.1) fun y65 h65 => .bind (number_ret n hn' h65.1) fun y66 h66 => ?_
  rw [is_eq, bind_some']
  have l3 : y3.2.2.1.1.length ≤ 2000001 := Nat.le_trans h3.2 (by show (splitI 32 text).length ≤ _; omega)
  have l66 : y66.2.1.1.length ≤ 2000001 := Nat.le_trans h66.2 (Nat.le_trans h65.2 (Nat.le_trans h64.2 (Nat.le_trans h4.2.2 l3)))
  have h67 := isF_ok (word := [109, 115, 115]) (b := y66.2.1.2.1) h66.1
  refine .bind (Q := fun x => x.1.1 = text ∧ WSok x.2.2.2.2.1.1 ∧ x.2.2.2.2.1.1.length ≤ 2000001) (.ite (fun _ => .bind (number_ret n hn' h67.1) fun y hy => .some ⟨rfl, hy.1, Nat.le_trans hy.2 (Nat.le_trans h67.2.1 l66)⟩) (fun _ => .some ⟨rfl, h67.1, Nat.le_trans h67.2.1 l66⟩)) fun x70 h70 => ?_
  rw [is_eq, bind_some']
  have h71 := isF_ok (word := [115, 99, 97, 108, 101]) (b := x70.2.2.2.2.1.2.1) h70.2.1
  refine .bind (Q := fun x => x.1.1 = text ∧ WSok x.2.2.2.2.1.1 ∧ x.2.2.2.2.1.1.length ≤ 2000001) (.ite (fun _ => .bind (number_ret n hn' h71.1) fun y hy => .some ⟨h70.1, hy.1, Nat.le_trans hy.2 (Nat.le_trans h71.2.1 h70.2.2)⟩) (fun _ => .some ⟨h70.1, h71.1, Nat.le_trans h71.2.1 h70.2.2⟩)) fun x74 h74 => ?_
  rw [is_eq, bind_some']
  have h75 := isF_ok (word := [115, 97, 99, 107, 111, 107]) (b := x74.2.2.2.2.1.2.1) h74.2.1
  refine .bind (sackLoop_ret n hn' _ _ _ _ _ _ _ _ _ _ _ _ _ _ _ _ _ _ _ _ _ n _ _ _ h75.1 (by omega) (by simp; omega)) fun x155 h155 => ?_
  rw [is_eq, bind_some']
  have h156 := isF_ok (word := [100, 97, 116, 97]) (b := x155.2.2.2.2.1.2.1) h155.2
  refine .bind (Q := fun x => x.1.1 = text ∧ bytesI x.2.2.2.2.2.2.1) (.ite (fun _ => ?_) (fun _ => .some ⟨h155.1.trans h74.1, by simp [bytesI]⟩)) fun x167 h167 => ?_
  · rw [next_eq, bind_some']
    have h162 := nextF_ok (b := (isF [100, 97, 116, 97] x155.2.2.2.2.1.1 x155.2.2.2.2.1.2.1).2.1.2.1) h156.1
    rw [g_encoding_hex_DecodeString, if_pos (by simp only [lim]; omega), bind_some']
    refine .bind (Q := fun x => x.1.1 = text ∧ bytesI x.2.2.2.2.1) (.ite (fun _ => .some ⟨h155.1.trans h74.1, un8_bytes _⟩) (fun _ => .some ⟨h155.1.trans h74.1, un8_bytes _⟩)) fun x166 h166 => .some h166
  have hdone : ∀ (w : List (List Int)) (b : Bool), Ret (g_impl_wordReader_done n w b) fun _ => True := by
    intro w b; cases b <;> exact .some trivial
  refine .bind (hdone _ _) fun y168 _ => .ite (fun _ => .some (.inl rfl)) (fun _ => ?_)
  have e := implShow_eq n (by omega) (Sg.mk x167.2.2.2.1.1 x167.2.2.2.1.2.1 x167.2.2.2.1.2.2.1 x167.2.2.2.1.2.2.2.1 x167.2.2.2.1.2.2.2.2.1 x167.2.2.2.1.2.2.2.2.2.1 x167.2.2.2.1.2.2.2.2.2.2.1
    x167.2.2.2.1.2.2.2.2.2.2.2.1 x167.2.2.2.1.2.2.2.2.2.2.2.2.1 x167.2.2.2.1.2.2.2.2.2.2.2.2.2.1 x167.2.2.2.2.2.1 x167.2.2.2.2.2.2.1)
  generalize hx : Sg.mk x167.2.2.2.1.1 x167.2.2.2.1.2.1 x167.2.2.2.1.2.2.1 x167.2.2.2.1.2.2.2.1 x167.2.2.2.1.2.2.2.2.1 x167.2.2.2.1.2.2.2.2.2.1 x167.2.2.2.1.2.2.2.2.2.2.1
    x167.2.2.2.1.2.2.2.2.2.2.2.1 x167.2.2.2.1.2.2.2.2.2.2.2.2.1 x167.2.2.2.1.2.2.2.2.2.2.2.2.2.1 x167.2.2.2.2.2.1 x167.2.2.2.2.2.2.1 = x at e
  have ex : x.p = x167.2.2.2.1.1 ∧ x.q = x167.2.2.2.1.2.1 ∧ x.s = x167.2.2.2.1.2.2.1 ∧ x.a = x167.2.2.2.1.2.2.2.1 ∧ x.f = x167.2.2.2.1.2.2.2.2.1 ∧ x.w = x167.2.2.2.1.2.2.2.2.2.1 ∧ x.m = x167.2.2.2.1.2.2.2.2.2.2.1 ∧
    x.sc = x167.2.2.2.1.2.2.2.2.2.2.2.1 ∧ x.k = x167.2.2.2.1.2.2.2.2.2.2.2.2.1 ∧ x.so = x167.2.2.2.1.2.2.2.2.2.2.2.2.2.1 ∧ x.sk = x167.2.2.2.2.2.1 ∧ x.da = x167.2.2.2.2.2.2.1 := by subst hx; simp
  obtain ⟨e1, e2, e3, e4, e5, e6, e7, e8, e9, e10, e11, e12⟩ := ex
  rw [← e1, ← e2, ← e3, ← e4, ← e5, ← e6, ← e7, ← e8, ← e9, ← e10, ← e11, ← e12, e, bind_some', showA]
  rcases bft (x.ok && decide (x.da.length ≤ 4000)) with hk | hk
  · rw [hk, cond_false, if_pos (by simp), bind_some', if_pos rfl]
    exact .some (.inl rfl)
  · rw [hk, cond_true, if_neg (by simp), bind_some']
    simp only [Bool.and_eq_true, decide_eq_true_eq] at hk
    refine .ite (fun _ => .some (.inl rfl)) (fun ht' => .some (.inr ⟨x, hk.1, hk.2, by rw [e12]; exact h167.2, ?_, rfl⟩))
    rw [← h167.1]
    simpa using ht'

end Go.Vm
