/-
  The draws: they always answer.
-/
import Derived.Test.YtannkglddbaalaaDoorR1ReadS4
set_option linter.unusedSimpArgs false
set_option linter.unusedVariables false
namespace Go.Vm

theorem ixorw_bd (a b : Int) : 0 ≤ ixor .u64 a b := (wu64_bd _).1
theorem ishr_nn {k : IntKind} {a b : Int} (h : 0 ≤ a) : 0 ≤ ishr k a b := Int.fdiv_nonneg h (Int.le_of_lt (Int.pow_pos (by omega)))

abbrev SrcT := (List Int) × Int × Int × Unit
/-- a source of choices: its bytes stay; where it stands -/
def SrcOK (c : List Int) (s : SrcT) : Prop := s.1 = c ∧ 0 ≤ s.2.1

theorem begin_ret (n : Nat) (hn : 10000000 ≤ n) (c : List Int) (hc : c.length ≤ 2000000) : Ret (g_spec_l01Begin n c) fun y => SrcOK c y.1 := by
  have lp : ∀ (m : Nat) (i a b p st : Int), 0 ≤ i → i ≤ 3000000 → (c.length : Int) - i < m → 0 < m → 0 ≤ p → Ret (l_spec_l01Begin_0 n m c i a b c p st) fun x => SrcOK c x.2.2.1 := by
    intro m
    induction m with
    | zero => intro i a b p st _ _ _ h; omega
    | succ m ih =>
      intro i a b p st h0 h1 h2 _ hp
      rw [l_spec_l01Begin_0]
      refine .ite (fun h => ?_) (fun _ => .some ⟨rfl, hp⟩)
      have h : i < c.length := by simpa using h
      rw [wi64_id (by omega) (by omega)]
      exact .gd (by omega) (ih _ _ _ _ _ (by omega) (by omega) (by omega) (by omega) hp)
  exact .bind (lp n 0 0 0 0 _ (by omega) (by omega) (by omega) (by omega) (by omega)) fun x hx => .some hx

theorem next_ret (n : Nat) {c : List Int} (hc : c.length ≤ 2000000) (k : Int) (hk : k ≤ 4294967296) {s : List Int} {p st : Int} (hs : SrcOK c (s, p, st, ())) :
    Ret (g_spec_l01Next n k s p st) fun y => (0 ≤ y.1 ∧ (0 < k → y.1 < k) ∧ (k ≤ 0 → y.1 = 0)) ∧ SrcOK c y.2.1 := by
  obtain ⟨h1, h2⟩ := hs
  simp only at h1 h2
  subst h1
  rw [g_spec_l01Next]
  refine .ite (fun h => .some ⟨⟨by simp, fun h' => by simp at h; omega, fun _ => rfl⟩, rfl, h2⟩) (fun h => ?_)
  have h : 0 < k := by simp at h; omega
  have ek : wu64 k = k := wu64_id (by omega) (by omega)
  have key : ∀ v : Int, 0 ≤ v → (0 ≤ wi64 (Int.tmod v k) ∧ (0 < k → wi64 (Int.tmod v k) < k) ∧ (k ≤ 0 → wi64 (Int.tmod v k) = 0)) := by
    intro v hv
    rw [Int.tmod_eq_emod_of_nonneg hv]
    have a := Int.emod_nonneg v (by omega : k ≠ 0)
    have b := Int.emod_lt_of_pos v h
    rw [wi64_id (by omega) (by omega)]
    exact ⟨a, fun _ => b, fun _ => by omega⟩
  simp only [ek]
  refine .ite (fun h' => ?_) (fun _ => .ngd (by omega) (.some ⟨key _ (ishr_nn (wu64_bd _).1), rfl, h2⟩))
  have h' : p < s.length := by simpa using h'
  rw [wi64_id (n := p + 1) (by omega) (by omega)]
  exact .gd (by omega) (.ngd (by omega) (.some ⟨key _ (ixorw_bd _ _), rfl, by simp only; omega⟩))

theorem seq_ret (n : Nat) {c : List Int} (hc : c.length ≤ 2000000) {s : List Int} {p st : Int} (hs : SrcOK c (s, p, st, ())) :
    Ret (g_spec_l01Seq n s p st) fun y => SrcOK c y.2.1 := by
  rw [g_spec_l01Seq]
  refine .bind (next_ret n hc 4 (by omega) hs) fun y hy => ?_
  refine .ite (fun _ => .bind (next_ret n hc _ (by omega) hy.2) fun z hz => .some hz.2) (fun _ => .ite (fun _ => .bind (next_ret n hc _ (by omega) hy.2) fun z hz => .some hz.2) (fun _ => .ite (fun _ => .bind (next_ret n hc _ (by omega) hy.2) fun z hz => .some hz.2)
    (fun _ => .bind (next_ret n hc _ (by omega) hy.2) fun z hz => .some hz.2)))

theorem bool_ret (n : Nat) {c : List Int} (hc : c.length ≤ 2000000) {s : List Int} {p st : Int} (hs : SrcOK c (s, p, st, ())) :
    Ret (g_spec_l01Bool n s p st) fun y => SrcOK c y.2.1 := by
  rw [g_spec_l01Bool]
  exact .bind (next_ret n hc _ (by omega) hs) fun z hz => .some hz.2

theorem bytes_ret (n : Nat) (hn : 10000000 ≤ n) {c : List Int} (hc : c.length ≤ 2000000) (k : Int) (hk : k ≤ 4000000) {s : List Int} {p st : Int} (hs : SrcOK c (s, p, st, ())) :
    Ret (g_spec_l01Bytes n k s p st) fun y => bytesI y.2.1 ∧ y.2.1.length ≤ k.toNat ∧ SrcOK c y.2.2.1 := by
  have lp : ∀ (m : Nat) (i p st : Int) (o : List Int), 0 ≤ i → i ≤ 5000000 → k - i < m → 0 < m → (o.length : Int) ≤ i → (0 ≤ k → (o.length : Int) ≤ k) → (k ≤ 0 → o = []) → SrcOK c (s, p, st, ()) → bytesI o →
      Ret (l_spec_l01Bytes_0 n m k i s p st o) fun x => bytesI x.2.1 ∧ x.2.1.length ≤ k.toNat ∧ SrcOK c x.2.2.1 := by
    intro m
    induction m with
    | zero => intro i p st o _ _ _ h; omega
    | succ m ih =>
      intro i p st o h0 h1 h2 _ h3 h4 h5 hs hB
      rw [l_spec_l01Bytes_0]
      refine .ite (fun h => ?_) (fun _ => .some ⟨hB, ?_, hs⟩)
      · have h : i < k := by simpa using h
        refine .bind (next_ret n hc 256 (by omega) hs) fun y hy => .gd (by simp [lim]; omega) ?_
        rw [wi64_id (by omega) (by omega)]
        have e : y.2.1.1 = s := by have := hy.2.1; have := hs.1; simp_all
        rw [e]
        refine ih _ _ _ _ (by omega) (by omega) (by omega) (by omega) (by simp; omega) (by intro _; simp; omega) (by intro; omega) ⟨hs.1, hy.2.2⟩ ?_
        intro d hd
        rcases List.mem_append.1 hd with hd | hd
        · exact hB d hd
        · simp only [List.mem_cons, List.not_mem_nil, or_false] at hd
          subst hd; exact wu8_bd _
      · by_cases hk0 : k ≤ 0
        · simp [h5 hk0]
        · have := h4 (by omega); show o.length ≤ _; omega
  exact .bind (lp n 0 p st [] (by omega) (by omega) (by omega) (by omega) (by simp) (by intro; simp; omega) (by intro; rfl) hs (by simp [bytesI])) fun x hx => .some hx

theorem drawLoop_ret (n : Nat) {c : List Int} (hc : c.length ≤ 2000000) (k : Int) (hk : k ≤ 1000) (z1 z2 z3 z4 z5 z6 z7 : Int) (z8 : Bool) (z9 : Int) (z10 : Bool) (a1 a2 a3 a4 a5 a6 a7 : Int) (a8 : Bool) (a9 : Int) (a10 : Bool) (da : List Int) (hd : bytesI da) :
    ∀ (m : Nat) (i : Int) (s : List Int) (p st : Int) (sk : List (Int × Int × Unit)), 0 ≤ i → i ≤ 2000 → k - i < m → 0 < m → (sk.length : Int) ≤ i → SrcOK c (s, p, st, ()) →
    Ret (l_spec_l11Draw_0 n m k i s p st z1 z2 z3 z4 z5 z6 z7 z8 z9 z10 a1 a2 a3 a4 a5 a6 a7 a8 a9 a10 sk da) fun x => SrcOK c x.2.2.2.1 ∧ (x.2.2.2.2.1.length : Int) ≤ 3000 ∧ x.2.2.2.2.2.1 = da
  | 0, i, s, p, st, sk, _, _, _, h, _, _ => by omega
  | m + 1, i, s, p, st, sk, h0, h1, h2, _, h3, hs => by
    rw [l_spec_l11Draw_0]
    refine .ite (fun h => ?_) (fun _ => .some ⟨hs, by simp only; omega, rfl⟩)
    have h : i < k := by simpa using h
    refine .bind (seq_ret n hc hs) fun y hy => .bind (seq_ret n hc hy) fun y' hy' => .gd (by simp [lim]; omega) ?_
    rw [wi64_id (by omega) (by omega)]
    exact drawLoop_ret n hc k hk z1 z2 z3 z4 z5 z6 z7 z8 z9 z10 a1 a2 a3 a4 a5 a6 a7 a8 a9 a10 da hd m _ _ _ _ _ (by omega) (by omega) (by omega) (by omega) (by simp; omega) hy'

theorem draw_ret (n : Nat) (hn : 10000000 ≤ n) {c : List Int} (hc : c.length ≤ 2000000) (k : Int) (hk : 0 < k ∧ k ≤ 1000) {s : List Int} {p st : Int} (hs : SrcOK c (s, p, st, ())) :
    Ret (g_spec_l11Draw n k s p st) fun y => (y.2.1.length : Int) ≤ 3000 ∧ bytesI y.2.2.1 ∧ y.2.2.1.length ≤ 1000 ∧ SrcOK c y.2.2.2.1 := by
  simp only [g_spec_l11Draw, t_spec_l11Draw]
  refine .bind (next_ret n hc 2 (by omega) hs) fun y5 h5 => ?_
  refine .bind (next_ret n hc 4 (by omega) h5.2) fun y7 h7 => ?_
  refine .bind (seq_ret n hc h7.2) fun y9 h9 => ?_
  refine .bind (seq_ret n hc h9) fun y10 h10 => ?_
  refine .bind (next_ret n hc 8 (by omega) h10) fun y11 h11 => ?_
  refine .gd ⟨h11.1.1, h11.1.2.1 (by omega)⟩ ?_
  refine .bind (next_ret n hc 65536 (by omega) h11.2) fun y13 h13 => ?_
  refine .bind (next_ret n hc k (by omega) h13.2) fun y14 h14 => ?_
  have l14 := h14.1.2.1 hk.1
  refine .bind (bytes_ret n hn hc y14.1 (by omega) h14.2) fun y15 h15 => ?_
  refine .bind (next_ret n hc 12 (by omega) h15.2.2) fun y16 h16 => ?_
  have hl : y15.2.1.length ≤ 1000 := by omega
  refine .bind (Q := fun x => SrcOK c x.2.1 ∧ bytesI x.2.2.2.2.1 ∧ x.2.2.2.2.1.length ≤ 1000) (.ite (fun _ => .bind (next_ret n hc 64 (by omega) h16.2) fun y h => .some ⟨h.2, h15.1, hl⟩) (fun _ => .some ⟨h16.2, h15.1, hl⟩)) fun x20 h20 => ?_
  refine .bind (bool_ret n hc h20.1) fun y21 h21 => ?_
  refine .bind (Q := fun x => SrcOK c x.2.1 ∧ bytesI x.2.2.2.2.1 ∧ x.2.2.2.2.1.length ≤ 1000) (.ite (fun _ => .bind (next_ret n hc 1000 (by omega) h21) fun y h => .some ⟨h.2, h20.2⟩) (fun _ => .some ⟨h21, h20.2⟩)) fun x26 h26 => ?_
  refine .bind (bool_ret n hc h26.1) fun y27 h27 => ?_
  refine .bind (Q := fun x => SrcOK c x.2.1 ∧ bytesI x.2.2.2.2.1 ∧ x.2.2.2.2.1.length ≤ 1000) (.ite (fun _ => .bind (next_ret n hc 15 (by omega) h27) fun y h => .some ⟨h.2, h26.2⟩) (fun _ => .some ⟨h27, h26.2⟩)) fun x30 h30 => ?_
  refine .bind (bool_ret n hc h30.1) fun y31 h31 => ?_
  refine .bind (next_ret n hc 5 (by omega) h31) fun y32 h32 => ?_
  have l32 := h32.1.2.1 (by omega)
  refine .bind (drawLoop_ret n hc y32.1 (by omega) _ _ _ _ _ _ _ _ _ _ _ _ _ _ _ _ _ _ _ _ _ h30.2.1 n 1 _ _ _ _ (by omega) (by omega) (by omega) (by omega) (by simp) h32.2) fun x127 h127 => .some ⟨h127.2.1, ?_, ?_, h127.1⟩
  · rw [h127.2.2]; exact h30.2.1
  · rw [h127.2.2]; exact h30.2.2

theorem bend_ret (n : Nat) {c : List Int} (hc : c.length ≤ 2000000) (a1 a2 a3 a4 a5 a6 a7 : Int) (a8 : Bool) (a9 : Int) (a10 : Bool) (da s : List Int) (p st : Int) (sk : List (Int × Int × Unit)) (hk : (sk.length : Int) ≤ 3000) (hs : SrcOK c (s, p, st, ())) :
    Ret (g_spec_l11Bend n a1 a2 a3 a4 a5 a6 a7 a8 a9 a10 da s p st sk) fun y => y.1.2.2.2.2.2.2.2.2.2.2.2.1 = da ∧ (y.2.1.length : Int) ≤ 4000 ∧ SrcOK c y.2.2.1 := by
  rw [g_spec_l11Bend]
  refine .bind (next_ret n hc 30 (by omega) hs) fun y hy => ?_
  have hk' : (sk.length : Int) ≤ 4000 := by omega
  refine .ite (fun _ => .some ⟨rfl, hk', hy.2⟩) (fun _ => .ite (fun _ => .some ⟨rfl, hk', hy.2⟩) (fun _ => .ite (fun _ => .some ⟨rfl, hk', hy.2⟩) (fun _ => .ite (fun _ => .some ⟨rfl, hk', hy.2⟩) (fun _ => .ite (fun _ => .some ⟨rfl, hk', hy.2⟩)
    (fun _ => .ite (fun _ => .some ⟨rfl, hk', hy.2⟩) (fun _ => .ite (fun _ => .some ⟨rfl, hk', hy.2⟩) (fun _ => .ite (fun _ => .gd (by simp [lim]; omega) (.some ⟨rfl, by simp; omega, hy.2⟩)) (fun _ => .ite (fun _ => .some ⟨rfl, by simp, hy.2⟩) (fun _ => .some ⟨rfl, hk', hy.2⟩)))))))))

theorem drawShow_ret (n : Nat) (hn : 10000000 ≤ n) (c : List Int) (hc : c.length ≤ 2000000) : Ret (g_spec_DrawShowSegment n c) fun y => bytesI y.1.2.2.2.2.2.2.2.2.2.2.2.1 ∧ (y.2.1.length : Int) ≤ 4000 ∧ y.1.2.2.2.2.2.2.2.2.2.2.2.1.length ≤ 4001 := by
  rw [g_spec_DrawShowSegment]
  refine .bind (begin_ret n hn c hc) fun y2 h2 => .bind (draw_ret n hn hc 20 (by omega) h2) fun y3 h3 => .bind (bend_ret n hc _ _ _ _ _ _ _ _ _ _ _ _ _ _ _ h3.1 h3.2.2.2) fun y4 h4 => .bind (next_ret n hc 30 (by omega) h4.2.2) fun y5 h5 => ?_
  refine .ite (fun _ => .bind (next_ret n hc 2 (by omega) h5.2) fun y7 h7 => ?_) (fun _ => .some ⟨?_, h4.2.1, ?_⟩)
  · have l7 := h7.1.2.1 (by omega)
    have l70 := h7.1.1
    rw [wi64_id (n := 4000 + y7.1) (by omega) (by omega)]
    refine .gd (by simp only [lim]; omega) (.some ⟨?_, h4.2.1, by simp; omega⟩)
    intro d hd
    simp only at hd
    have := List.eq_of_mem_replicate hd
    unfold isByte; omega
  · show bytesI y4.1.2.2.2.2.2.2.2.2.2.2.2.1
    rw [h4.1]; exact h3.2.1
  · show y4.1.2.2.2.2.2.2.2.2.2.2.2.1.length ≤ 4001
    rw [h4.1]; have := h3.2.2.1; omega

theorem drawRead_ret (n : Nat) (hn : 10000000 ≤ n) (c : List Int) (hc : c.length ≤ 2000000) : Ret (g_spec_DrawReadSegment n c) fun y => y.1.length ≤ 1000000 := by
  rw [g_spec_DrawReadSegment]
  refine .bind (begin_ret n hn c hc) fun y2 h2 => .bind (draw_ret n hn hc 12 (by omega) h2) fun y3 h3 => ?_
  have e := specShow_eq n (by omega) (Sg.mk y3.1.1 y3.1.2.1 y3.1.2.2.1 y3.1.2.2.2.1 y3.1.2.2.2.2.1 y3.1.2.2.2.2.2.1 y3.1.2.2.2.2.2.2.1 y3.1.2.2.2.2.2.2.2.1 y3.1.2.2.2.2.2.2.2.2.1 y3.1.2.2.2.2.2.2.2.2.2.1 y3.2.1 y3.2.2.1) h3.2.1
  simp only at e
  rw [e, bind_some']
  have hT : (showA (Sg.mk y3.1.1 y3.1.2.1 y3.1.2.2.1 y3.1.2.2.2.1 y3.1.2.2.2.2.1 y3.1.2.2.2.2.2.1 y3.1.2.2.2.2.2.2.1 y3.1.2.2.2.2.2.2.2.1 y3.1.2.2.2.2.2.2.2.2.1 y3.1.2.2.2.2.2.2.2.2.2.1 y3.2.1 y3.2.2.1)).1.1.length ≤ 9000 := by
    generalize Sg.mk y3.1.1 y3.1.2.1 y3.1.2.2.1 y3.1.2.2.2.1 y3.1.2.2.2.2.1 y3.1.2.2.2.2.2.1 y3.1.2.2.2.2.2.2.1 y3.1.2.2.2.2.2.2.2.1 y3.1.2.2.2.2.2.2.2.2.1 y3.1.2.2.2.2.2.2.2.2.2.1 y3.2.1 y3.2.2.1 = x
    rw [showA]
    rcases bft (x.ok && decide (x.da.length ≤ 4000)) with hk | hk
    · rw [hk]; simp
    · rw [hk, cond_true]
      simp only [Bool.and_eq_true, decide_eq_true_eq] at hk
      exact showT_len9 (x.ok_iff hk.1) hk.2
  generalize showA (Sg.mk y3.1.1 y3.1.2.1 y3.1.2.2.1 y3.1.2.2.2.1 y3.1.2.2.2.2.1 y3.1.2.2.2.2.2.1 y3.1.2.2.2.2.2.2.1 y3.1.2.2.2.2.2.2.2.1 y3.1.2.2.2.2.2.2.2.2.1 y3.1.2.2.2.2.2.2.2.2.2.1 y3.2.1 y3.2.2.1) = t at hT ⊢
  refine .bind (next_ret n hc 3 (by omega) h3.2.2.2) fun y5 h5 => .ite (fun _ => .some (by simp only; omega)) (fun _ => ?_)
  rw [wi64_id (n := (t.1.1.length : Int) + 1) (by omega) (by omega)]
  refine .bind (next_ret n hc _ (by omega) h5.2) fun y8 h8 => .bind (next_ret n hc 13 (by omega) h8.2) fun y9 h9 => ?_
  have l8 := h8.1.2.1 (by omega)
  have l80 := h8.1.1
  have l9 := h9.1.2.1 (by omega)
  have l90 := h9.1.1
  refine .bind (Q := fun x => x.1.1 = t.1.1 ∧ x.1.2.1 = y8.1 ∧ x.1.2.2.1.length = 13 ∧ x.1.2.2.2.1 = y9.1 ∧ (x.1.2.2.2.2.1 = false → y8.1 ≠ (t.1.1.length : Int))) (.bind (bool_ret n hc h9.2) fun y12 h12 => .ite (fun _ => .some ⟨rfl, rfl, rfl, rfl, by simp⟩) (fun _ => .some ⟨rfl, rfl, rfl, rfl, by simp⟩)) fun x hx => ?_
  obtain ⟨q1, q2, q3, q4, q5⟩ := hx
  rw [q1, q2, q3, q4, wi64_id (n := y9.1 + 1) (by omega) (by omega)]
  have c1 : (cutL t.1.1 0 y8.1).length = (y8.1 - 0).toNat := cutL_len _ (by omega) (by omega) (by omega)
  have c2 : (cutL x.1.2.2.1 y9.1 (y9.1 + 1)).length = (y9.1 + 1 - y9.1).toNat := cutL_len _ (by omega) (by omega) (by omega)
  refine .ite (fun _ => ?_) (fun hf => ?_)
  · have c3 : (cutL t.1.1 y8.1 (t.1.1.length : Int)).length = ((t.1.1.length : Int) - y8.1).toNat := cutL_len _ (by omega) (by omega) (by omega)
    refine .gd (by omega) (.gd (by omega) (.gd (by rw [c1, c2]; simp only [lim]; omega) (.gd (by omega) (.gd (by rw [List.length_append, c1, c2, c3]; simp only [lim]; omega) (.some ?_)))))
    rw [List.length_append, List.length_append, c1, c2, c3]; omega
  · have hne := q5 (by simpa using hf)
    rw [wi64_id (n := y8.1 + 1) (by omega) (by omega)]
    have c3 : (cutL t.1.1 (y8.1 + 1) (t.1.1.length : Int)).length = ((t.1.1.length : Int) - (y8.1 + 1)).toNat := cutL_len _ (by omega) (by omega) (by omega)
    refine .gd (by omega) (.gd (by omega) (.gd (by rw [c1, c2]; simp only [lim]; omega) (.gd (by omega) (.gd (by rw [List.length_append, c1, c2, c3]; simp only [lim]; omega) (.some ?_)))))
    rw [List.length_append, List.length_append, c1, c2, c3]; omega

end Go.Vm
