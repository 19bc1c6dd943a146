/-
  ShowSegment, of both: the text that they say.
-/
import Derived.Test.YtannkglddbaalaaDoorR1Show
set_option linter.unusedSimpArgs false
set_option linter.unusedVariables false
namespace Go.Vm

def tailT : List (List Int) → List Int
  | [] => []
  | w :: r => 32 :: w ++ tailT r
theorem tailT_app : ∀ a b : List (List Int), tailT (a ++ b) = tailT a ++ tailT b
  | [], _ => rfl
  | w :: r, b => by simp [tailT, tailT_app r b]
theorem joinI_tail : ∀ (w : List Int) (r : List (List Int)), joinI [32] (w :: r) = w ++ tailT r
  | w, [] => by simp [joinI_one, tailT]
  | w, v :: r => by rw [joinI_cons, joinI_tail v r]; simp [tailT]

structure Sg.Ok (x : Sg) : Prop where
  p : 0 ≤ x.p ∧ x.p ≤ 65535
  q : 0 ≤ x.q ∧ x.q ≤ 65535
  s : 0 ≤ x.s ∧ x.s ≤ 4294967295
  a : 0 ≤ x.a ∧ x.a ≤ 4294967295
  f : rg x.f 0 63 = true
  w : 0 ≤ x.w ∧ x.w ≤ 65535
  m : 0 ≤ x.m ∧ x.m ≤ 65535
  k : 0 ≤ x.k ∧ x.k ≤ 14
  sc : x.sc = true ∨ x.k = 0
  n : x.sk.length ≤ 3
  sk : ∀ e ∈ x.sk, (0 ≤ e.1 ∧ e.1 ≤ 4294967295) ∧ (0 ≤ e.2.1 ∧ e.2.1 ≤ 4294967295)
theorem Sg.ok_iff (x : Sg) : x.ok = true → x.Ok := by
  intro h
  simp only [Sg.ok, Bool.and_eq_true, decide_eq_true_eq, List.all_eq_true] at h
  obtain ⟨⟨⟨⟨⟨⟨⟨⟨⟨⟨h1, h2⟩, h3⟩, h4⟩, h5⟩, h6⟩, h7⟩, h8⟩, h9⟩, h10⟩, h11⟩ := h
  simp only [rg, Bool.and_eq_true, decide_eq_true_eq] at h1 h2 h3 h4 h6 h7 h8
  refine ⟨h1, h2, h3, h4, h5, h6, h7, h8, ?_, h10, ?_⟩
  · simpa using h9
  · intro e he
    have := h11 e he
    simpa [okE, and_assoc] using this

theorem dlen {v : Int} (h : 0 ≤ v ∧ v ≤ 4294967295) : (decI v).length ≤ 10 := decI_len 9 h.1 (by omega)

theorem loop_sack_impl (n : Nat) (x1 x2 x3 x4 x5 x6 x7 : Int) (x8 : Bool) (x9 : Int) (x10 : Bool) (sk' : List (Int × Int × Unit)) (da : List Int) :
    ∀ (rest pre : List (Int × Int × Unit)) (o : List (List Int)) (m : Nat) (i N : Int), i = pre.length → N = (pre ++ rest).length → N ≤ 1000 → o.length + 2 * rest.length ≤ 1000 → rest.length < m →
    (∀ e ∈ rest, (0 ≤ e.1 ∧ e.1 ≤ 4294967295) ∧ (0 ≤ e.2.1 ∧ e.2.1 ≤ 4294967295)) →
    l_impl_ShowSegment_1 n m (pre ++ rest) N i x1 x2 x3 x4 x5 x6 x7 x8 x9 x10 sk' da o =
      some (((), (), ()), ((x1, x2, x3, x4, x5, x6, x7, x8, x9, x10, sk', da, ()), o ++ sackWs rest, ())) := by
  intro rest
  induction rest with
  | nil =>
    intro pre o m i N hi hN hb ho hm hE
    obtain ⟨m, rfl⟩ : ∃ k, m = k + 1 := ⟨m - 1, by simp at hm; omega⟩
    rw [l_impl_ShowSegment_1, if_neg (by simp at hN; simp; omega)]
    simp [sackWs]
  | cons e r ih =>
    intro pre o m i N hi hN hb ho hm hE
    obtain ⟨m, rfl⟩ : ∃ k, m = k + 1 := ⟨m - 1, by simp at hm; omega⟩
    have hN' : N = pre.length + (r.length + 1) := by rw [hN]; simp
    have ho' : o.length + 2 * (r.length + 1) ≤ 1000 := by simpa using ho
    have he := hE e (by simp)
    have l1 := dlen he.1
    have l2 := dlen he.2
    rw [l_impl_ShowSegment_1, if_pos (by simp; omega), gd_pos (by simp; omega)]
    simp only [getD_appI pre e r _ hi, num_eq n he.1.1, num_eq n he.2.1, bind_some']
    rw [gd_pos (by simp [lim]; omega), gd_pos (by simp [lim]; omega), gd_pos (by simp [lim]; omega), wi64_id (by omega) (by omega)]
    have := ih (pre ++ [e]) (o ++ [[115, 97, 99, 107], decI e.1 ++ [45] ++ decI e.2.1]) m (i + 1) N (by simp; omega) (by simp; omega) hb (by simp; omega) (by simp at hm; omega)
      (fun d hd => hE d (by simp [hd]))
    simp only [List.append_assoc, List.singleton_append] at this
    simp only [List.append_assoc, List.singleton_append]
    rw [this]
    simp [sackWs, wSack, pairW]

theorem loop_sack_spec (n : Nat) (hn : 1000 ≤ n) (x1 x2 x3 x4 x5 x6 x7 : Int) (x8 : Bool) (x9 : Int) (x10 : Bool) (da : List Int) :
    ∀ (rest pre : List (Int × Int × Unit)) (o : List Int) (m : Nat) (i : Int), i = pre.length → (pre ++ rest).length ≤ 1000 → o.length + 100 * rest.length ≤ 1000000 → rest.length < m →
    (∀ e ∈ rest, (0 ≤ e.1 ∧ e.1 ≤ 4294967295) ∧ (0 ≤ e.2.1 ∧ e.2.1 ≤ 4294967295)) →
    l_spec_ShowSegment_1 n m o i x1 x2 x3 x4 x5 x6 x7 x8 x9 x10 (pre ++ rest) da =
      some (((), o ++ tailT (sackWs rest), ()), ((x1, x2, x3, x4, x5, x6, x7, x8, x9, x10, pre ++ rest, da, ()), ())) := by
  intro rest
  induction rest with
  | nil =>
    intro pre o m i hi hb ho hm hE
    obtain ⟨m, rfl⟩ : ∃ k, m = k + 1 := ⟨m - 1, by simp at hm; omega⟩
    rw [l_spec_ShowSegment_1, if_neg (by simp; omega)]
    simp [sackWs, tailT]
  | cons e r ih =>
    intro pre o m i hi hb ho hm hE
    obtain ⟨m, rfl⟩ : ∃ k, m = k + 1 := ⟨m - 1, by simp at hm; omega⟩
    have hb' : pre.length + (r.length + 1) ≤ 1000 := by simpa using hb
    have ho' : o.length + 100 * (r.length + 1) ≤ 1000000 := by simpa using ho
    have he := hE e (by simp)
    have l1 := dlen he.1
    have l2 := dlen he.2
    rw [l_spec_ShowSegment_1, if_pos (by simp; omega), gd_pos (by simp [lim]; omega), gd_pos (by simp; omega)]
    simp only [getD_appI pre e r _ hi, dec_eq n hn he.1.1 (by omega), dec_eq n hn he.2.1 (by omega), bind_some']
    rw [gd_pos (by simp [lim]; omega), gd_pos (by simp [lim]; omega), gd_pos (by simp; omega), gd_pos (by simp [lim]; omega), wi64_id (by omega) (by omega)]
    have := ih (pre ++ [e]) (o ++ [32, 115, 97, 99, 107, 32] ++ decI e.1 ++ [45] ++ decI e.2.1) m (i + 1) (by simp; omega) (by simpa using hb) (by simp; omega) (by simp at hm; omega)
      (fun d hd => hE d (by simp [hd]))
    simp only [List.append_assoc, List.singleton_append] at this
    simp only [List.append_assoc, List.singleton_append]
    rw [this]
    simp [sackWs, wSack, pairW, tailT]

theorem flagS_len {f : Int} (h : rg f 0 63 = true) : (flagS f).length ≤ 6 ∧ flagI f = flagS f ∧ (flagS f = [] ↔ f = 0) ∧ ∀ c ∈ flagS f, c = 83 ∨ c = 70 ∨ c = 82 ∨ c = 80 ∨ c = 65 ∨ c = 85 := by
  obtain ⟨g, rfl⟩ := fin64 h
  have := let_fin g
  refine ⟨this.2.2.1, this.1, ?_, this.2.2.2⟩
  rw [this.2.1]; omega

theorem joinI_len : ∀ (xs : List (List Int)) (B : Nat), (∀ w ∈ xs, w.length ≤ B) → (joinI [32] xs).length ≤ xs.length * (B + 1)
  | [], _, _ => by simp [joinI_nil]
  | [x], B, h => by rw [joinI_one]; have := h x (by simp); simp; omega
  | x :: y :: r, B, h => by
    rw [joinI_cons]
    have := h x (by simp)
    have := joinI_len (y :: r) B (fun w hw => h w (by simp [hw]))
    simp only [List.length_cons, List.length_append, List.length_nil, Nat.add_mul] at this ⊢
    omega

theorem sackWs_len : ∀ l : List (Int × Int × Unit), (sackWs l).length = 2 * l.length
  | [] => rfl
  | e :: r => by simp [sackWs, sackWs_len r]; omega
theorem sackWs_bd : ∀ {l : List (Int × Int × Unit)}, (∀ e ∈ l, (0 ≤ e.1 ∧ e.1 ≤ 4294967295) ∧ (0 ≤ e.2.1 ∧ e.2.1 ≤ 4294967295)) → ∀ w ∈ sackWs l, w.length ≤ 9000
  | [], _, w, hw => by simp [sackWs] at hw
  | e :: r, h, w, hw => by
    simp only [sackWs, List.mem_cons] at hw
    have he := h e (by simp)
    have l1 := dlen he.1
    have l2 := dlen he.2
    rcases hw with rfl | rfl | hw
    · decide
    · simp [pairW]; omega
    · exact sackWs_bd (fun d hd => h d (by simp [hd])) w hw

theorem sackWs_bd2 : ∀ {l : List (Int × Int × Unit)}, (∀ e ∈ l, (0 ≤ e.1 ∧ e.1 ≤ 4294967295) ∧ (0 ≤ e.2.1 ∧ e.2.1 ≤ 4294967295)) → (tailT (sackWs l)).length ≤ 27 * l.length
  | [], _ => by simp [sackWs, tailT]
  | e :: r, h => by
    have he := h e (by simp)
    have l1 := dlen he.1
    have l2 := dlen he.2
    have := sackWs_bd2 (l := r) (fun d hd => h d (by simp [hd]))
    simp [sackWs, tailT, pairW, wSack]; omega

theorem words_bd {x : Sg} (h : x.Ok) (hd : x.da.length ≤ 4000) : (words x).length ≤ 20 ∧ ∀ w ∈ words x, w.length ≤ 9000 := by
  have := h.n
  have hs := sackWs_len x.sk
  constructor
  · simp only [words, ws0, wsM, wsK, wsO, dataWs, List.length_append]
    have h1 : (if x.m = 0 then ([] : List (List Int)) else [wMss, decI x.m]).length ≤ 2 := by split <;> simp
    have h2 : (if x.sc = true then [wScale, decI x.k] else ([] : List (List Int))).length ≤ 2 := by split <;> simp
    have h3 : (if x.so = true then [wOk] else ([] : List (List Int))).length ≤ 1 := by split <;> simp
    have h4 : (if x.da = [] then ([] : List (List Int)) else [wData, hexI x.da]).length ≤ 2 := by split <;> simp
    simp only [List.length_cons, List.length_nil]
    omega
  · intro w hw
    simp only [words, ws0, wsM, wsK, wsO, dataWs, List.mem_append] at hw
    have f1 := (flagS_len h.f).1
    rcases hw with hw | hw | hw | hw | hw | hw
    · have a1 := dlen (v := x.p) (by have := h.p; omega)
      have a2 := dlen (v := x.q) (by have := h.q; omega)
      have a3 := dlen h.s
      have a4 := dlen h.a
      have a5 := dlen (v := x.w) (by have := h.w; omega)
      simp only [List.mem_cons, List.not_mem_nil, or_false] at hw
      rcases hw with rfl | rfl | rfl | rfl | rfl
      · simp [pairW]; omega
      · simp only [flagW]; split
        · simp
        · omega
      · omega
      · omega
      · omega
    · split at hw
      · simp at hw
      · have a1 := dlen (v := x.m) (by have := h.m; omega)
        simp only [List.mem_cons, List.not_mem_nil, or_false] at hw
        rcases hw with rfl | rfl
        · decide
        · omega
    · split at hw
      · have a1 := dlen (v := x.k) (by have := h.k; omega)
        simp only [List.mem_cons, List.not_mem_nil, or_false] at hw
        rcases hw with rfl | rfl
        · decide
        · omega
      · simp at hw
    · split at hw
      · simp only [List.mem_cons, List.not_mem_nil, or_false] at hw
        subst hw; decide
      · simp at hw
    · exact sackWs_bd h.sk w hw
    · split at hw
      · simp at hw
      · simp only [List.mem_cons, List.not_mem_nil, or_false] at hw
        rcases hw with rfl | rfl
        · decide
        · rw [hexI_len]; omega

theorem showT_len {x : Sg} (h : x.Ok) (hd : x.da.length ≤ 4000) : (showT x).length ≤ 200000 := by
  have hw := words_bd h hd
  have := joinI_len (words x) 9000 hw.2
  have : (words x).length * (9000 + 1) ≤ 20 * 9001 := Nat.mul_le_mul_right _ hw.1
  simp only [showT]; omega

end Go.Vm
