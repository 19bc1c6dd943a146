/-
  spec.ReadSegment gives back what ShowSegment says; both readers agree.
-/
import Derived.Test.YtannkglddbaalaaDoorR1ReadS3
set_option linter.unusedSimpArgs false
set_option linter.unusedVariables false
namespace Go.Vm

abbrev LS (n m : Nat) (text : List Int) (i : Int) (w : List (List Int)) (a1 a2 a3 a4 a5 a6 a7 : Int) (a8 : Bool) (a9 : Int) (a10 : Bool) (sk : List (Int × Int × Unit)) (da : List Int) :=
  l_spec_ReadSegment_0 n m text i 0 0 0 0 0 0 0 false 0 false w a1 a2 a3 a4 a5 a6 a7 a8 a9 a10 sk da

def low (x : List Int) : Prop := ∀ c ∈ x, c ≤ 102
theorem low_ne {x : List Int} (h : low x) : x ≠ wMss ∧ x ≠ wScale ∧ x ≠ wOk ∧ x ≠ wSack ∧ x ≠ wData := by
  refine ⟨?_, ?_, ?_, ?_, ?_⟩ <;> rintro rfl
  · have := h 109 (by decide); omega
  · have := h 115 (by decide); omega
  · have := h 115 (by decide); omega
  · have := h 115 (by decide); omega
  · have := h 116 (by decide); omega
theorem low_dec {v : Int} (h : 0 ≤ v) : low (decI v) := fun c hc => by have := decI_dig h c hc; unfold isDig at this; omega
theorem low_pair {a b : Int} (ha : 0 ≤ a) (hb : 0 ≤ b) : low (pairW 45 a b) := fun c hc => by
  rcases pairW_mem ha hb hc with h | h
  · unfold isDig at h; omega
  · omega
theorem low_hex {b : List Int} (h : bytesI b) : low (hexI b) := fun c hc => by have := hexI_chars h c hc; omega

theorem skip_low (n m : Nat) (text : List Int) (pre : List (List Int)) (x : List Int) (r : List (List Int)) (i : Int) (a1 a2 a3 a4 a5 a6 a7 : Int) (a8 : Bool) (a9 : Int) (a10 : Bool) (sk : List (Int × Int × Unit)) (da : List Int)
    (hi : i = pre.length) (hb : (pre ++ x :: r).length ≤ 1000) (h : low x) :
    LS n (m + 1) text i (pre ++ x :: r) a1 a2 a3 a4 a5 a6 a7 a8 a9 a10 sk da = LS n m text (i + 1) (pre ++ x :: r) a1 a2 a3 a4 a5 a6 a7 a8 a9 a10 sk da := by
  have := low_ne h
  exact opt_skip n m text pre x r i _ _ _ _ _ _ _ _ _ _ _ _ _ _ _ _ _ _ _ _ _ _ hi hb this.1 this.2.1 this.2.2.1 this.2.2.2.1 this.2.2.2.2

theorem skip_low2 (n m : Nat) (text : List Int) (pre : List (List Int)) (y x : List Int) (r : List (List Int)) (i : Int) (a1 a2 a3 a4 a5 a6 a7 : Int) (a8 : Bool) (a9 : Int) (a10 : Bool) (sk : List (Int × Int × Unit)) (da : List Int)
    (hi : i = pre.length) (hb : (pre ++ y :: x :: r).length ≤ 1000) (h : low x) :
    LS n (m + 1) text (i + 1) (pre ++ y :: x :: r) a1 a2 a3 a4 a5 a6 a7 a8 a9 a10 sk da = LS n m text (i + 2) (pre ++ y :: x :: r) a1 a2 a3 a4 a5 a6 a7 a8 a9 a10 sk da := by
  have := skip_low n m text (pre ++ [y]) x r (i + 1) a1 a2 a3 a4 a5 a6 a7 a8 a9 a10 sk da (by simp; omega) (by simpa using hb) h
  simp only [List.append_assoc, List.singleton_append] at this
  rw [this, Int.add_assoc]; rfl

theorem st_M (n : Nat) (hn : 10000000 ≤ n) (text : List Int) (m : Nat) (pre T : List (List Int)) (i : Int) (v : Int) (a1 a2 a3 a4 a5 a6 : Int) (a8 : Bool) (a9 : Int) (a10 : Bool) (sk : List (Int × Int × Unit)) (da : List Int)
    (hv : 0 ≤ v ∧ v ≤ 65535) (hi : i = pre.length) (hb : (pre ++ (wsM v ++ T)).length ≤ 1000) (hm : 100 ≤ m) :
    ∃ m', m ≤ m' + 2 ∧ LS n m text i (pre ++ (wsM v ++ T)) a1 a2 a3 a4 a5 a6 0 a8 a9 a10 sk da = LS n m' text ((pre ++ wsM v).length : Nat) ((pre ++ wsM v) ++ T) a1 a2 a3 a4 a5 a6 v a8 a9 a10 sk da := by
  by_cases h0 : v = 0
  · refine ⟨m, by omega, ?_⟩
    rw [wsM, if_pos h0, h0, hi]; simp
  · obtain ⟨m, rfl⟩ : ∃ k, m = k + 2 := ⟨m - 2, by omega⟩
    refine ⟨m, by omega, ?_⟩
    rw [wsM, if_neg h0] at hb ⊢
    simp only [List.cons_append, List.nil_append] at hb
    have e1 := opt_mss n (m + 1) text pre (decI v) T i 0 0 0 0 0 0 0 false 0 false a1 a2 a3 a4 a5 a6 0 a8 a9 a10 sk da hi hb
    have hl : (decI v).length ≤ 5 := decI_len 4 hv.1 (by omega)
    rw [l02Number_eq n (by omega) (by omega) (by omega), bind_some'] at e1
    have e2 := skip_low2 n m text pre wMss (decI v) T i a1 a2 a3 a4 a5 a6 v a8 a9 a10 sk da hi hb (low_dec hv.1)
    have ei : (((pre ++ [wMss, decI v]).length : Nat) : Int) = i + 2 := by simp; omega
    simp only [List.cons_append, List.nil_append, List.append_assoc, ei]
    exact e1.trans e2

theorem st_K (n : Nat) (hn : 10000000 ≤ n) (text : List Int) (m : Nat) (pre T : List (List Int)) (i : Int) (sc : Bool) (v : Int) (a1 a2 a3 a4 a5 a6 a7 : Int) (a10 : Bool) (sk : List (Int × Int × Unit)) (da : List Int)
    (hv : 0 ≤ v ∧ v ≤ 14) (hs : sc = true ∨ v = 0) (hi : i = pre.length) (hb : (pre ++ (wsK sc v ++ T)).length ≤ 1000) (hm : 90 ≤ m) :
    ∃ m', m ≤ m' + 2 ∧ LS n m text i (pre ++ (wsK sc v ++ T)) a1 a2 a3 a4 a5 a6 a7 false 0 a10 sk da = LS n m' text ((pre ++ wsK sc v).length : Nat) ((pre ++ wsK sc v) ++ T) a1 a2 a3 a4 a5 a6 a7 sc v a10 sk da := by
  cases sc
  · refine ⟨m, by omega, ?_⟩
    have h0 : v = 0 := by simpa using hs
    rw [wsK, h0, hi]; simp
  · obtain ⟨m, rfl⟩ : ∃ k, m = k + 2 := ⟨m - 2, by omega⟩
    refine ⟨m, by omega, ?_⟩
    rw [wsK, if_pos rfl] at hb ⊢
    simp only [List.cons_append, List.nil_append] at hb
    have e1 := opt_scale n (m + 1) text pre (decI v) T i 0 0 0 0 0 0 0 false 0 false a1 a2 a3 a4 a5 a6 a7 false 0 a10 sk da hi hb
    have hl : (decI v).length ≤ 2 := decI_len 1 hv.1 (by omega)
    rw [l02Number_eq n (by omega) (by omega) (by omega), bind_some'] at e1
    have e2 := skip_low2 n m text pre wScale (decI v) T i a1 a2 a3 a4 a5 a6 a7 true v a10 sk da hi hb (low_dec hv.1)
    have ei : (((pre ++ [wScale, decI v]).length : Nat) : Int) = i + 2 := by simp; omega
    simp only [List.cons_append, List.nil_append, List.append_assoc, ei]
    exact e1.trans e2

theorem st_O (n : Nat) (text : List Int) (m : Nat) (pre T : List (List Int)) (i : Int) (so : Bool) (a1 a2 a3 a4 a5 a6 a7 : Int) (a8 : Bool) (a9 : Int) (sk : List (Int × Int × Unit)) (da : List Int)
    (hi : i = pre.length) (hb : (pre ++ (wsO so ++ T)).length ≤ 1000) (hm : 80 ≤ m) :
    ∃ m', m ≤ m' + 2 ∧ LS n m text i (pre ++ (wsO so ++ T)) a1 a2 a3 a4 a5 a6 a7 a8 a9 false sk da = LS n m' text ((pre ++ wsO so).length : Nat) ((pre ++ wsO so) ++ T) a1 a2 a3 a4 a5 a6 a7 a8 a9 so sk da := by
  cases so
  · refine ⟨m, by omega, ?_⟩
    rw [wsO, hi]; simp
  · obtain ⟨m, rfl⟩ : ∃ k, m = k + 1 := ⟨m - 1, by omega⟩
    refine ⟨m, by omega, ?_⟩
    rw [wsO, if_pos rfl] at hb ⊢
    simp only [List.cons_append, List.nil_append] at hb
    have e1 := opt_ok n m text pre T i 0 0 0 0 0 0 0 false 0 false a1 a2 a3 a4 a5 a6 a7 a8 a9 false sk da hi hb
    have ei : (((pre ++ [wOk]).length : Nat) : Int) = i + 1 := by simp; omega
    simp only [List.cons_append, List.nil_append, List.append_assoc, ei]
    exact e1

theorem st_S (n : Nat) (hn : 10000000 ≤ n) (text : List Int) (T : List (List Int)) (a1 a2 a3 a4 a5 a6 a7 : Int) (a8 : Bool) (a9 : Int) (a10 : Bool) (da : List Int) :
    ∀ (l : List (Int × Int × Unit)) (m : Nat) (pre : List (List Int)) (i : Int) (sk : List (Int × Int × Unit)),
    (∀ e ∈ l, (0 ≤ e.1 ∧ e.1 ≤ 4294967295) ∧ (0 ≤ e.2.1 ∧ e.2.1 ≤ 4294967295)) → sk.length + l.length ≤ 1000 → i = pre.length → (pre ++ (sackWs l ++ T)).length ≤ 1000 → 10 + 2 * l.length ≤ m →
    ∃ m', m ≤ m' + 2 * l.length ∧ LS n m text i (pre ++ (sackWs l ++ T)) a1 a2 a3 a4 a5 a6 a7 a8 a9 a10 sk da = LS n m' text ((pre ++ sackWs l).length : Nat) ((pre ++ sackWs l) ++ T) a1 a2 a3 a4 a5 a6 a7 a8 a9 a10 (sk ++ l) da
  | [], m, pre, i, sk, hE, hk, hi, hb, hm => by
    refine ⟨m, by simp, ?_⟩
    rw [sackWs, hi]; simp
  | e :: t, m, pre, i, sk, hE, hk, hi, hb, hm => by
    simp only [List.length_cons] at hk hm
    obtain ⟨m, rfl⟩ : ∃ k, m = k + 2 := ⟨m - 2, by omega⟩
    have he := hE e (by simp)
    have hl1 := dlen he.1
    have hl2 := dlen he.2
    simp only [sackWs, List.cons_append] at hb
    have e1 := opt_sack n (m + 1) text pre (pairW 45 e.1 e.2.1) (sackWs t ++ T) i 0 0 0 0 0 0 0 false 0 false a1 a2 a3 a4 a5 a6 a7 a8 a9 a10 sk da hi hb (by omega)
    rw [l11Pair_eq n hn (by omega) he.1 he.2 (by omega) (by omega), bind_some'] at e1
    have e2 := skip_low2 n m text pre wSack (pairW 45 e.1 e.2.1) (sackWs t ++ T) i a1 a2 a3 a4 a5 a6 a7 a8 a9 a10 (sk ++ [e]) da hi hb (low_pair he.1.1 he.2.1)
    obtain ⟨m', h1, h2⟩ := st_S n hn text T a1 a2 a3 a4 a5 a6 a7 a8 a9 a10 da t m (pre ++ [wSack, pairW 45 e.1 e.2.1]) (i + 2) (sk ++ [e]) (fun d hd => hE d (by simp [hd])) (by simp; omega) (by simp; omega)
      (by simpa using hb) (by omega)
    refine ⟨m', by simp only [List.length_cons]; omega, ?_⟩
    simp only [sackWs, List.append_assoc, List.cons_append, List.nil_append, List.singleton_append] at h2 ⊢
    exact (e1.trans e2).trans h2

theorem st_D (n : Nat) (hn : 10000000 ≤ n) (text : List Int) (m : Nat) (pre : List (List Int)) (i : Int) (da : List Int) (a1 a2 a3 a4 a5 a6 a7 : Int) (a8 : Bool) (a9 : Int) (a10 : Bool) (sk : List (Int × Int × Unit))
    (hB : bytesI da) (hd : da.length ≤ 4000) (hi : i = pre.length) (hb : (pre ++ dataWs da).length ≤ 1000) (hm : 10 ≤ m) :
    LS n m text i (pre ++ dataWs da) a1 a2 a3 a4 a5 a6 a7 a8 a9 a10 sk [] =
      some ((text, (), (), ()), ((0, 0, 0, 0, 0, 0, 0, false, 0, false, (), (), ()), (a1, a2, a3, a4, a5, a6, a7, a8, a9, a10, (), (), ()), sk, da, ())) := by
  by_cases h0 : da = []
  · obtain ⟨m, rfl⟩ : ∃ k, m = k + 1 := ⟨m - 1, by omega⟩
    rw [dataWs, if_pos h0, List.append_nil, h0]
    exact opt_end n m text pre i _ _ _ _ _ _ _ _ _ _ _ _ _ _ _ _ _ _ _ _ _ _ (by omega)
  · obtain ⟨m, rfl⟩ : ∃ k, m = k + 3 := ⟨m - 3, by omega⟩
    rw [dataWs, if_neg h0] at hb ⊢
    have e1 := opt_data n (m + 2) text pre (hexI da) [] i 0 0 0 0 0 0 0 false 0 false a1 a2 a3 a4 a5 a6 a7 a8 a9 a10 sk [] hi hb
    rw [l11Unhex_eq n hn hB (by omega), bind_some'] at e1
    have e2 := skip_low2 n (m + 1) text pre wData (hexI da) [] i a1 a2 a3 a4 a5 a6 a7 a8 a9 a10 sk da hi hb (low_hex hB)
    have e3 := opt_end n m text (pre ++ [wData, hexI da]) (i + 2) 0 0 0 0 0 0 0 false 0 false a1 a2 a3 a4 a5 a6 a7 a8 a9 a10 sk da (by simp; omega)
    exact (e1.trans e2).trans e3

/-- how long a text is -/
theorem showT_len9 {x : Sg} (h : x.Ok) (hd : x.da.length ≤ 4000) : (showT x).length ≤ 9000 := by
  have a1 := dlen (v := x.p) (by have := h.p; omega)
  have a2 := dlen (v := x.q) (by have := h.q; omega)
  have a3 := dlen h.s
  have a4 := dlen h.a
  have a5 := dlen (v := x.w) (by have := h.w; omega)
  have a6 := dlen (v := x.m) (by have := h.m; omega)
  have a7 := dlen (v := x.k) (by have := h.k; omega)
  have a8 := flagW_len h.f
  have hn3 := h.n
  have hs := sackWs_bd2 h.sk
  have b1 : (tailT (wsM x.m)).length ≤ 100 := by
    rw [wsM]; split
    · simp [tailT]
    · simp [tailT, wMss]; omega
  have b2 : (tailT (wsK x.sc x.k)).length ≤ 100 := by
    rw [wsK]; split
    · simp [tailT, wScale]; omega
    · simp [tailT]
  have b3 : (tailT (wsO x.so)).length ≤ 100 := by
    rw [wsO]; split <;> simp [tailT, wOk]
  have b4 : (tailT (dataWs x.da)).length ≤ 8100 := by
    rw [dataWs]; split
    · simp [tailT]
    · simp [tailT, wData, hexI_len]; omega
  simp only [showT, words, ws0, List.cons_append, List.nil_append, joinI_tail, tailT_app, tailT, List.length_append, List.length_cons, pairW]
  omega

theorem specRead_eq (n : Nat) (hn : 10000000 ≤ n) {x : Sg} (hok : x.ok = true) (hd : x.da.length ≤ 4000) (hB : bytesI x.da) : g_spec_ReadSegment n (showT x) = some (outO x) := by
  have hn' : 1000 ≤ n := by omega
  have h := x.ok_iff hok
  have hl := showT_len9 h hd
  have hsh := specShow_eq n (by omega) x hB
  have hw := words_bd h hd
  rw [showA, hok, decide_eq_true hd, Bool.and_self, cond_true] at hsh
  simp only [g_spec_ReadSegment, t_spec_ReadSegment]
  rw [if_neg (by simp; omega), l02Cut_eq n hn _ (by omega), bind_some', split_showT h hB]
  have ew : words x = pairW 62 x.p x.q :: flagW x.f :: decI x.s :: decI x.a :: decI x.w :: (wsM x.m ++ (wsK x.sc x.k ++ (wsO x.so ++ (sackWs x.sk ++ dataWs x.da)))) := rfl
  have ew2 : words x = ws0 x ++ (wsM x.m ++ (wsK x.sc x.k ++ (wsO x.so ++ (sackWs x.sk ++ dataWs x.da)))) := rfl
  have h5 : 5 ≤ (words x).length := by rw [ew]; simp
  have g0 : (words x).getD (Int.toNat 0) [] = pairW 62 x.p x.q := rfl
  have g1 : (words x).getD (Int.toNat 1) [] = flagW x.f := rfl
  have g2 : (words x).getD (Int.toNat 2) [] = decI x.s := rfl
  have g3 : (words x).getD (Int.toNat 3) [] = decI x.a := rfl
  have g4 : (words x).getD (Int.toNat 4) [] = decI x.w := rfl
  have p5 : (decI x.p).length ≤ 5 := decI_len 4 h.p.1 (by have := h.p; omega)
  have q5 : (decI x.q).length ≤ 5 := decI_len 4 h.q.1 (by have := h.q; omega)
  have w5 : (decI x.w).length ≤ 5 := decI_len 4 h.w.1 (by have := h.w; omega)
  have s10 := dlen h.s
  have a10 := dlen h.a
  simp only
  rw [if_neg (by simp; omega), gd_pos (by omega), g0, l11Pair_eq n hn (by omega) (by have := h.p; omega) (by have := h.q; omega) (by omega) (by omega), bind_some',
    gd_pos (by omega), g2, l02Number_eq n hn' h.s (by omega), bind_some', gd_pos (by omega), g3, l02Number_eq n hn' h.a (by omega), bind_some',
    gd_pos (by omega), g4, l02Number_eq n hn' (by have := h.w; omega) (by omega), bind_some', gd_pos (by omega), g1, l11Flags_eq n hn _ (by have := flagW_len h.f; omega), flagsF_flag h.f, bind_some']
  have hw20 := hw.1
  have hn3 := h.n
  obtain ⟨m1, c1, d1⟩ := st_M n hn (showT x) n (ws0 x) (wsK x.sc x.k ++ (wsO x.so ++ (sackWs x.sk ++ dataWs x.da))) 5 x.m x.p x.q x.s x.a x.f x.w false 0 false [] [] h.m rfl (by rw [← ew2]; omega) (by omega)
  have ew3 : words x = (ws0 x ++ wsM x.m) ++ (wsK x.sc x.k ++ (wsO x.so ++ (sackWs x.sk ++ dataWs x.da))) := by rw [ew2, List.append_assoc]
  obtain ⟨m2, c2, d2⟩ := st_K n hn (showT x) m1 (ws0 x ++ wsM x.m) (wsO x.so ++ (sackWs x.sk ++ dataWs x.da)) _ x.sc x.k x.p x.q x.s x.a x.f x.w x.m false [] [] h.k h.sc rfl (by rw [← ew3]; omega) (by omega)
  have ew4 : words x = ((ws0 x ++ wsM x.m) ++ wsK x.sc x.k) ++ (wsO x.so ++ (sackWs x.sk ++ dataWs x.da)) := by rw [ew3, List.append_assoc (ws0 x ++ wsM x.m)]
  obtain ⟨m3, c3, d3⟩ := st_O n (showT x) m2 ((ws0 x ++ wsM x.m) ++ wsK x.sc x.k) (sackWs x.sk ++ dataWs x.da) _ x.so x.p x.q x.s x.a x.f x.w x.m x.sc x.k [] [] rfl (by rw [← ew4]; omega) (by omega)
  have ew5 : words x = (((ws0 x ++ wsM x.m) ++ wsK x.sc x.k) ++ wsO x.so) ++ (sackWs x.sk ++ dataWs x.da) := by rw [ew4, List.append_assoc ((ws0 x ++ wsM x.m) ++ wsK x.sc x.k)]
  obtain ⟨m4, c4, d4⟩ := st_S n hn (showT x) (dataWs x.da) x.p x.q x.s x.a x.f x.w x.m x.sc x.k x.so [] x.sk m3 (((ws0 x ++ wsM x.m) ++ wsK x.sc x.k) ++ wsO x.so) _ [] h.sk (by simp; omega) rfl (by rw [← ew5]; omega) (by omega)
  have ew6 : words x = ((((ws0 x ++ wsM x.m) ++ wsK x.sc x.k) ++ wsO x.so) ++ sackWs x.sk) ++ dataWs x.da := by rw [ew5, List.append_assoc (((ws0 x ++ wsM x.m) ++ wsK x.sc x.k) ++ wsO x.so)]
  have d5 := st_D n hn (showT x) m4 ((((ws0 x ++ wsM x.m) ++ wsK x.sc x.k) ++ wsO x.so) ++ sackWs x.sk) _ x.da x.p x.q x.s x.a x.f x.w x.m x.sc x.k x.so x.sk hB hd rfl (by rw [← ew6]; omega) (by omega)
  have dd := d1.trans (d2.trans (d3.trans (d4.trans d5)))
  have dd' : l_spec_ReadSegment_0 n n (showT x) 5 0 0 0 0 0 0 0 false 0 false (words x) x.p x.q x.s x.a x.f x.w 0 false 0 false [] [] = _ := dd
  simp only
  rw [dd', bind_some']
  simp only
  rw [hsh, bind_some']
  simp only [bne_self_eq_false, Bool.false_eq_true, if_false, bind_some']
  rfl

/-- both readers answer alike; and what is answered is read off a text that ShowSegment says -/
theorem reads (n : Nat) (hn : 10000000 ≤ n) {text : List Int} (ht : text.length ≤ 2000000) :
    ∃ o, g_impl_ReadSegment n text = some o ∧ g_spec_ReadSegment n text = some o ∧ (o = errO ∨ ∃ x : Sg, x.ok = true ∧ x.da.length ≤ 4000 ∧ bytesI x.da ∧ showT x = text ∧ o = outO x) := by
  obtain ⟨o, ho, hi⟩ := implRead_ret n hn ht
  obtain ⟨o', ho', hs⟩ := specRead_ret n hn text
  rcases hi with rfl | ⟨x, h1, h2, h3, h4, h5⟩
  · rcases hs with rfl | ⟨x, h1, h2, h3, h4, h5⟩
    · exact ⟨_, ho, ho', .inl rfl⟩
    · exfalso
      have := implRead_eq n hn h1 h2 h3
      rw [h4, ho] at this
      have := congrArg (fun o : Option OutT => o.map fun y => y.1.2.1) this
      simp [errO, outO] at this
  · refine ⟨o, ho, ?_, .inr ⟨x, h1, h2, h3, h4, h5⟩⟩
    rw [← h4, specRead_eq n hn h1 h2 h3, h5]

end Go.Vm
