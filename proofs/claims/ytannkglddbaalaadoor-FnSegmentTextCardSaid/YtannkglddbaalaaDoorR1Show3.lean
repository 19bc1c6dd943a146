/-
  ShowSegment, of both: what it answers.
-/
import Derived.Test.YtannkglddbaalaaDoorR1Show2
set_option linter.unusedSimpArgs false
set_option linter.unusedVariables false
namespace Go.Vm

def showA (x : Sg) : (List Int × Int × Unit) × Unit := cond (x.ok && decide (x.da.length ≤ 4000)) ((showT x, 0, ()), ()) (([], 1, ()), ())

theorem flagW_eq (f : Int) (h : rg f 0 63 = true) : (if (flagI f == ([] : List Int)) = true then [45] else flagI f) = flagW f := by
  have hf := flagS_len h
  rw [hf.2.1, flagW]
  by_cases h0 : f = 0
  · rw [if_pos (by simp [hf.2.2.1.2 h0]), if_pos (by simp [h0])]
  · rw [if_neg (by simp only [beq_iff_eq]; exact fun h => h0 (hf.2.2.1.1 h)), if_neg (by simp [h0])]

theorem flagW_len {f : Int} (h : rg f 0 63 = true) : (flagW f).length ≤ 6 := by
  simp only [flagW]; split
  · simp
  · exact (flagS_len h).1

theorem implShow_eq (n : Nat) (hn : 100000 ≤ n) (x : Sg) :
    g_impl_ShowSegment n x.p x.q x.s x.a x.f x.w x.m x.sc x.k x.so x.sk x.da = some (showA x) := by
  simp only [g_impl_ShowSegment, t_impl_ShowSegment, okSegment_eq n (by omega) x, bind_some', showA]
  rcases bft x.ok with h | h
  · simp [h]
  simp only [h, Bool.not_true, Bool.false_eq_true, if_false, bind_some', Bool.true_and]
  rcases Nat.lt_or_ge 4000 x.da.length with hd | hd
  · have hd' : ((x.da.length : Int) > 4000) := by omega
    have hd2 : ¬ x.da.length ≤ 4000 := by omega
    simp [hd', hd2]
  have hd' : ¬ ((x.da.length : Int) > 4000) := by omega
  simp only [hd, hd', decide_false, decide_true, Bool.false_eq_true, if_false, cond_true]
  have hx := x.ok_iff h
  have e6 : (([1, 0, 2, 3, 4, 5] : List Nat).length : Int) = 6 := rfl
  simp only [e6, letI_eq n (by omega), bind_some']
  have hb : (if (flagI x.f == ([] : List Int)) = true then
        some (((), [45], ()), ((x.p, x.q, x.s, x.a, x.f, x.w, x.m, x.sc, x.k, x.so, x.sk, x.da, ()), ()))
      else some (((), flagI x.f, ()), ((x.p, x.q, x.s, x.a, x.f, x.w, x.m, x.sc, x.k, x.so, x.sk, x.da, ()), ()))) =
      some (((), flagW x.f, ()), ((x.p, x.q, x.s, x.a, x.f, x.w, x.m, x.sc, x.k, x.so, x.sk, x.da, ()), ())) := by
    rw [← flagW_eq x.f hx.f]; split <;> rfl
  rw [hb]
  have a1 := dlen (v := x.p) (by have := hx.p; omega)
  have a2 := dlen (v := x.q) (by have := hx.q; omega)
  have a3 := dlen hx.s
  have a4 := dlen hx.a
  have a5 := dlen (v := x.w) (by have := hx.w; omega)
  have a6 := dlen (v := x.m) (by have := hx.m; omega)
  have a7 := dlen (v := x.k) (by have := hx.k; omega)
  simp (disch := (simp only [List.length_append, List.length_cons, List.length_nil, hexI_len, lim]; omega)) only [bind_some', num_eq n hx.p.1, num_eq n hx.q.1, num_eq n hx.s.1, num_eq n hx.a.1, num_eq n hx.w.1, num_eq n hx.m.1, gd_pos]
  have hl0 := showT_len hx hd
  have hw0 := words_bd hx hd
  have key : ∀ (ws : List (List Int)), words x = ws ++ (sackWs x.sk ++ dataWs x.da) → ((l_impl_ShowSegment_1 n n x.sk (x.sk.length : Int) 0 x.p x.q x.s x.a x.f x.w x.m x.sc x.k x.so x.sk x.da ws).bind fun x_142 =>
    if (decide ((x_142.2.1.2.2.2.2.2.2.2.2.2.2.2.1.length : Int) > 0)) then
      (g_encoding_hex_EncodeToString n x_142.2.1.2.2.2.2.2.2.2.2.2.2.2.1).bind fun y_144 =>
      gd (x_142.2.2.1.length + ([[100, 97, 116, 97], y_144.1] : List (List Int)).length ≤ lim) <|
      (g_strings_Join n (x_142.2.2.1 ++ [[100, 97, 116, 97], y_144.1]) [32]).bind fun y_146 =>
      some ((y_146.1, 0, ()), ())
    else
      (g_strings_Join n x_142.2.2.1 [32]).bind fun y_147 =>
      some ((y_147.1, 0, ()), ()) : Option ((List Int × Int × Unit) × Unit)) = some ((showT x, 0, ()), ()) := by
    intro ws hw
    have hlen : ws.length ≤ 20 := by have := hw0.1; rw [hw] at this; simp at this; omega
    have := loop_sack_impl n x.p x.q x.s x.a x.f x.w x.m x.sc x.k x.so x.sk x.da x.sk [] ws n 0 (x.sk.length : Int) rfl rfl (by have := hx.n; omega) (by have := hx.n; omega) (by have := hx.n; omega) hx.sk
    rw [List.nil_append] at this
    rw [this, bind_some']
    simp only
    have hs := sackWs_len x.sk
    have hn3 := hx.n
    by_cases h0 : x.da = []
    · rw [if_neg (by simp [h0])]
      have e : ws ++ sackWs x.sk = words x := by rw [hw]; simp [dataWs, h0]
      rw [e, g_strings_Join, if_pos (by rw [showT] at hl0; simp only [lim]; omega)]
      rfl
    · have hp : 0 < x.da.length := List.length_pos_iff.2 h0
      have e : (ws ++ sackWs x.sk) ++ [[100, 97, 116, 97], hexI x.da] = words x := by rw [hw]; simp [dataWs, h0, wData]
      rw [if_pos (by simp; omega), g_encoding_hex_EncodeToString, if_pos (by exact ⟨h0, by simp only [lim]; omega⟩), bind_some']
      show gd _ ((g_strings_Join n ((ws ++ sackWs x.sk) ++ [[100, 97, 116, 97], hexI x.da]) [32]).bind _) = _
      rw [gd_pos (by simp [lim]; omega), e, g_strings_Join, if_pos (by rw [showT] at hl0; simp only [lim]; omega)]
      rfl
  have hM : (x.m != 0) = true ∧ wsM x.m = [wMss, decI x.m] ∨ (x.m != 0) = false ∧ wsM x.m = [] := by
    by_cases h0 : x.m = 0
    · exact .inr ⟨by simp [h0], by simp [wsM, h0]⟩
    · exact .inl ⟨by simp [h0], by simp [wsM, h0]⟩
  rcases hM with ⟨m1, m2⟩ | ⟨m1, m2⟩ <;> rcases bft x.sc with c1 | c1 <;> rcases bft x.so with o1 | o1 <;>
    simp (disch := (simp only [List.length_append, List.length_cons, List.length_nil, hexI_len, lim]; omega)) only [m1, c1, o1, if_true, if_false, Bool.false_eq_true, bind_some', gd_pos, num_eq n hx.k.1] <;>
    (have := key (ws0 x ++ (wsM x.m ++ (wsK x.sc x.k ++ wsO x.so))) (by simp only [words, List.append_assoc])
     simp only [ws0, m2, c1, o1, wsK, wsO, pairW, wMss, wScale, wOk, if_true, if_false, Bool.false_eq_true, List.append_assoc, List.cons_append, List.nil_append, List.append_nil] at this ⊢
     exact this)


theorem specShow_eq (n : Nat) (hn : 100000 ≤ n) (x : Sg) (hB : bytesI x.da) :
    g_spec_ShowSegment n x.p x.q x.s x.a x.f x.w x.m x.sc x.k x.so x.sk x.da = some (showA x) := by
  simp only [g_spec_ShowSegment, t_spec_ShowSegment, l11OK_eq n (by omega) x, bind_some', showA]
  rcases bft x.ok with h | h
  · simp [h]
  simp only [h, Bool.not_true, Bool.false_eq_true, if_false, bind_some', Bool.true_and]
  rcases Nat.lt_or_ge 4000 x.da.length with hd | hd
  · have hd' : ((x.da.length : Int) > 4000) := by omega
    have hd2 : ¬ x.da.length ≤ 4000 := by omega
    simp [hd', hd2]
  have hd' : ¬ ((x.da.length : Int) > 4000) := by omega
  simp only [hd, hd', decide_false, decide_true, Bool.false_eq_true, if_false, cond_true]
  have hx := x.ok_iff h
  have hn' : 1000 ≤ n := by omega
  have a1 := dlen (v := x.p) (by have := hx.p; omega)
  have a2 := dlen (v := x.q) (by have := hx.q; omega)
  have a3 := dlen hx.s
  have a4 := dlen hx.a
  have a5 := dlen (v := x.w) (by have := hx.w; omega)
  have a6 := dlen (v := x.m) (by have := hx.m; omega)
  have a7 := dlen (v := x.k) (by have := hx.k; omega)
  have a8 := flagW_len hx.f
  have f1 := (flagS_len hx.f).1
  have b1 := dec_eq n hn' hx.p.1 (by have := hx.p; omega)
  have b2 := dec_eq n hn' hx.q.1 (by have := hx.q; omega)
  have b3 := dec_eq n hn' hx.s.1 (by have := hx.s; omega)
  have b4 := dec_eq n hn' hx.a.1 (by have := hx.a; omega)
  have b5 := dec_eq n hn' hx.w.1 (by have := hx.w; omega)
  have b6 := dec_eq n hn' hx.m.1 (by have := hx.m; omega)
  have b7 := dec_eq n hn' hx.k.1 (by have := hx.k; omega)
  simp (disch := (simp only [List.length_append, List.length_cons, List.length_nil, hexI_len, lim]; omega)) only [bind_some', b1, b2, gd_pos]
  have hF : ∀ t : List Int, t.length ≤ 100 → ((if (x.f == 0) = true then
        some (((), t ++ [45], ()), ((x.p, x.q, x.s, x.a, x.f, x.w, x.m, x.sc, x.k, x.so, x.sk, x.da, ()), ()))
      else some (((), t, ()), ((x.p, x.q, x.s, x.a, x.f, x.w, x.m, x.sc, x.k, x.so, x.sk, x.da, ()), ())))
      : Option ((Unit × (List Int) × Unit) × ((Int × Int × Int × Int × Int × Int × Int × Bool × Int × Bool × (List (Int × Int × Unit)) × (List Int) × Unit) × Unit))).bind (fun x_26 =>
      l_spec_ShowSegment_0 n n x_26.1.2.1 0 x_26.2.1.1 x_26.2.1.2.1 x_26.2.1.2.2.1 x_26.2.1.2.2.2.1 x_26.2.1.2.2.2.2.1 x_26.2.1.2.2.2.2.2.1 x_26.2.1.2.2.2.2.2.2.1 x_26.2.1.2.2.2.2.2.2.2.1 x_26.2.1.2.2.2.2.2.2.2.2.1 x_26.2.1.2.2.2.2.2.2.2.2.2.1 x_26.2.1.2.2.2.2.2.2.2.2.2.2.1 x_26.2.1.2.2.2.2.2.2.2.2.2.2.2.1) =
      some (((), t ++ flagW x.f, ()), ((x.p, x.q, x.s, x.a, x.f, x.w, x.m, x.sc, x.k, x.so, x.sk, x.da, ()), ())) := by
    intro t ht
    by_cases h0 : x.f = 0
    · have e : flagS x.f = [] := (flagS_len hx.f).2.2.1.2 h0
      rw [if_pos (by simp [h0]), bind_some', letS_eq n hn' _ (by simp; omega)]
      simp [flagW, h0, ← e]
    · rw [if_neg (by simp [h0]), bind_some', letS_eq n hn' _ (by show t.length ≤ 1000; omega)]
      simp [flagW, h0]
  rw [← Option.bind_assoc, hF _ (by (simp only [List.length_append, List.length_cons, List.length_nil, hexI_len, lim]; omega))]
  simp (disch := (simp only [List.length_append, List.length_cons, List.length_nil, hexI_len, lim]; omega)) only [bind_some', b3, b4, b5, b6, gd_pos]
  have hn3 := hx.n
  have hs := sackWs_len x.sk
  have htl : (tailT (sackWs x.sk)).length ≤ 100 := by
    have := sackWs_bd2 hx.sk
    omega
  have key : ∀ (o : List Int), o.length ≤ 1000 → showT x = o ++ tailT (sackWs x.sk ++ dataWs x.da) → ((l_spec_ShowSegment_1 n n o 0 x.p x.q x.s x.a x.f x.w x.m x.sc x.k x.so x.sk x.da).bind fun x_147 =>
    if (decide ((x_147.2.1.2.2.2.2.2.2.2.2.2.2.2.1.length : Int) > 0)) then
      gd (x_147.1.2.1.length + ([32, 100, 97, 116, 97, 32] : List Int).length ≤ lim) <|
      let t_149 := x_147.1.2.1 ++ ([32, 100, 97, 116, 97, 32] : List Int)
      (g_spec_l11HexText n x_147.2.1.2.2.2.2.2.2.2.2.2.2.2.1).bind fun y_150 =>
      gd (t_149.length + y_150.1.length ≤ lim) <|
      some (((t_149 ++ y_150.1), 0, ()), ())
    else
      some ((x_147.1.2.1, 0, ()), ()) : Option ((List Int × Int × Unit) × Unit)) = some ((showT x, 0, ()), ()) := by
    intro o ho hw
    have := loop_sack_spec n hn' x.p x.q x.s x.a x.f x.w x.m x.sc x.k x.so x.da x.sk [] o n 0 rfl (by simp; omega) (by omega) (by omega) hx.sk
    rw [List.nil_append] at this
    rw [this, bind_some']
    simp only
    by_cases h0 : x.da = []
    · rw [if_neg (by simp [h0]), hw]; simp [dataWs, h0]
    · have hp : 0 < x.da.length := List.length_pos_iff.2 h0
      rw [if_pos (by simp; omega), hexText_eq n (by omega) (by omega) hB]
      simp (disch := (simp only [List.length_append, List.length_cons, List.length_nil, hexI_len, lim]; omega)) only [bind_some', gd_pos]
      rw [hw]; simp [dataWs, h0, tailT_app, tailT, wData]
  have hT : showT x = pairW 62 x.p x.q ++ tailT ([flagW x.f, decI x.s, decI x.a, decI x.w] ++ (wsM x.m ++ (wsK x.sc x.k ++ wsO x.so))) ++ tailT (sackWs x.sk ++ dataWs x.da) := by
    simp only [showT, words, ws0, List.cons_append, List.nil_append, joinI_tail, tailT_app, tailT, List.append_assoc]
  have hM : (x.m != 0) = true ∧ wsM x.m = [wMss, decI x.m] ∨ (x.m != 0) = false ∧ wsM x.m = [] := by
    by_cases h0 : x.m = 0
    · exact .inr ⟨by simp [h0], by simp [wsM, h0]⟩
    · exact .inl ⟨by simp [h0], by simp [wsM, h0]⟩
  rcases hM with ⟨m1, m2⟩ | ⟨m1, m2⟩ <;> rcases bft x.sc with c1 | c1 <;> rcases bft x.so with o1 | o1 <;>
    simp (disch := (simp only [List.length_append, List.length_cons, List.length_nil, hexI_len, lim]; omega)) only [m1, c1, o1, if_true, if_false, Bool.false_eq_true, bind_some', gd_pos, b7] <;>
    (simp only [c1, o1] at key
     refine key _ ?_ ?_
     · (simp only [List.length_append, List.length_cons, List.length_nil, hexI_len, lim]; omega)
     · rw [hT]; simp only [m2, c1, o1, wsK, wsO, pairW, wMss, wScale, wOk, tailT, if_true, if_false, Bool.false_eq_true, List.append_assoc, List.cons_append, List.nil_append, List.append_nil])

end Go.Vm
