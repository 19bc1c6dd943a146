/-
  impl.ReadSegment gives back what ShowSegment says.
-/
import Derived.Test.YtannkglddbaalaaDoorR1ReadI2
set_option linter.unusedSimpArgs false
set_option linter.unusedVariables false
namespace Go.Vm

def Hd (S : List (List Int)) (w : List (List Int)) : Prop := w = [] ∨ ∃ x r, w = x :: r ∧ x ∈ S
theorem isF_miss {S : List (List Int)} {w : List (List Int)} {word : List Int} (h : Hd S w) (hn : word ∉ S) (b : Bool) : isF word w b = (false, ((w, b, ()), ())) := by
  rcases h with rfl | ⟨x, r, rfl, hx⟩
  · rfl
  · have : (x == word) = false := by
      have : x ≠ word := fun e => hn (e ▸ hx)
      simpa using this
    simp [isF, this]
theorem isF_hit (word : List Int) (r : List (List Int)) (b : Bool) : isF word (word :: r) b = (true, ((r, b, ()), ())) := by simp [isF]
theorem Hd.head {S : List (List Int)} {w : List (List Int)} {word : List Int} (h : Hd S w) (hn : word ∉ S) : w.head? ≠ some word := by
  rcases h with rfl | ⟨x, r, rfl, hx⟩
  · simp
  · simp only [List.head?_cons, ne_eq, Option.some.injEq]; exact fun e => hn (e ▸ hx)
theorem hd_data (da : List Int) : Hd [wData] (dataWs da) := by
  unfold dataWs; split
  · exact .inl rfl
  · exact .inr ⟨_, _, rfl, by simp⟩
theorem hd_sack (sk : List (Int × Int × Unit)) (da : List Int) : Hd [wSack, wData] (sackWs sk ++ dataWs da) := by
  cases sk with
  | nil =>
    rcases hd_data da with h | ⟨x, r, h, hx⟩
    · exact .inl (by simp [sackWs, h])
    · exact .inr ⟨x, r, by simp [sackWs, h], by simp at hx; simp [hx]⟩
  | cons e t => exact .inr ⟨_, _, rfl, by simp⟩
theorem hd_ok (so : Bool) (sk : List (Int × Int × Unit)) (da : List Int) : Hd [wOk, wSack, wData] (wsO so ++ (sackWs sk ++ dataWs da)) := by
  cases so
  · rcases hd_sack sk da with h | ⟨x, r, h, hx⟩
    · exact .inl (by simp only [wsO, Bool.false_eq_true, if_false, List.nil_append, h])
    · refine .inr ⟨x, r, by simp only [wsO, Bool.false_eq_true, if_false, List.nil_append, h], List.mem_cons_of_mem _ hx⟩
  · exact .inr ⟨_, _, rfl, by simp⟩
theorem hd_scale (sc : Bool) (k : Int) (so : Bool) (sk : List (Int × Int × Unit)) (da : List Int) : Hd [wScale, wOk, wSack, wData] (wsK sc k ++ (wsO so ++ (sackWs sk ++ dataWs da))) := by
  cases sc
  · rcases hd_ok so sk da with h | ⟨x, r, h, hx⟩
    · exact .inl (by simp only [wsK, Bool.false_eq_true, if_false, List.nil_append, h])
    · refine .inr ⟨x, r, by simp only [wsK, Bool.false_eq_true, if_false, List.nil_append, h], List.mem_cons_of_mem _ hx⟩
  · exact .inr ⟨_, _, rfl, by simp⟩

theorem hexI_chars : ∀ {b : List Int}, bytesI b → ∀ c ∈ hexI b, (48 ≤ c ∧ c ≤ 57) ∨ (97 ≤ c ∧ c ≤ 102)
  | [], _, c, hc => by simp [hexI_nil] at hc
  | a :: r, h, c, hc => by
    rw [hexI_cons] at hc
    rcases List.mem_append.1 hc with hc | hc
    · have hf : ∀ c : Fin 256, ∀ d ∈ hexI [(c.val : Int)], (48 ≤ d ∧ d ≤ 57) ∨ (97 ≤ d ∧ d ≤ 102) := by decide +kernel
      have ha := h a (by simp)
      unfold isByte at ha
      have := hf ⟨a.toNat, by omega⟩ c
      have e : (((⟨a.toNat, by omega⟩ : Fin 256).val : Nat) : Int) = a := by simp; omega
      rw [e] at this
      exact this hc
    · exact hexI_chars (fun d hd => h d (by simp [hd])) c hc

theorem pairW_mem {c a b d : Int} (ha : 0 ≤ a) (hb : 0 ≤ b) (h : d ∈ pairW c a b) : isDig d ∨ d = c := by
  simp only [pairW, List.mem_append, List.mem_cons] at h
  rcases h with h | h | h
  · exact .inl (decI_dig ha d h)
  · exact .inr h
  · exact .inl (decI_dig hb d h)
theorem pairW_32 {c a b : Int} (hc : c ≠ 32) (ha : 0 ≤ a) (hb : 0 ≤ b) : (32 : Int) ∉ pairW c a b := fun h => by
  rcases pairW_mem ha hb h with h | h
  · unfold isDig at h; omega
  · exact hc h.symm
theorem flagW_32 {f : Int} (h : rg f 0 63 = true) : (32 : Int) ∉ flagW f := by
  intro hm
  simp only [flagW] at hm
  split at hm
  · simp at hm
  · have := (flagS_len h).2.2.2 32 hm; omega
theorem sackWs_32 : ∀ {l : List (Int × Int × Unit)}, (∀ e ∈ l, (0 ≤ e.1 ∧ e.1 ≤ 4294967295) ∧ (0 ≤ e.2.1 ∧ e.2.1 ≤ 4294967295)) → ∀ w ∈ sackWs l, (32 : Int) ∉ w
  | [], _, w, hw => by simp [sackWs] at hw
  | e :: r, h, w, hw => by
    simp only [sackWs, List.mem_cons] at hw
    have he := h e (by simp)
    rcases hw with rfl | rfl | hw
    · decide
    · exact pairW_32 (by omega) he.1.1 he.2.1
    · exact sackWs_32 (fun d hd => h d (by simp [hd])) w hw

theorem words_32 {x : Sg} (h : x.Ok) (hB : bytesI x.da) : ∀ w ∈ words x, (32 : Int) ∉ w := by
  intro w hw
  simp only [words, ws0, wsM, wsK, wsO, dataWs, List.mem_append] at hw
  rcases hw with hw | hw | hw | hw | hw | hw
  · simp only [List.mem_cons, List.not_mem_nil, or_false] at hw
    rcases hw with rfl | rfl | rfl | rfl | rfl
    · exact pairW_32 (by omega) h.p.1 h.q.1
    · exact flagW_32 h.f
    · exact notin_digs h.s.1 (by omega)
    · exact notin_digs h.a.1 (by omega)
    · exact notin_digs h.w.1 (by omega)
  · split at hw
    · simp at hw
    · simp only [List.mem_cons, List.not_mem_nil, or_false] at hw
      rcases hw with rfl | rfl
      · decide
      · exact notin_digs h.m.1 (by omega)
  · split at hw
    · simp only [List.mem_cons, List.not_mem_nil, or_false] at hw
      rcases hw with rfl | rfl
      · decide
      · exact notin_digs h.k.1 (by omega)
    · simp at hw
  · split at hw
    · simp only [List.mem_cons, List.not_mem_nil, or_false] at hw
      subst hw; decide
    · simp at hw
  · exact sackWs_32 h.sk w hw
  · split at hw
    · simp at hw
    · simp only [List.mem_cons, List.not_mem_nil, or_false] at hw
      rcases hw with rfl | rfl
      · decide
      · intro hm; have := hexI_chars hB 32 hm; omega
theorem split_showT {x : Sg} (h : x.Ok) (hB : bytesI x.da) : splitI 32 (showT x) = words x :=
  splitI_joinI (by simp [words, ws0]) (words_32 h hB)

theorem implRead_eq (n : Nat) (hn : 10000000 ≤ n) {x : Sg} (hok : x.ok = true) (hd : x.da.length ≤ 4000) (hB : bytesI x.da) : g_impl_ReadSegment n (showT x) = some (outO x) := by
  have hn' : 1000 ≤ n := by omega
  have h := x.ok_iff hok
  have hl := showT_len h hd
  have hsh := implShow_eq n (by omega) x
  rw [showA, hok, decide_eq_true hd, Bool.and_self, cond_true] at hsh
  simp only [g_impl_ReadSegment, t_impl_ReadSegment]
  rw [g_strings_Split]
  rw [if_pos (by omega), bind_some', split_showT h hB]
  have ew : words x = pairW 62 x.p x.q :: flagW x.f :: decI x.s :: decI x.a :: decI x.w :: (wsM x.m ++ (wsK x.sc x.k ++ (wsO x.so ++ (sackWs x.sk ++ dataWs x.da)))) := rfl
  simp only [ew]
  rw [f1_eq n hn' (by omega) (by have := h.p; omega) (by have := h.q; omega), bind_some']
  simp only [next_eq, nextF, bind_some']
  rw [flLoop_eq n hn', flR_flag h.f (by omega)]
  simp only [Option.map_some, bind_some']
  rw [number_eq n hn' h.s, bind_some', number_eq n hn' h.a, bind_some', number_eq n hn' (by have := h.w; omega), bind_some']
  simp only [is_eq, bind_some']
  have hM : (x.m = 0 ∧ isF [109, 115, 115] (wsM x.m ++ (wsK x.sc x.k ++ (wsO x.so ++ (sackWs x.sk ++ dataWs x.da)))) false = (false, (((wsK x.sc x.k ++ (wsO x.so ++ (sackWs x.sk ++ dataWs x.da))), false, ()), ()))) ∨
      (isF [109, 115, 115] (wsM x.m ++ (wsK x.sc x.k ++ (wsO x.so ++ (sackWs x.sk ++ dataWs x.da)))) false = (true, ((decI x.m :: (wsK x.sc x.k ++ (wsO x.so ++ (sackWs x.sk ++ dataWs x.da))), false, ()), ()))) := by
    by_cases h0 : x.m = 0
    · refine .inl ⟨h0, ?_⟩
      rw [wsM, if_pos h0, List.nil_append]; exact isF_miss (hd_scale _ _ _ _ _) (by decide) _
    · refine .inr ?_
      rw [wsM, if_neg h0]; exact isF_hit _ _ _
  have hK : (x.sc = false ∧ x.k = 0 ∧ isF [115, 99, 97, 108, 101] (wsK x.sc x.k ++ (wsO x.so ++ (sackWs x.sk ++ dataWs x.da))) false = (false, (((wsO x.so ++ (sackWs x.sk ++ dataWs x.da)), false, ()), ()))) ∨
      (x.sc = true ∧ isF [115, 99, 97, 108, 101] (wsK x.sc x.k ++ (wsO x.so ++ (sackWs x.sk ++ dataWs x.da))) false = (true, ((decI x.k :: (wsO x.so ++ (sackWs x.sk ++ dataWs x.da)), false, ()), ()))) := by
    rcases bft x.sc with h0 | h0
    · refine .inl ⟨h0, by have := h.sc; simpa [h0] using this, ?_⟩
      simp only [wsK, h0, Bool.false_eq_true, if_false, List.nil_append]
      exact isF_miss (hd_ok _ _ _) (by decide) _
    · refine .inr ⟨h0, ?_⟩
      simp only [wsK, h0, if_true]; exact isF_hit _ _ _
  have hO : isF [115, 97, 99, 107, 111, 107] (wsO x.so ++ (sackWs x.sk ++ dataWs x.da)) false = (x.so, (((sackWs x.sk ++ dataWs x.da), false, ()), ())) := by
    rcases bft x.so with h0 | h0
    · simp only [wsO, h0, Bool.false_eq_true, if_false, List.nil_append]
      exact isF_miss (hd_sack _ _) (by decide) _
    · simp only [wsO, h0, if_true]; exact isF_hit _ _ _
  have hn3 := h.n
  have hS : ∀ a1 a2 a3 a4 a5 a6 a7 a8 a9 a10, l_impl_ReadSegment_1 n n (showT x) 0 0 0 0 0 0 0 false 0 false a1 a2 a3 a4 a5 a6 a7 a8 a9 a10 (sackWs x.sk ++ dataWs x.da) false [] =
      some ((showT x, (), (), (), ()), ((0, 0, 0, 0, 0, 0, 0, false, 0, false, (), (), ()), ((), ()), (a1, a2, a3, a4, a5, a6, a7, a8, a9, a10, (), (), ()), (dataWs x.da, false, ()), x.sk, ())) := by
    intro a1 a2 a3 a4 a5 a6 a7 a8 a9 a10
    have := sackLoop_eq n hn' (showT x) 0 0 0 0 0 0 0 false 0 false a1 a2 a3 a4 a5 a6 a7 a8 a9 a10 (dataWs x.da) ((hd_data _).head (by decide)) x.sk n [] (by omega) (by simp; omega) h.sk
    rw [List.nil_append] at this; exact this
  have hD : (x.da = [] ∧ isF [100, 97, 116, 97] (dataWs x.da) false = (false, (([], false, ()), ()))) ∨ (isF [100, 97, 116, 97] (dataWs x.da) false = (true, (([hexI x.da], false, ()), ()))) := by
    by_cases h0 : x.da = []
    · exact .inl ⟨h0, by simp [dataWs, h0, isF]⟩
    · exact .inr (by rw [dataWs, if_neg h0]; exact isF_hit _ _ _)
  have hh := decodeString_eq n hB (by omega)
  have hm' := number_eq n hn' (v := x.m) (by have := h.m; omega)
  have hk' := number_eq n hn' (v := x.k) (by have := h.k; omega)
  rcases hM with ⟨m0, m1⟩ | m1 <;> rcases hK with ⟨k0, k1, k2⟩ | ⟨k0, k2⟩ <;> rcases hD with ⟨d0, d1⟩ | d1 <;>
    simp only [m1, k2, hO, hS, d1, Bool.false_eq_true, if_false, if_true, bind_some', hm', hk', next_eq, nextF, hh, g_impl_wordReader_done, Bool.not_false, Bool.not_true,
      List.length_nil, Int.natCast_zero, beq_self_eq_true] <;>
    (have e := hsh
     (try rw [m0] at e); (try rw [k0] at e); (try rw [k1] at e); (try rw [d0] at e)
     rw [e]; simp only [bind_some', bne_self_eq_false, Bool.false_eq_true, if_false, outO]
     (try rw [m0]); (try rw [k0]); (try rw [k1]); (try rw [d0]))

end Go.Vm
