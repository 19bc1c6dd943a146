/-
  One operation: whatever it is.
-/
import Derived.Test.YtannkglddbaalaaDoorVmCall3
import Derived.Test.YtannkglddbaalaaDoorVmEq
set_option linter.unusedSimpArgs false
set_option linter.unusedVariables false
namespace Go.Vm

section
variable {E : Env} {w0 : World} {R0 S0 : Nat → Nat → Prop} {γ : Gh} {w : World} {ob : Obs} {R : Type} {k : SV → Obs → Option R} {r : R}

theorem VL_map {sl : List SV} {a : Act} (hs : Sl w γ sl a) : ∀ l : List Operand, VL w γ (l.map (opd sl)) (l.map a.eval)
  | [] => by simp only [List.map_nil, VL]
  | x :: l => by simp only [List.map_cons, VL]; exact ⟨opd_ok hs x, VL_map hs l⟩

theorem VL_getD : ∀ {cs : List SV} {vs : List Value}, VL w γ cs vs → ∀ i : Nat, V w γ (cs.getD i .undef) (vs.toArray.getD i undef)
  | cs, vs, h, i => by
    have hl := h.len
    cases hc : cs[i]? with
    | none =>
      have : cs.getD i .undef = .undef := by simp [List.getD, hc]
      rw [this]
      simp only [V]
    | some c =>
      obtain ⟨v, hv, hV⟩ := h.get i c hc
      have h1 : cs.getD i .undef = c := by simp [List.getD, hc]
      have h2 : vs.toArray.getD i undef = v := by simp [Array.getD_eq_getD_getElem?, hv]
      rw [h1, h2]
      exact hV

theorem OV_map {sl : List SV} {a : Act} (hs : Sl w γ sl a) : ∀ x : Option Operand, OV w γ (x.map (opd sl)) (x.map a.eval)
  | none => trivial
  | some x => opd_ok hs x

theorem wp_done {o : Oper} {a : Act} {s : Sem Value} {next : Act → World → Prop} {Q : Exit → Act → World → Prop} (he : execOp a.eval o = (do pure (.value (← s)))) (hd : Done E w0 R0 S0 γ w s k r)
    (hnext : ∀ v ob' u w' γ', k v ob' = some r → V w' γ' v u → Mem w0 R0 S0 γ' ob' w' → Le γ w γ' w' → next (a.put o.dst u) w') : o.wp E.P a w next Q := by
  obtain ⟨v, ob', u, w', γ', h1, h2, h3, h4, h5⟩ := hd
  unfold Oper.wp
  rw [he, Sem.run_bind, h1]
  exact hnext v ob' u w' γ' h2 h3 h4 h5

theorem len_ok {t : Nat} {ats : Array Nat} {ty : Nat} {x : SV} {a : Value} (hm : Mem w0 R0 S0 γ ob w) (h1 : V w γ x a) (hat : ats[0]? = some t)
    (h : (match E.ti t with
    | some ⟨_, _, _, _, .str, _⟩ => match x with | .str s => k (.int .i64 s.length) ob | _ => none
    | some ⟨_, _, _, _, .sl _, _⟩ => match x with | .str _ => none | x => match lenOf ob x with | some n => k (.int .i64 n) ob | none => none
    | _ => none) = some r) : Done E w0 R0 S0 γ w (Builtin.len_ ats ty #[a]) k r := by
  split at h
  · rename_i hti
    obtain ⟨i, dd, z, a1, a2, a3, a4, a5, a6, a7, _⟩ := ti_spec hti
    have hd := mkTD_str a7.symm
    subst hd
    split at h
    · rename_i s
      simp only [V] at h1
      obtain ⟨rfl, hs⟩ := h1
      refine .same hm (u := .int .i64 s.length) ?_ h (by simp only [V]; exact ⟨by trivial, i64_of_le (by omega) (by have := hs.2; omega)⟩)
      simp [Builtin.len_, hat, run_underlying a2, goInt, toBA_size]
    · cases h
  · rename_i hti
    obtain ⟨i, dd, z, a1, a2, a3, a4, a5, a6, a7, _⟩ := ti_spec hti
    have hd := mkTD_sl a7.symm
    subst hd
    split at h
    · cases h
    · rename_i hns
      split at h
      · rename_i n hn
        rcases lenOf_ok hm h1 hn with ⟨s, hs, _⟩ | ⟨A, l, c, len, rfl, rfl, rfl, hmax⟩
        · exact absurd hs (hns s)
        · refine .same hm (u := .int .i64 l) ?_ h (by simp only [V]; exact ⟨by trivial, i64_of_le (by omega) (by omega)⟩)
          simp [Builtin.len_, hat, run_underlying a2, goInt]
      · cases h
  · cases h

theorem xBuiltin_ok {d : Nat} {b : Builtin} {ats : Array Nat} {ty : Nat} {cs : Array Bool} {xs : List SV} {us : List Value} {next : Act → World → Prop} {Q : Exit → Act → World → Prop} {o : Oper} {a : Act} (hm : Mem w0 R0 S0 γ ob w) (hv : VL w γ xs us) (h : xBuiltin E d b ats.toList xs ob k = some r)
    (he : execOp a.eval o = builtin b ats ty cs us.toArray)
    (hnext : ∀ v ob' u w' γ', k v ob' = some r → V w' γ' v u → Mem w0 R0 S0 γ' ob' w' → Le γ w γ' w' → next (a.put o.dst u) w') : o.wp E.P a w next Q := by
  unfold xBuiltin at h
  split at h
  · rename_i t x hat
    cases us with
    | nil => simp only [VL] at hv
    | cons u us =>
      simp only [VL] at hv
      obtain ⟨h1, rfl⟩ := hv
      have hat0 : ats[0]? = some t := by rw [← Array.getElem?_toList, hat]; rfl
      exact wp_done he (len_ok hm h1 hat0 h) hnext
  · rename_i t tx x y hat
    split at h
    · rename_i hty
      cases us with
      | nil => simp only [VL] at hv
      | cons u us =>
        simp only [VL] at hv
        cases us with
        | nil => exact hv.2.elim
        | cons u2 us =>
          obtain ⟨h1, h2, rfl⟩ := hv
          have hat0 : ats = #[t, tx] := by apply Array.ext'; rw [hat]
          subst hat0
          exact wp_done he (xAppend_ok hm h1 h2 hty h) hnext
    · cases h
  · rename_i ka x kb y
    split at h
    · rename_i hk
      subst hk
      cases us with
      | nil => simp only [VL] at hv
      | cons u us =>
        simp only [VL] at hv
        cases us with
        | nil => exact hv.2.elim
        | cons u2 us =>
          obtain ⟨h1, h2, rfl⟩ := hv
          simp only [V] at h1 h2
          obtain ⟨rfl, h1⟩ := h1
          obtain ⟨rfl, h2⟩ := h2
          refine wp_done he (.same hm (u := .int ka (if y < x then y else x)) ?_ h (by simp only [V]; exact ⟨by trivial, by split <;> assumption⟩)) hnext
          simp [Builtin.min_, Builtin.min2]
    · cases h
  · rename_i ka x kb y
    split at h
    · rename_i hk
      subst hk
      cases us with
      | nil => simp only [VL] at hv
      | cons u us =>
        simp only [VL] at hv
        cases us with
        | nil => exact hv.2.elim
        | cons u2 us =>
          obtain ⟨h1, h2, rfl⟩ := hv
          simp only [V] at h1 h2
          obtain ⟨rfl, h1⟩ := h1
          obtain ⟨rfl, h2⟩ := h2
          refine wp_done he (.same hm (u := .int ka (if y > x then y else x)) ?_ h (by simp only [V]; exact ⟨by trivial, by split <;> assumption⟩)) hnext
          simp [Builtin.max_, Builtin.max2]
    · cases h
  · rename_i ka x kb y kc z
    split at h
    · rename_i hk
      obtain ⟨rfl, rfl⟩ := hk
      cases us with
      | nil => simp only [VL] at hv
      | cons u us =>
        simp only [VL] at hv
        cases us with
        | nil => exact hv.2.elim
        | cons u2 us =>
          cases us with
          | nil => exact hv.2.2.elim
          | cons u3 us =>
            obtain ⟨h1, h2, h3, rfl⟩ := hv
            simp only [V] at h1 h2 h3
            obtain ⟨rfl, h1⟩ := h1
            obtain ⟨rfl, h2⟩ := h2
            obtain ⟨rfl, h3⟩ := h3
            refine wp_done he (.same hm (u := .int ka (if z < (if y < x then y else x) then z else (if y < x then y else x))) ?_ h (by simp only [V]; refine ⟨by trivial, ?_⟩; (repeat' split) <;> assumption)) hnext
            simp [Builtin.min_, Builtin.min2]
    · cases h
  · rename_i ka x kb y kc z
    split at h
    · rename_i hk
      obtain ⟨rfl, rfl⟩ := hk
      cases us with
      | nil => simp only [VL] at hv
      | cons u us =>
        simp only [VL] at hv
        cases us with
        | nil => exact hv.2.elim
        | cons u2 us =>
          cases us with
          | nil => exact hv.2.2.elim
          | cons u3 us =>
            obtain ⟨h1, h2, h3, rfl⟩ := hv
            simp only [V] at h1 h2 h3
            obtain ⟨rfl, h1⟩ := h1
            obtain ⟨rfl, h2⟩ := h2
            obtain ⟨rfl, h3⟩ := h3
            refine wp_done he (.same hm (u := .int ka (if z > (if y > x then y else x) then z else (if y > x then y else x))) ?_ h (by simp only [V]; refine ⟨by trivial, ?_⟩; (repeat' split) <;> assumption)) hnext
            simp [Builtin.max_, Builtin.max2]
    · cases h
  · cases h

theorem exec_ok {o : Oper} {a : Act} {sl : List SV} {next : Act → World → Prop} {Q : Exit → Act → World → Prop} {gl : List (Nat × Obj)} (hsat : Sats E gl w0 R0 S0) (hS0 : ∀ b i, S0 b i → γ.S b i) (hm : Mem w0 R0 S0 γ ob w) (hs : Sl w γ sl a)
    (h : exec E (o.dst.getD 0) o.op (opd sl) ob k = some r)
    (hnext : ∀ v ob' u w' γ', k v ob' = some r → V w' γ' v u → Mem w0 R0 S0 γ' ob' w' → Le γ w γ' w' → next (a.put o.dst u) w') : o.wp E.P a w next Q := by
  obtain ⟨dst, op, ty, pos, after, guard⟩ := o
  simp only at h
  cases op with
  | move x =>
    simp only [exec] at h
    exact hnext _ _ _ w γ h (opd_ok hs x) hm (Le.refl _ _)
  | assign x =>
    simp only [exec] at h
    exact hnext _ _ _ w γ h (opd_ok hs x) hm (Le.refl _ _)
  | pick c x y =>
    simp only [exec] at h
    have hc := opd_ok hs c
    split at h
    · rename_i t ht
      rw [ht] at hc
      simp only [V] at hc
      unfold Oper.wp
      simp only [execOp, hc, asBool, Sem.run_bind, Sem.run_pure, Result.andThen_ok]
      cases t with
      | true => exact hnext _ _ _ w γ (by simpa using h) (opd_ok hs x) hm (Le.refl _ _)
      | false => exact hnext _ _ _ w γ (by simpa using h) (opd_ok hs y) hm (Le.refl _ _)
    · cases h
  | alloc t =>
    simp only [exec] at h
    split at h
    · rename_i ti hti
      exact wp_done rfl (alloc_ok hm hti h) hnext
    · cases h
  | box t x =>
    simp only [exec] at h
    split at h
    · rename_i cs hc
      exact wp_done rfl (box_ok hm (opd_ok hs x) hc h) hnext
    · cases h
  | build t ps =>
    simp only [exec] at h
    have h2 : VL w γ ((ps.toList.map fun p => (p.1, opd sl p.2)).map (·.2)) ((ps.toList.map fun p => (p.1, a.eval p.2)).map (·.2)) := by
      have := VL_map hs (ps.toList.map (·.2))
      simpa [List.map_map, Function.comp_def] using this
    have := xBuild_ok hm (by simp [List.map_map, Function.comp_def]) h2 h
    refine wp_done ?_ this hnext
    simp only [execOp]
    congr 2
    apply Array.ext'
    simp
  | buildSlice t n ps =>
    simp only [exec] at h
    have h2 : VL w γ ((ps.toList.map fun p => (p.1, opd sl p.2)).map (·.2)) ((ps.toList.map fun p => (p.1, a.eval p.2)).map (·.2)) := by
      have := VL_map hs (ps.toList.map (·.2))
      simpa [List.map_map, Function.comp_def] using this
    have := xBuildSlice_ok hm (by simp [List.map_map, Function.comp_def]) h2 h
    refine wp_done ?_ this hnext
    simp only [execOp]
    congr 2
    apply Array.ext'
    simp
  | load t x =>
    simp only [exec] at h
    exact wp_done rfl (xLoad_ok hm (opd_ok hs x) h) hnext
  | store t x y =>
    simp only [exec] at h
    obtain ⟨ob', w', γ', h1, h2, h3, h4⟩ := xStore_ok hm (opd_ok hs x) (opd_ok hs y) h
    unfold Oper.wp
    simp only [execOp, Sem.run_bind, h1, Result.andThen_ok]
    exact hnext _ _ _ w' γ' h2 (by simp only [V]) h3 h4
  | nilCheck x =>
    simp only [exec] at h
    have hx := opd_ok hs x
    split at h
    · rename_i hn
      rcases nilOf_ok hx hn with ⟨h1, _⟩ | ⟨_, ad, h2⟩
      · cases h1
      · unfold Oper.wp
        simp only [execOp, h2]
        exact hnext _ _ _ w γ h (by rw [h2] at hx; exact hx) hm (Le.refl _ _)
    · cases h
  | binOp op t x y yt =>
    simp only [exec] at h
    exact wp_done rfl (xBin_ok hm (opd_ok hs x) (opd_ok hs y) h) hnext
  | unOp op t x =>
    simp only [exec] at h
    exact wp_done rfl (xUn_ok hm (opd_ok hs x) h) hnext
  | convert src d x =>
    simp only [exec] at h
    exact wp_done rfl (xConvert_ok hm (opd_ok hs x) h) hnext
  | makeFunc f fst caps =>
    cases f with
    | func f =>
      simp only [exec] at h
      split at h
      · rename_i h0
        have hf : fst = #[] := by simpa using h0
        subst hf
        refine wp_done (s := Instr.makeFunc (.func f) (#[].map a.eval) (caps.map a.eval)) rfl (.same hm (u := .func (.func f) #[] (caps.map a.eval)) (by simp [Instr.makeFunc]) h ?_) hnext
        simp only [V]
        exact ⟨caps.toList.map a.eval, by congr 1; apply Array.ext'; simp, VL_map hs _⟩
      · cases h
    | _ => simp [exec] at h
  | makeSlice t l c =>
    simp only [exec] at h
    exact wp_done rfl (xMake_ok hm (opd_ok hs l) (opd_ok hs c) h) hnext
  | slice t x lo hi mx =>
    simp only [exec] at h
    exact wp_done rfl (xSlice_ok hm (opd_ok hs x) (OV_map hs lo) (OV_map hs hi) (OV_map hs mx) h) hnext
  | fieldAddr t x f =>
    simp only [exec] at h
    exact wp_done rfl (xFieldAddr_ok hm (opd_ok hs x) h) hnext
  | field t x f =>
    simp only [exec] at h
    exact wp_done rfl (xField_ok hm (opd_ok hs x) h) hnext
  | indexAddr t x i =>
    simp only [exec] at h
    exact wp_done rfl (xIndexAddr_ok hm (opd_ok hs x) (opd_ok hs i) h) hnext
  | index t x i =>
    simp only [exec] at h
    exact wp_done rfl (xIndex_ok hm (opd_ok hs x) (opd_ok hs i) h) hnext
  | range t x =>
    simp only [exec] at h
    split at h
    · rename_i s hti hx
      have := opd_ok hs x
      rw [hx] at this
      exact wp_done rfl (range_ok hm hti rfl this h) hnext
    · cases h
  | next it isS =>
    cases isS with
    | false => simp [exec] at h
    | true =>
      simp only [exec] at h
      split at h
      · rename_i n g hx
        have hi := opd_ok hs it
        rw [hx] at hi
        split at h
        · rename_i g' s p hg
          split at h
          · rename_i hgg
            subst hgg
            exact wp_done rfl (next_ok hm hi hg h) hnext
          · cases h
        · cases h
      · cases h
  | extract x i =>
    simp only [exec] at h
    have hx := opd_ok hs x
    split at h
    · rename_i vs hv
      rw [hv] at hx
      simp only [V] at hx
      obtain ⟨us, hu, hVL⟩ := hx
      obtain ⟨v, hv1, hk⟩ := ret1_some h
      obtain ⟨u, hu1, hV⟩ := hVL.get i v hv1
      refine wp_done (s := Instr.extract (a.eval x) i) rfl (.same hm (u := u) ?_ hk hV) hnext
      simp [Instr.extract, hu, hu1]
    · cases h
  | call c =>
    simp only [exec] at h
    obtain ⟨callee, args, ats⟩ := c
    simp only at h
    cases callee with
    | builtin b =>
      simp only at h
      refine xBuiltin_ok (ats := ats) (ty := ty) (cs := args.map fun | .const _ => true | _ => false) hm (VL_map hs args.toList) h ?_ hnext
      simp only [execOp, resolve]
      show invoke (.builtin b ats ty _) (args.map a.eval) = _
      simp only [invoke]
      congr 1
      apply Array.ext'
      simp
    | invoke x n => simp at h
    | value f =>
      simp only at h
      have hf := opd_ok hs f
      split at h
      · rename_i fn caps hfn
        rw [hfn] at hf
        simp only [V] at hf
        obtain ⟨us, hu, hcaps⟩ := hf
        have hargs : VL w γ (args.toList.map (opd sl) ++ caps) ((args.map a.eval ++ us.toArray).toList) := by
          have := VL.append (VL_map hs args.toList) hcaps
          simpa using this
        have hvals := VL_getD hargs
        obtain ⟨⟨F, hF1, hF2, hF3⟩, hcalls⟩ := xCall_ok (args := args.map a.eval ++ us.toArray) hsat hS0 hm (by have := hargs.len; simpa using this) (fun i => by have := hvals i; rwa [show (args.map a.eval ++ us.toArray).toList.toArray = args.map a.eval ++ us.toArray from rfl] at this) h
        unfold Oper.wp
        have hrun : (execOp a.eval { dst := dst, op := .call { callee := .value f, args := args, argTypes := ats }, type := ty, pos := pos, after := after, guard := guard }).run E.P w = .ok (.enter fn (args.map a.eval ++ us.toArray)) w := by
          simp only [execOp, resolve, hu, Deferred.ofValue, Sem.run_bind, Sem.run_pure, Result.andThen_ok, invoke, callFunc, run_program, hF1, hF2, hF3]
          simp
        rw [hrun, Oper.upon_enter]
        refine hcalls.mono ?_
        rintro e w' ⟨v, v', ob', γ', rfl, h1, h2, h3, h4⟩
        exact hnext v' ob' v w' γ' h1 h2 h3 h4
      · cases h
  | _ => simp [exec] at h

end
end Go.Vm
