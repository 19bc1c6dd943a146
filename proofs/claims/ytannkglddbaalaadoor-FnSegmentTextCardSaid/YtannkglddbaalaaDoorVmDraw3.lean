/-
  Regions that draw their order: the run in the text's order.
-/
import Derived.Test.YtannkglddbaalaaDoorVmFrame
set_option linter.unusedSimpArgs false
set_option linter.unusedVariables false
namespace Go.Vm

section
variable {E : Env} {R : Type}

/-- one operation of that run -/
def StepT (E : Env) (ops : Array Oper) (o : Oper) (sl : List SV) (ob : Obs) (v : SV) (ob' : Obs) (ns ts : List Nat) : Prop :=
  (∃ j want g b, o.guard = some (j, want) ∧ (ops[j]?).bind (·.dst) = some g ∧ (sl.getD g .undef = .bool b ∧ b ≠ want ∨ sl.getD g .undef = .skip) ∧ v = .skip ∧ ob' = ob ∧ ns = [] ∧ ts = []) ∨
  ((o.guard = none ∨ ∃ j want g, o.guard = some (j, want) ∧ (ops[j]?).bind (·.dst) = some g ∧ sl.getD g .undef = .bool want) ∧
    ((isCh E o.op = true ∧ okT o.op (opd sl) ob ts = true ∧ (∃ ob1, exec E (o.dst.getD 0) o.op (opd sl) (restr ob ts) (fun v ob => some (v, ob)) = some (v, ob1) ∧ keysOK (restr ob ts) ob1 ts = true ∧ ob' = merge ob ob1 ts) ∧ ns = []) ∨
     (isCh E o.op = false ∧ NV E o.op (opd sl) ob v ∧ ob' = ob ∧ ns = namesN o.op (opd sl) ∧ ts = [])))

theorem setAt_self {sl : List SV} {g : Nat} {v : SV} (h : sl.getD g .undef = v) : setAt sl g v = sl := by
  apply List.ext_getElem?
  intro i
  simp only [setAt]
  by_cases e : g = i
  · subst e
    rw [List.getElem?_set]
    simp only [if_true]
    split
    · rename_i hlt
      rw [List.getElem?_eq_getElem hlt, ← h]
      simp [List.getD, List.getElem?_eq_getElem hlt]
    · rename_i hge
      rw [List.getElem?_eq_none (by omega)]
  · rw [List.getElem?_set_ne e]

structure Run (E : Env) (ops : Array Oper) (cl : List (List Nat)) (i0 m : Nat) (sls : Nat → List SV) (obs : Nat → Obs) (vals : Nat → SV) (nms tch : Nat → List Nat) : Prop where
  step : ∀ i, i0 ≤ i → i < i0 + m → ∃ o, ops[i]? = some o ∧ StepT E ops o (sls i) (obs i) (vals i) (obs (i + 1)) (nms i) (tch i) ∧ sls (i + 1) = putD (sls i) o.dst (vals i)
  apart : ∀ i j, i0 ≤ i → i < j → j < i0 + m → (i ∈ cl.getD j [] ∨ disj (nms i) (tch j) = true) ∧ (i ∈ cl.getD j [] ∨ disj (nms j) (tch i) = true) ∧ (i ∈ cl.getD j [] ∨ disj (tch i) (tch j) = true)

theorem disj_nil (l : List Nat) : disj l [] = true := by simp [disj]
theorem nil_disj (l : List Nat) : disj [] l = true := rfl

theorem contains_or {l : List Nat} {i : Nat} {b : Bool} (h : (l.contains i || b) = true) : i ∈ l ∨ b = true := by
  simpa using h

theorem evalDraw_run {ops : Array Oper} {cl : List (List Nat)} {k : St → Option R} {r : R} : ∀ (m i0 : Nat) (σ : St) (lg : Log), evalDraw E ops cl (List.range' i0 m) σ lg k = some r →
    ∃ sls obs vals nms tch, sls i0 = σ.sl ∧ obs i0 = σ.ob ∧ k ⟨sls (i0 + m), obs (i0 + m)⟩ = some r ∧ Run E ops cl i0 m sls obs vals nms tch ∧
      ∀ i, i0 ≤ i → i < i0 + m → (∀ p ∈ lg.n, p.1 ∈ cl.getD i [] ∨ disj p.2 (tch i) = true) ∧ (∀ p ∈ lg.c, p.1 ∈ cl.getD i [] ∨ disj (nms i) p.2 = true) ∧ ∀ p ∈ lg.c, p.1 ∈ cl.getD i [] ∨ disj p.2 (tch i) = true
  | 0, i0, σ, lg, h => by
    simp only [List.range'_zero, evalDraw] at h
    exact ⟨fun _ => σ.sl, fun _ => σ.ob, fun _ => .undef, fun _ => [], fun _ => [], rfl, rfl, h, ⟨fun i h1 h2 => by omega, fun i j h1 h2 h3 => by omega⟩, fun i h1 h2 => by omega⟩
  | m + 1, i0, σ, lg, h => by
    -- one step, and what follows
    have key : ∀ (o : Oper) (v : SV) (ob' : Obs) (ns ts : List Nat) (lg' : Log), ops[i0]? = some o → StepT E ops o σ.sl σ.ob v ob' ns ts →
        (∀ p ∈ lg.n, p.1 ∈ cl.getD i0 [] ∨ disj p.2 ts = true) → (∀ p ∈ lg.c, p.1 ∈ cl.getD i0 [] ∨ disj ns p.2 = true) → (∀ p ∈ lg.c, p.1 ∈ cl.getD i0 [] ∨ disj p.2 ts = true) →
        (∀ p ∈ lg.n, p ∈ lg'.n) → (∀ p ∈ lg.c, p ∈ lg'.c) → (ns = [] ∨ (i0, ns) ∈ lg'.n) → (ts = [] ∨ (i0, ts) ∈ lg'.c) →
        evalDraw E ops cl (List.range' (i0 + 1) m) ⟨putD σ.sl o.dst v, ob'⟩ lg' k = some r →
        ∃ sls obs vals nms tch, sls i0 = σ.sl ∧ obs i0 = σ.ob ∧ k ⟨sls (i0 + (m + 1)), obs (i0 + (m + 1))⟩ = some r ∧ Run E ops cl i0 (m + 1) sls obs vals nms tch ∧
          ∀ i, i0 ≤ i → i < i0 + (m + 1) → (∀ p ∈ lg.n, p.1 ∈ cl.getD i [] ∨ disj p.2 (tch i) = true) ∧ (∀ p ∈ lg.c, p.1 ∈ cl.getD i [] ∨ disj (nms i) p.2 = true) ∧ ∀ p ∈ lg.c, p.1 ∈ cl.getD i [] ∨ disj p.2 (tch i) = true := by
      intro o v ob' ns ts lg' ho hst hn hc hcc hn' hc' hns hts he
      obtain ⟨sls, obs, vals, nms, tch, h1, h2, h3, h4, h5⟩ := evalDraw_run m (i0 + 1) _ lg' he
      have ne : ∀ i, i0 + 1 ≤ i → (i = i0) = False := fun i hi => by simp; omega
      refine ⟨fun i => if i = i0 then σ.sl else sls i, fun i => if i = i0 then σ.ob else obs i, fun i => if i = i0 then v else vals i, fun i => if i = i0 then ns else nms i, fun i => if i = i0 then ts else tch i,
        by simp, by simp, ?_, ⟨fun i h6 h7 => ?_, fun i j h6 h7 h8 => ?_⟩, fun i h6 h7 => ?_⟩
      · simp only [ne (i0 + (m + 1)) (by omega), if_false]
        rw [show i0 + (m + 1) = i0 + 1 + m by omega]
        exact h3
      · by_cases e : i = i0
        · subst e
          refine ⟨o, ho, ?_, ?_⟩
          · simp only [if_true, ne (i + 1) (by omega), if_false, h2]
            exact hst
          · simp only [if_true, ne (i + 1) (by omega), if_false, h1]
        · obtain ⟨o', h8, h9, h10⟩ := h4.step i (by omega) (by omega)
          refine ⟨o', h8, ?_, ?_⟩
          · simp only [ne i (by omega), ne (i + 1) (by omega), if_false]
            exact h9
          · simp only [ne i (by omega), ne (i + 1) (by omega), if_false]
            exact h10
      · by_cases e : i = i0
        · subst e
          simp only [if_true, ne j (by omega), if_false]
          obtain ⟨h9, h10, h11⟩ := h5 j (by omega) (by omega)
          refine ⟨?_, ?_, ?_⟩
          · rcases hns with hns | hns
            · rw [hns]; exact .inr (nil_disj _)
            · exact h9 _ hns
          · rcases hts with hts | hts
            · rw [hts]; exact .inr (disj_nil _)
            · exact h10 _ hts
          · rcases hts with hts | hts
            · rw [hts]; exact .inr (nil_disj _)
            · exact h11 _ hts
        · simp only [ne i (by omega), ne j (by omega), if_false]
          exact h4.apart i j (by omega) h7 (by omega)
      · by_cases e : i = i0
        · subst e
          simp only [if_true]
          exact ⟨hn, hc, hcc⟩
        · simp only [ne i (by omega), if_false]
          obtain ⟨h9, h10, h11⟩ := h5 i (by omega) (by omega)
          exact ⟨fun p hp => h9 p (hn' p hp), fun p hp => h10 p (hc' p hp), fun p hp => h11 p (hc' p hp)⟩
    rw [List.range'_succ] at h
    simp only [evalDraw] at h
    split at h
    · cases h
    · rename_i o ho
      -- an operation that is carried out
      have hrun : ∀ sl, sl = σ.sl → (o.guard = none ∨ ∃ j want g, o.guard = some (j, want) ∧ (ops[j]?).bind (·.dst) = some g ∧ σ.sl.getD g .undef = .bool want) →
          (if isCh E o.op = true then
            (if ((lg.n.all fun p => (cl.getD i0 []).contains p.1 || disj p.2 (touched E (o.dst.getD 0) o.op (opd sl) σ.ob)) && (lg.c.all fun p => (cl.getD i0 []).contains p.1 || disj p.2 (touched E (o.dst.getD 0) o.op (opd sl) σ.ob)) && okT o.op (opd sl) σ.ob (touched E (o.dst.getD 0) o.op (opd sl) σ.ob)) = true then
              exec E (o.dst.getD 0) o.op (opd sl) (restr σ.ob (touched E (o.dst.getD 0) o.op (opd sl) σ.ob)) fun v ob =>
                if keysOK (restr σ.ob (touched E (o.dst.getD 0) o.op (opd sl) σ.ob)) ob (touched E (o.dst.getD 0) o.op (opd sl) σ.ob) = true then
                  evalDraw E ops cl (List.range' (i0 + 1) m) ⟨putD sl o.dst v, merge σ.ob ob (touched E (o.dst.getD 0) o.op (opd sl) σ.ob)⟩ { lg with c := (i0, touched E (o.dst.getD 0) o.op (opd sl) σ.ob) :: lg.c } k
                else none
            else none)
          else
            (if (lg.c.all fun p => (cl.getD i0 []).contains p.1 || disj (namesN o.op (opd sl)) p.2) = true then
              execN E o.op (opd sl) σ.ob fun v => evalDraw E ops cl (List.range' (i0 + 1) m) ⟨putD sl o.dst v, σ.ob⟩ { lg with n := (i0, namesN o.op (opd sl)) :: lg.n } k
            else none)) = some r →
          ∃ sls obs vals nms tch, sls i0 = σ.sl ∧ obs i0 = σ.ob ∧ k ⟨sls (i0 + (m + 1)), obs (i0 + (m + 1))⟩ = some r ∧ Run E ops cl i0 (m + 1) sls obs vals nms tch ∧
            ∀ i, i0 ≤ i → i < i0 + (m + 1) → (∀ p ∈ lg.n, p.1 ∈ cl.getD i [] ∨ disj p.2 (tch i) = true) ∧ (∀ p ∈ lg.c, p.1 ∈ cl.getD i [] ∨ disj (nms i) p.2 = true) ∧ ∀ p ∈ lg.c, p.1 ∈ cl.getD i [] ∨ disj p.2 (tch i) = true := by
        intro sl hsl hg h
        subst hsl
        split at h
        · rename_i hch
          split at h
          · rename_i hck
            obtain ⟨v, ob1, hd, hk⟩ := exec_cps hch h
            simp only [Bool.and_eq_true] at hck
            split at hk
            · rename_i hkeys
              exact key o v _ [] (touched E (o.dst.getD 0) o.op (opd σ.sl) σ.ob) { lg with c := (i0, touched E (o.dst.getD 0) o.op (opd σ.sl) σ.ob) :: lg.c } ho (.inr ⟨hg, .inl ⟨hch, hck.2, ⟨ob1, hd, hkeys, rfl⟩, rfl⟩⟩) (fun p hp => contains_or (List.all_eq_true.1 hck.1.1 p hp)) (fun p hp => .inr (nil_disj _)) (fun p hp => contains_or (List.all_eq_true.1 hck.1.2 p hp))
                (fun p hp => hp) (fun p hp => List.mem_cons_of_mem _ hp) (.inl rfl) (.inr (List.mem_cons_self ..)) hk
            · cases hk
          · cases h
        · rename_i hch
          split at h
          · rename_i hck
            obtain ⟨v, hv⟩ := execN_nv h
            rw [hv _ _ _ (fun _ _ => rfl)] at h
            exact key o v σ.ob (namesN o.op (opd σ.sl)) [] { lg with n := (i0, namesN o.op (opd σ.sl)) :: lg.n } ho (.inr ⟨hg, .inr ⟨by simpa using hch, hv, rfl, rfl, rfl⟩⟩) (fun p hp => .inr (disj_nil _)) (fun p hp => contains_or (List.all_eq_true.1 hck p hp)) (fun p hp => .inr (disj_nil _))
              (fun p hp => List.mem_cons_of_mem _ hp) (fun p hp => hp) (.inr (List.mem_cons_self ..)) (.inl rfl) h
          · cases h
      have hskip : ∀ j want g b sl, sl = σ.sl → o.guard = some (j, want) → (ops[j]?).bind (·.dst) = some g → (σ.sl.getD g .undef = .bool b ∧ b ≠ want ∨ σ.sl.getD g .undef = .skip) →
          evalDraw E ops cl (List.range' (i0 + 1) m) ⟨putD sl o.dst .skip, σ.ob⟩ lg k = some r →
          ∃ sls obs vals nms tch, sls i0 = σ.sl ∧ obs i0 = σ.ob ∧ k ⟨sls (i0 + (m + 1)), obs (i0 + (m + 1))⟩ = some r ∧ Run E ops cl i0 (m + 1) sls obs vals nms tch ∧
            ∀ i, i0 ≤ i → i < i0 + (m + 1) → (∀ p ∈ lg.n, p.1 ∈ cl.getD i [] ∨ disj p.2 (tch i) = true) ∧ (∀ p ∈ lg.c, p.1 ∈ cl.getD i [] ∨ disj (nms i) p.2 = true) ∧ ∀ p ∈ lg.c, p.1 ∈ cl.getD i [] ∨ disj p.2 (tch i) = true := by
        intro j want g b sl hsl hg hd hb h
        subst hsl
        exact key o .skip σ.ob [] [] lg ho (.inl ⟨j, want, g, b, hg, hd, hb, rfl, rfl, rfl, rfl⟩) (fun p hp => .inr (disj_nil _)) (fun p hp => .inr (nil_disj _)) (fun p hp => .inr (disj_nil _)) (fun p hp => hp) (fun p hp => hp) (.inl rfl) (.inl rfl) h
      split at h
      · rename_i hg
        exact hrun σ.sl rfl (.inl hg) h
      · rename_i j want hg
        split at h
        · cases h
        · rename_i g hd
          split at h
          · rename_i b hb
            split at h
            · rename_i hbt
              have hb' : σ.sl.getD g .undef = .bool true := by rw [hb, hbt]
              split at h
              · rename_i hwt
                exact hrun _ (setAt_self hb') (.inr ⟨j, want, g, hg, hd, by rw [hb', hwt]⟩) h
              · rename_i hwt
                exact hskip j want g true _ (setAt_self hb') hg hd (.inl ⟨hb', by intro hh; exact hwt hh.symm⟩) h
            · rename_i hbt
              have hbf : b = false := by simpa using hbt
              have hb' : σ.sl.getD g .undef = .bool false := by rw [hb, hbf]
              split at h
              · rename_i hwt
                exact hskip j want g false _ (setAt_self hb') hg hd (.inl ⟨hb', by rw [hwt]; simp⟩) h
              · rename_i hwt
                have hwf : want = false := by simpa using hwt
                exact hrun _ (setAt_self hb') (.inr ⟨j, want, g, hg, hd, by rw [hb', hwf]⟩) h
          · rename_i hb
            exact hskip j want g true _ rfl hg hd (.inr hb) h
          · cases h

end
end Go.Vm
