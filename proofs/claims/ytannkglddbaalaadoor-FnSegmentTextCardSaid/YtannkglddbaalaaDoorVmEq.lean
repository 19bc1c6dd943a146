/-
  '==', and the other operations on two operands.
-/
import Derived.Test.YtannkglddbaalaaDoorVmExec2
import Derived.Laws.StructEq
set_option linter.unusedSimpArgs false
set_option linter.unusedVariables false
namespace Go.Vm

section
variable {E : Env} {w0 : World} {R0 S0 : Nat → Nat → Prop} {γ : Gh} {w : World} {ob : Obs} {R : Type} {k : SV → Obs → Option R} {r : R}

theorem eqFs_ok {rec : Nat → SV → SV → Option Bool} {d : Nat} (hrec : ∀ t sx sy b, rec t sx sy = some b → ∀ u v, V w γ sx u → V w γ sy v → (Op.equalIn d t u v).run E.P w = .ok b w)
    {cs ds : List SV} {us vs : List Value} (h1 : VL w γ cs us) (h1' : ∀ v ∈ us, v.oneCell' = true) (h2 : VL w γ ds vs) (h2' : ∀ v ∈ vs, v.oneCell' = true) :
    ∀ (fs : List Field) (b : Bool), eqFs E rec cs ds fs = some b → (Op.eqFields d us.toArray vs.toArray fs).run E.P w = .ok b w
  | [], b, h => by simp only [eqFs] at h; cases h; simp [Op.eqFields, Sem.run_pure]
  | F :: fs, b, h => by
    simp only [eqFs] at h
    split at h
    · cases h
    · rename_i hn
      split at h
      · rename_i tu htu
        split at h
        · rename_i x y hx hy
          split at h
          · rename_i p q hp hq
            cases h
            obtain ⟨u, h3, h4⟩ := part_ok htu h1 h1' hx
            obtain ⟨v, h5, h6⟩ := part_ok htu h2 h2' hy
            have h7 := hrec _ _ _ _ hp u v h4 h6
            have h8 := eqFs_ok hrec h1 h1' h2 h2' fs q hq
            simp only [Op.eqFields]
            rw [if_pos hn]
            simp only [Sem.run_bind, h3, Result.andThen_ok, h5, h7]
            cases p
            · simp [Sem.run_pure]
            · simpa using h8
          · cases h
        · cases h
      · cases h

theorem eqT_ok : ∀ (f t : Nat) (sx sy : SV) (b : Bool), eqT E f t sx sy = some b → ∀ u v, V w γ sx u → V w γ sy v → ∀ d, f ≤ d → (Op.equalIn d t u v).run E.P w = .ok b w
  | 0, t, sx, sy, b, h => by simp [eqT] at h
  | f + 1, t, sx, sy, b, h => by
    intro u v hu hv d hd
    obtain ⟨d, rfl⟩ : ∃ e, d = e + 1 := ⟨d - 1, by omega⟩
    simp only [eqT] at h
    split at h
    · rename_i hty
      simp only [V] at hu hv
      obtain ⟨rfl, _⟩ := hu
      obtain ⟨rfl, _⟩ := hv
      split at h
      · rename_i hk
        cases h
        subst hk
        exact run_equalIn_int w d t _ _ _ _ hty
      · cases h
    · rename_i hty
      simp only [V] at hu hv
      subst hu
      subst hv
      cases h
      exact run_equalIn_bool' w d t _ _ hty
    · rename_i hty
      simp only [V] at hu hv
      obtain ⟨rfl, h1⟩ := hu
      obtain ⟨rfl, h2⟩ := hv
      cases h
      rw [run_equalIn_string w d t _ _ hty, str_beq h1 h2]
    · rename_i cs ds fs hty
      simp only [V] at hu hv
      obtain ⟨us, rfl, h1, h1'⟩ := hu
      obtain ⟨vs, rfl, h2, h2'⟩ := hv
      split at h
      · cases h
      · rename_i hs
        have hf : E.P.fieldsOf t = fs := by unfold Program.fieldsOf; rw [hty]
        rw [run_equalIn_agg w d t _ _ (by rw [hf]; exact hty) (by simpa using hs), hf]
        exact eqFs_ok (fun t' sx' sy' b' h' u' v' hu' hv' => eqT_ok f t' sx' sy' b' h' u' v' hu' hv' d (by omega)) h1 h1' h2 h2' _ _ h
    · cases h

theorem xBin_ok {op : BinOp} {ty : Nat} {x y : Operand} {sx sy : SV} {a b : Value} (hm : Mem w0 R0 S0 γ ob w) (h1 : V w γ sx a) (h2 : V w γ sy b) (h : xBin E ty (isC x || isC y) op sx sy ob k = some r) :
    Done E w0 R0 S0 γ w (do eqGuard op ty x y a b; Go.binOp op ty a b) k r := by
  unfold xBin at h
  split at h
  · -- ints
    rename_i ka m kb n
    simp only [V] at h1 h2
    obtain ⟨rfl, h1⟩ := h1
    obtain ⟨rfl, h2⟩ := h2
    have hg : ∀ w, (eqGuard op ty x y (.int ka m) (.int kb n)).run E.P w = .ok () w := eqGuard_plain (by simp) (by simp)
    split at h
    · split at h
      · cases h
      · rename_i hn
        refine .same hm (u := .int ka (ka.wrap (m * 2 ^ (min n.toNat ka.bits)))) ?_ h (by simp only [V]; exact ⟨trivial, wrap_has _ _⟩)
        simp [hg, Go.binOp, Op.shift, hn]
    · split at h
      · cases h
      · rename_i hn
        refine .same hm (u := .int ka (m.fdiv (2 ^ (min n.toNat ka.bits)))) ?_ h (by simp only [V]; exact ⟨trivial, fdiv_has _ h1⟩)
        simp [hg, Go.binOp, Op.shift, hn]
    · split at h
      · rename_i hkk
        subst hkk
        split at h
        · cases h
        · rename_i hn
          refine .same hm (u := .int ka (ka.wrap (m.tdiv n))) ?_ h (by simp only [V]; exact ⟨trivial, wrap_has _ _⟩)
          simp [hg, Go.binOp, Op.intDiv, hn]
      · cases h
    · split at h
      · rename_i hkk
        subst hkk
        split at h
        · cases h
        · rename_i hn
          refine .same hm (u := .int ka (m.tmod n)) ?_ h (by simp only [V]; exact ⟨trivial, tmod_has h1⟩)
          simp [hg, Go.binOp, Op.intDiv, hn]
      · cases h
    · split at h
      · rename_i hkk
        subst hkk
        obtain ⟨v, hv, hk⟩ := ret1_some h
        obtain ⟨u, hu, hV⟩ := intBin_ok (E := E) (γ := γ) (ty := ty) hv w
        exact .same hm (by simp [hg, hu]) hk hV
      · cases h
  · -- texts
    rename_i s t
    simp only [V] at h1 h2
    obtain ⟨rfl, h1⟩ := h1
    obtain ⟨rfl, h2⟩ := h2
    have hg : ∀ w, (eqGuard op ty x y (.string (toBA s)) (.string (toBA t))).run E.P w = .ok () w := eqGuard_plain (by simp) (by simp)
    split at h
    · split at h
      · rename_i hl
        refine .same hm (u := .string (toBA (s ++ t))) ?_ h (by simp only [V]; exact ⟨trivial, strOK_append h1 h2 hl⟩)
        have hsz : ¬ (((toBA s).size + (toBA t).size : Nat) : Int) > IntKind.i64.max := by
          rw [toBA_size, toBA_size]
          have e1 : lim = 4294967296 := rfl
          have e2 : IntKind.i64.max = 9223372036854775807 := by decide
          rw [e2]
          omega
        rw [Sem.run_bind, hg]
        simp only [Result.andThen_ok, Go.binOp, Op.stringOp]
        rw [if_neg hsz, toBA_append]
        rfl
      · cases h
    · obtain ⟨v, hv, hk⟩ := ret1_some h
      have hb : (op = .eql ∧ v = .bool (s == t)) ∨ (op = .neq ∧ v = .bool (s != t)) := by
        unfold strBin at hv
        split at hv
        · left; exact ⟨rfl, (Option.some.inj hv).symm⟩
        · right; exact ⟨rfl, (Option.some.inj hv).symm⟩
        · cases hv
      rcases hb with ⟨rfl, rfl⟩ | ⟨rfl, rfl⟩
      · refine .same hm (u := .bool (s == t)) ?_ hk (by simp only [V])
        rw [Sem.run_bind, hg]
        simp only [Result.andThen_ok, Go.binOp, Op.stringOp, str_beq h1 h2]
        rfl
      · refine .same hm (u := .bool (s != t)) ?_ hk (by simp only [V])
        rw [Sem.run_bind, hg]
        simp only [Result.andThen_ok, Go.binOp, Op.stringOp, str_beq h1 h2]
        rfl
  · -- bools
    rename_i p q
    simp only [V] at h1 h2
    subst h1
    subst h2
    have hg : ∀ w, (eqGuard op ty x y (.bool p) (.bool q)).run E.P w = .ok () w := eqGuard_plain (by simp) (by simp)
    split at h
    · rename_i hti
      obtain ⟨i, d, z, a1, a2, a3, a4, a5, a6, a7, _⟩ := ti_spec hti
      have hd := mkTD_bool a7.symm
      subst hd
      have heq := eq_bool a2 p q w
      split at h
      · exact .same hm (u := .bool (p == q)) (by rw [Sem.run_bind, hg]; simp only [Result.andThen_ok, Go.binOp, Sem.run_bind, heq, Sem.run_pure]) h (by simp only [V])
      · exact .same hm (u := .bool (!(p == q))) (by rw [Sem.run_bind, hg]; simp only [Result.andThen_ok, Go.binOp, Sem.run_bind, heq, Sem.run_pure]) h (by simp only [V])
      · cases h
    · cases h
  · -- errors and nil
    rename_i p
    simp only [V, if_true] at h2
    subst h2
    split at h
    · rename_i hti hc
      obtain ⟨i, d, z, a1, a2, a3, a4, a5, a6, a7, _⟩ := ti_spec hti
      obtain ⟨ms, rfl⟩ := mkTD_iface a7.symm
      have hg : (eqGuard op ty x y a .nilIface).run E.P w = .ok () w := by
        cases p with
        | true =>
          simp only [V, if_true] at h1
          subst h1
          cases op <;> simp only [eqGuard, Bool.not_true, Bool.not_false, if_true, Bool.false_eq_true, if_false] <;> first
            | rfl
            | (cases x <;> cases y <;> first
                | rfl
                | (simp [isC] at hc))
        | false =>
          simp only [V, Bool.false_eq_true, if_false] at h1
          obtain ⟨t, v, rfl⟩ := h1
          exact eqGuard_plain (by simp) (by simp) w
      have heq : (Op.equal ty a .nilIface).run E.P w = .ok p w := by
        cases p with
        | true =>
          simp only [V, if_true] at h1
          subst h1
          exact eq_nil_nil a2 w
        | false =>
          simp only [V, Bool.false_eq_true, if_false] at h1
          obtain ⟨t, v, rfl⟩ := h1
          exact eq_iface_nil a2 t v w
      have ha : a = .nilIface ∨ ∃ t v, a = .iface t v := by
        cases p <;> simp [V] at h1
        · right; exact h1
        · left; exact h1
      split at h
      · refine .same hm (u := .bool p) ?_ h (by simp only [V])
        rcases ha with rfl | ⟨t, v, rfl⟩ <;> (rw [Sem.run_bind, hg]; simp only [Result.andThen_ok, Go.binOp, Sem.run_bind, heq, Sem.run_pure])
      · refine .same hm (u := .bool (!p)) ?_ h (by simp only [V])
        rcases ha with rfl | ⟨t, v, rfl⟩ <;> (rw [Sem.run_bind, hg]; simp only [Result.andThen_ok, Go.binOp, Sem.run_bind, heq, Sem.run_pure])
      · cases h
    · cases h
  · -- structs
    rename_i cs ds
    split at h
    · rename_i hgd
      split at h
      · rename_i q hq
        have heq : (Op.equalIn 10000 ty a b).run E.P w = .ok q w := eqT_ok 20 _ _ _ _ hq _ _ h1 h2 10000 (by omega)
        simp only [V] at h1 h2
        obtain ⟨us, rfl, _⟩ := h1
        obtain ⟨vs, rfl, _⟩ := h2
        have hg : (eqGuard op ty x y (.agg us.toArray) (.agg vs.toArray)).run E.P w = .ok () w := run_eqGuard_agg w op ty x y _ _ hgd
        split at h
        · exact .same hm (u := .bool q) (by rw [Sem.run_bind, hg]; simp only [Result.andThen_ok]; rw [run_eql_struct, heq]; rfl) h (by simp only [V])
        · exact .same hm (u := .bool (!q)) (by rw [Sem.run_bind, hg]; simp only [Result.andThen_ok]; rw [run_neq_struct, heq]; rfl) h (by simp only [V])
        · cases h
      · cases h
    · cases h
  · -- pointers and nil
    simp only [V] at h2
    subst h2
    split at h
    · rename_i hn hti
      obtain ⟨i, d, z, a1, a2, a3, a4, a5, a6, a7, _⟩ := ti_spec hti
      have hd := mkTD_ptr a7.symm
      subst hd
      rcases nilOf_ok h1 hn with ⟨rfl, rfl⟩ | ⟨rfl, q, rfl⟩
      · have hg : (eqGuard op ty x y (.pointer none) (.pointer none)).run E.P w = .ok () w := eqGuard_plain (by simp) (by simp) w
        have heq : (Op.equal ty (.pointer none) (.pointer none)).run E.P w = .ok true w := eq_ptr_nil a2 none w
        split at h
        · exact .same hm (u := .bool true) (by rw [Sem.run_bind, hg]; simp only [Result.andThen_ok, Go.binOp, Sem.run_bind, heq, Sem.run_pure]) h (by simp only [V])
        · exact .same hm (u := .bool (!true)) (by rw [Sem.run_bind, hg]; simp only [Result.andThen_ok, Go.binOp, Sem.run_bind, heq, Sem.run_pure]) h (by simp only [V])
        · cases h
      · have hg : (eqGuard op ty x y (.pointer (some q)) (.pointer none)).run E.P w = .ok () w := eqGuard_plain (by simp) (by simp) w
        have heq : (Op.equal ty (.pointer (some q)) (.pointer none)).run E.P w = .ok false w := eq_ptr_nil a2 (some q) w
        split at h
        · exact .same hm (u := .bool false) (by rw [Sem.run_bind, hg]; simp only [Result.andThen_ok, Go.binOp, Sem.run_bind, heq, Sem.run_pure]) h (by simp only [V])
        · exact .same hm (u := .bool (!false)) (by rw [Sem.run_bind, hg]; simp only [Result.andThen_ok, Go.binOp, Sem.run_bind, heq, Sem.run_pure]) h (by simp only [V])
        · cases h
    · cases h
  · cases h


end
end Go.Vm
