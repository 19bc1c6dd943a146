/-
  The code: branches, loops.
-/
import Derived.Test.YtannkglddbaalaaDoorVmDraw4
import Derived.Scope
set_option linter.unusedSimpArgs false
set_option linter.unusedVariables false
namespace Go.Vm

section
variable {E : Env} {w0 : World} {R0 S0 : Nat → Nat → Prop} {β0 : Nat → Option Loc} {kp : List Nat} {N : Nat}

theorem Ok.mono {R R' : Type} {k : Xt → St → Option R} {r : R} {k' : Xt → St → Option R'} {r' : R'} (h : ∀ x σ, k x σ = some r → k' x σ = some r') {e : Exit} {a : Act} {w : World} (ho : Ok w0 R0 S0 β0 kp N k r e a w) :
    Ok w0 R0 S0 β0 kp N k' r' e a w := by
  obtain ⟨x, σ, γ, h1, h2, h3⟩ := ho
  exact ⟨x, σ, γ, h1, h2, h _ _ h3⟩

theorem cutting_ok {R : Type} {r : R} {h : H} {body : H → (R' : Type) → (Xt → St → Option R') → Option R'} {k : Xt → St → Option R} {c : Code} {a : Act} {w : World}
    (hbody : ∀ (h : H) (R' : Type) (k' : Xt → St → Option R') (r' : R'), body h R' k' = some r' → c.wp E.P (Ok w0 R0 S0 β0 kp N k' r') a w)
    (hc : cutting kp N h body k = some r) : c.wp E.P (Ok w0 R0 S0 β0 kp N k r) a w := by
  have hother : body h R k = some r → c.wp E.P (Ok w0 R0 S0 β0 kp N k r) a w := hbody h R k r
  cases h with
  | cut t h =>
    simp only [cutting] at hc
    obtain ⟨x, h1, h2⟩ := Option.bind_eq_some_iff.1 hc
    refine wp_mono (hbody _ _ _ _ h1) ?_
    rintro e a w ⟨x', σ, γ, h3, h4, h5⟩
    cases x' with
    | normal =>
      obtain ⟨γ2, h6⟩ := matK_ok h4 h5
      exact ⟨.normal, _, γ2, h3, h6, h2⟩
    | exit j => cases h5
    | ret => cases h5
  | cutx t h =>
    simp only [cutting] at hc
    obtain ⟨x, h1, h2⟩ := Option.bind_eq_some_iff.1 hc
    refine wp_mono (hbody _ _ _ _ h1) ?_
    rintro e a w ⟨x', σ, γ, h3, h4, h5⟩
    cases x' with
    | normal =>
      simp only [Option.map_eq_some_iff] at h5
      obtain ⟨y, h5, rfl⟩ := h5
      obtain ⟨γ2, h6⟩ := matK_ok h4 h5
      exact ⟨.normal, _, γ2, h3, h6, h2⟩
    | exit j =>
      simp only [Option.map_eq_some_iff] at h5
      obtain ⟨y, h5, rfl⟩ := h5
      cases h2
      exact ⟨.exit j, σ, γ, h3, h4, h5⟩
    | ret =>
      simp only [Option.map_eq_some_iff] at h5
      obtain ⟨y, h5, rfl⟩ := h5
      cases h2
      exact ⟨.ret, σ, γ, h3, h4, h5⟩
  | cutr t h =>
    simp only [cutting] at hc
    obtain ⟨x, h1, h2⟩ := Option.bind_eq_some_iff.1 hc
    refine wp_mono (hbody _ _ _ _ h1) ?_
    rintro e a w ⟨x', σ, γ, h3, h4, h5⟩
    cases x' with
    | normal =>
      simp only [Option.map_eq_some_iff] at h5
      obtain ⟨y, h5, rfl⟩ := h5
      obtain ⟨γ2, h6⟩ := matK_ok h4 h5
      exact ⟨.normal, _, γ2, h3, h6, h2⟩
    | exit j => cases h5
    | ret =>
      simp only [Option.map_eq_some_iff] at h5
      obtain ⟨y, h5, rfl⟩ := h5
      cases h2
      exact ⟨.ret, σ, γ, h3, h4, h5⟩
  | _ => exact hother hc

theorem loop_ok {R : Type} {r : R} {t : Tm} {c : Code} {k : Xt → St → Option R} {body : St → (Xt → St → Option R) → Option R}
    (hbody : ∀ (σ : St) (k' : Xt → St → Option R) (γ : Gh) (a : Act) (w : World), Sim w0 R0 S0 β0 kp N σ γ a w → body σ k' = some r → c.wp E.P (Ok w0 R0 S0 β0 kp N k' r) a w)
    (b : Frame) (ks : List Item) (cs : List Frame) : ∀ (f : Nat) (x : t.T) (γ : Gh) (a : Act) (w : World), Sim w0 R0 S0 β0 kp N (t.build N x) γ a w → loopF kp t N body k f x = some r →
      ∃ e a' w', Ok w0 R0 S0 β0 kp N k r e a' w' ∧ Arrives E.P (lone (b.at a (.code c :: .inLoop c :: ks)) cs w) b ks cs e a' w'
  | 0, x, γ, a, w, hs, h => by simp [loopF] at h
  | f + 1, x, γ, a, w, hs, h => by
    simp only [loopF] at h
    obtain ⟨e, a1, w1, ⟨x', σ, γ', he, hs', hk⟩, harr⟩ := hbody _ _ _ _ _ hs h b (.inLoop c :: ks) cs
    cases x' with
    | normal =>
      simp only at hk
      split at hk
      · rename_i y hy
        obtain ⟨γ2, h6⟩ := matK_ok hs' hy
        obtain ⟨e2, a2, w2, hq2, harr2⟩ := loop_ok hbody b ks cs f y γ2 a1 w1 h6 hk
        subst he
        exact ⟨e2, a2, w2, hq2, .of_steps (Steps.trans harr (.one step_inLoop)) harr2⟩
      · cases hk
    | exit j =>
      subst he
      exact ⟨.exit j, a1, w1, ⟨.exit j, σ, γ', rfl, hs', hk⟩, .pass (x := .inLoop c) rfl (fun _ _ => .inl (by simp)) harr⟩
    | ret =>
      subst he
      exact ⟨.ret, a1, w1, ⟨.ret, σ, γ', rfl, hs', hk⟩, .pass (x := .inLoop c) rfl (fun _ _ => .inl (by simp)) harr⟩

/-- THE CODE DOES WHAT THE MACHINE SAYS. -/
theorem evalCode_ok {gl : List (Nat × Obj)} (hsat : Sats E gl w0 R0 S0) : ∀ (c : Code) {h : H} {R : Type} {σ : St} {k : Xt → St → Option R} {r : R} {γ : Gh} {a : Act} {w : World},
    Sim w0 R0 S0 β0 kp N σ γ a w → evalCode E kp N c h σ k = some r → c.wp E.P (Ok w0 R0 S0 β0 kp N k r) a w := by
  intro c
  induction c with
  | skip => intro h R σ k r γ a w hs he; simp only [evalCode] at he; exact wp_skip ⟨.normal, σ, γ, rfl, hs, he⟩
  | label l => intro h R σ k r γ a w hs he; simp only [evalCode] at he; exact wp_label ⟨.normal, σ, γ, rfl, hs, he⟩
  | exit id => intro h R σ k r γ a w hs he; simp only [evalCode] at he; exact wp_exit ⟨.exit id, σ, γ, rfl, hs, he⟩
  | ret => intro h R σ k r γ a w hs he; simp only [evalCode] at he; exact wp_ret ⟨.ret, σ, γ, rfl, hs, he⟩
  | region id ops draw =>
    intro h R σ k r γ a w hs he
    simp only [evalCode] at he
    refine cutting_ok (fun h' R' k' r' hb => ?_) he
    cases draw with
    | true =>
      simp only [if_true] at hb
      split at hb
      · rename_i hc
        simp only [Bool.and_eq_true] at hc
        exact draw_ok hsat hs hc.1 hc.2 hb
      · cases hb
    | false =>
      simp only [Bool.false_eq_true, if_false] at hb
      exact wp_region (evalOps_ok hsat _ hs hb)
  | seq x y ihx ihy =>
    intro h R σ k r γ a w hs he
    simp only [evalCode] at he
    refine cutting_ok (fun h' R' k' r' hb => wp_seq (wp_mono (ihx hs hb) ?_)) he
    rintro e a1 w1 ⟨x', σ', γ', rfl, hs', hk⟩
    cases x' with
    | normal => exact ihy hs' hk
    | exit j => exact ⟨.exit j, σ', γ', rfl, hs', hk⟩
    | ret => exact ⟨.ret, σ', γ', rfl, hs', hk⟩
  | cond c x y ihx ihy =>
    intro h R σ k r γ a w hs he
    simp only [evalCode] at he
    refine cutting_ok (fun h' R' k' r' hb => ?_) he
    have hv := opd_ok hs.sl c
    split at hb
    · rename_i t ht
      rw [ht] at hv
      simp only [V] at hv
      refine wp_cond hv ?_
      cases t with
      | true => exact ihx hs hb
      | false => exact ihy hs hb
    · cases hb
  | scope c ih =>
    intro h R σ k r γ a w hs he
    simp only [evalCode] at he
    refine cutting_ok (fun h' R' k' r' hb => wp_scope_straight (wp_mono (ih hs hb) ?_)) he
    rintro e a1 w1 ⟨x', σ', γ', rfl, hs', hk⟩
    cases x' <;> exact ⟨_, σ', γ', rfl, hs', hk⟩
  | block id c ih =>
    intro h R σ k r γ a w hs he
    simp only [evalCode] at he
    refine cutting_ok (fun h' R' k' r' hb => wp_block (wp_mono (ih hs hb) ?_)) he
    rintro e a1 w1 ⟨x', σ', γ', rfl, hs', hk⟩
    cases x' with
    | normal => exact ⟨.normal, σ', γ', rfl, hs', hk⟩
    | exit j =>
      simp only [Xt.ex, Exit.inBlock]
      simp only at hk
      split
      · rename_i e
        rw [if_pos e] at hk
        exact ⟨.normal, σ', γ', rfl, hs', hk⟩
      · rename_i e
        rw [if_neg e] at hk
        exact ⟨.exit j, σ', γ', rfl, hs', hk⟩
    | ret => exact ⟨.ret, σ', γ', rfl, hs', hk⟩
  | loop c ih =>
    intro h R σ k r γ a w hs he
    simp only [evalCode] at he
    split at he
    · rename_i t h'
      split at he
      · rename_i x hx
        obtain ⟨γ2, h6⟩ := matK_ok hs hx
        intro b ks cs
        obtain ⟨e, a', w', hq, harr⟩ := loop_ok (c := c) (fun σ k' γ a w hs hb => ih hs hb) b ks cs E.fuel x γ2 a w h6 he
        exact ⟨e, a', w', hq, .of_steps (.one step_loop) harr⟩
      · cases he
    · cases he
  | _ => intros; rename_i he; simp [evalCode] at he

end
end Go.Vm
