/-
  The code: regions, branches, loops.
-/
import Derived.Test.YtannkglddbaalaaDoorVmOp
set_option linter.unusedSimpArgs false
set_option linter.unusedVariables false
namespace Go.Vm

/-- where a function's walk stands -/
structure Sim (w0 : World) (R0 S0 : Nat → Nat → Prop) (β0 : Nat → Option Loc) (kp : List Nat) (N : Nat) (σ : St) (γ : Gh) (a : Act) (w : World) : Prop where
  sl : Sl w γ σ.sl a
  mem : Mem w0 R0 S0 γ σ.ob w
  nd : a.defers = []
  size : N ≤ a.tmps.size
  keep : ∀ m, m ∈ kp → ∃ l, β0 m = some l ∧ γ.β m 0 = some l
  S : ∀ b i, S0 b i → γ.S b i

def Xt.ex : Xt → Exit
  | .normal => .normal
  | .exit j => .exit j
  | .ret => .ret

section
variable {E : Env} {w0 : World} {R0 S0 : Nat → Nat → Prop} {β0 : Nat → Option Loc} {kp : List Nat} {N : Nat}

/-- the walk goes on to r -/
def Ok {R : Type} (w0 : World) (R0 S0 : Nat → Nat → Prop) (β0 : Nat → Option Loc) (kp : List Nat) (N : Nat) (k : Xt → St → Option R) (r : R) : Exit → Act → World → Prop :=
  fun e a w => ∃ x σ γ, e = x.ex ∧ Sim w0 R0 S0 β0 kp N σ γ a w ∧ k x σ = some r

theorem put_size (a : Act) (d : Option Nat) (v : Value) : (a.put d v).tmps.size = a.tmps.size := by
  cases d <;> simp [Act.put]

theorem put_defers (a : Act) (d : Option Nat) (v : Value) : (a.put d v).defers = a.defers := by
  cases d <;> simp [Act.put]

theorem Sim.put {σ : St} {γ γ' : Gh} {a : Act} {w w' : World} (h : Sim w0 R0 S0 β0 kp N σ γ a w) {sl : List SV} (hs : Sl w γ sl a) {v : SV} {u : Value} {ob' : Obs} (d : Option Nat)
    (hv : V w' γ' v u) (hm : Mem w0 R0 S0 γ' ob' w') (hle : Le γ w γ' w') : Sim w0 R0 S0 β0 kp N ⟨putD sl d v, ob'⟩ γ' (a.put d u) w' :=
  ⟨(hs.mono hle).put d hv, hm, by rw [put_defers]; exact h.nd, by rw [put_size]; exact h.size, fun m hk => by obtain ⟨l, h1, h2⟩ := h.keep m hk; exact ⟨l, h1, hle.β _ _ _ h2⟩, fun b i x => hle.S b i (h.S b i x)⟩

theorem Sim.skip {σ : St} {γ : Gh} {a : Act} {w : World} (h : Sim w0 R0 S0 β0 kp N σ γ a w) {sl : List SV} (hs : Sl w γ sl a) (d : Option Nat) : Sim w0 R0 S0 β0 kp N ⟨putD sl d .skip, σ.ob⟩ γ (a.put d undef) w :=
  h.put hs d (by simp only [V]) h.mem (Le.refl _ _)

theorem yielded_skip {ops : Array Oper} {tmps : Array Value} {j g : Nat} (hg : (ops[j]?).bind (·.dst) = some g) (hv : tmps.getD g undef = undef) : yielded ops tmps j = none := by
  simp only [yielded, hg, Option.bind_some]
  rw [Array.getD_eq_getD_getElem?] at hv
  cases h : tmps[g]? with
  | none => rfl
  | some v =>
    rw [h] at hv
    simp only [Option.getD] at hv
    subst hv
    rfl

theorem yielded_ok {ops : Array Oper} {tmps : Array Value} {j g : Nat} {b : Bool} (hg : (ops[j]?).bind (·.dst) = some g) (hv : tmps[g]? = some (.bool b)) : yielded ops tmps j = some b := by
  simp only [yielded, hg, Option.bind_some, hv]

theorem Sl.refine {w : World} {γ : Gh} {sl : List SV} {a : Act} (h : Sl w γ sl a) {g : Nat} {v : SV} (hv : V w γ v (a.tmps.getD g undef)) : Sl w γ (setAt sl g v) a := by
  refine ⟨by simp only [setAt, List.length_set]; exact h.1, fun i => ?_⟩
  by_cases e : g = i
  · subst e
    by_cases hi : g < sl.length
    · simpa [setAt, List.getD, List.getElem?_set_self hi] using hv
    · simp only [setAt, List.getD]
      rw [List.getElem?_eq_none (by simp; omega)]
      simp only [Option.getD, V]
  · simp only [setAt, List.getD, List.getElem?_set_ne e]
    exact h.2 i

theorem tmp_some {w : World} {γ : Gh} {sl : List SV} {a : Act} (h : Sl w γ sl a) {g : Nat} {b : Bool} (hb : sl.getD g .undef = .bool b) : a.tmps[g]? = some (.bool b) := by
  have := h.2 g
  rw [hb] at this
  simp only [V] at this
  have hi : g < sl.length := by
    rcases Nat.lt_or_ge g sl.length with h1 | h1
    · exact h1
    · simp [List.getD, List.getElem?_eq_none h1] at hb
  have hi' : g < a.tmps.size := Nat.lt_of_lt_of_le hi h.1
  simp only [Array.getD, hi', dif_pos] at this
  rw [Array.getElem?_eq_getElem hi']
  exact congrArg some this

theorem evalOps_ok {R : Type} {r : R} {gl : List (Nat × Obj)} (hsat : Sats E gl w0 R0 S0) {ops : Array Oper} {k : Xt → St → Option R} : ∀ (l : List Nat) {σ : St} {γ : Gh} {a : Act} {w : World},
    Sim w0 R0 S0 β0 kp N σ γ a w → evalOps E ops l σ (k .normal) = some r → wpOps E.P ops (Ok w0 R0 S0 β0 kp N k r) l a w
  | [], σ, γ, a, w, hs, h => ⟨.normal, σ, γ, rfl, hs, h⟩
  | i :: rest, σ, γ, a, w, hs, h => by
    simp only [evalOps] at h
    unfold evalOp at h
    simp only [wpOps]
    split at h
    · cases h
    · rename_i o ho
      simp only [ho]
      split at h
      · rename_i hg
        have hw : Region.wanted o (yielded ops a.tmps) = true := by simp [Region.wanted, hg]
        simp only [hw, if_true]
        refine .inl (exec_ok hsat hs.S hs.mem hs.sl h fun v ob' u w' γ' h1 h2 h3 h4 => ?_)
        exact evalOps_ok hsat rest (hs.put hs.sl o.dst h2 h3 h4) h1
      · rename_i j want hg
        split at h
        · cases h
        · rename_i g hd
          split at h
          · rename_i b hb
            have ht := tmp_some hs.sl hb
            have hy := yielded_ok hd ht
            have hslv : ∀ c, c = b → Sl w γ (setAt σ.sl g (.bool c)) a := by
              rintro c rfl
              refine hs.sl.refine ?_
              simp only [V, Array.getD_eq_getD_getElem?, ht, Option.getD]
            have hrun : ∀ c, c = b → want = c → exec E (o.dst.getD 0) o.op (opd (setAt σ.sl g (.bool c))) σ.ob (fun v ob => evalOps E ops rest ⟨putD (setAt σ.sl g (.bool c)) o.dst v, ob⟩ (k .normal)) = some r →
                if Region.wanted o (yielded ops a.tmps) = true then o.wp E.P a w (wpOps E.P ops (Ok w0 R0 S0 β0 kp N k r) rest) (Ok w0 R0 S0 β0 kp N k r) ∨ (o.asks E.P a w ∧ LetsOut (Ok w0 R0 S0 β0 kp N k r)) else wpOps E.P ops (Ok w0 R0 S0 β0 kp N k r) rest (a.put o.dst undef) w := by
              intro c hc hwc h
              have hw : Region.wanted o (yielded ops a.tmps) = true := by simp [Region.wanted, hg, hy, hwc, hc]
              rw [if_pos hw]
              refine .inl (exec_ok hsat hs.S hs.mem (hslv c hc) h fun v ob' u w' γ' h1 h2 h3 h4 => ?_)
              exact evalOps_ok hsat rest (hs.put (hslv c hc) o.dst h2 h3 h4) h1
            have hskip : ∀ c, c = b → want ≠ c → evalOps E ops rest ⟨putD (setAt σ.sl g (.bool c)) o.dst .skip, σ.ob⟩ (k .normal) = some r →
                if Region.wanted o (yielded ops a.tmps) = true then o.wp E.P a w (wpOps E.P ops (Ok w0 R0 S0 β0 kp N k r) rest) (Ok w0 R0 S0 β0 kp N k r) ∨ (o.asks E.P a w ∧ LetsOut (Ok w0 R0 S0 β0 kp N k r)) else wpOps E.P ops (Ok w0 R0 S0 β0 kp N k r) rest (a.put o.dst undef) w := by
              intro c hc hwc h
              have hw : ¬ Region.wanted o (yielded ops a.tmps) = true := by
                simp only [Region.wanted, hg, hy, beq_iff_eq, Option.some.injEq]
                intro hh
                exact hwc (by rw [hc, ← hh])
              rw [if_neg hw]
              exact evalOps_ok hsat rest (hs.skip (hslv c hc) o.dst) h
            split at h
            · rename_i hbt
              split at h
              · rename_i hwt
                exact hrun true hbt.symm hwt h
              · rename_i hwt
                exact hskip true hbt.symm hwt h
            · rename_i hbt
              have hbf : b = false := by simpa using hbt
              split at h
              · rename_i hwt
                exact hskip false hbf.symm (by rw [hwt]; simp) h
              · rename_i hwt
                exact hrun false hbf.symm (by simpa using hwt) h
          · rename_i hb
            have hv := hs.sl.2 g
            rw [hb] at hv
            simp only [V] at hv
            have hw : ¬ Region.wanted o (yielded ops a.tmps) = true := by
              simp [Region.wanted, hg, yielded_skip hd hv]
            simp only [hw]
            exact evalOps_ok hsat rest (hs.skip hs.sl o.dst) h
          · cases h

/-! #### Cuts -/
theorem buildSl_len : ∀ {t : List (Nat × Lf)} {x : Lf.Ss t} {base : List SV}, (buildSl base t x).length = base.length
  | [], _, _ => rfl
  | (i, l) :: r, x, base => by simp only [buildSl, setAt, List.length_set]; exact buildSl_len

theorem getD_undef (n i : Nat) : (List.replicate n SV.undef).getD i .undef = .undef := by
  simp only [List.getD, List.getElem?_replicate]
  split <;> rfl

theorem matK_ok {t : Tm} {σ : St} {γ : Gh} {a : Act} {w : World} {x : t.T} (hs : Sim w0 R0 S0 β0 kp N σ γ a w) (h : t.matK kp σ = some x) :
    ∃ γ2, Sim w0 R0 S0 β0 kp N (t.build N x) γ2 a w := by
  unfold Tm.matK at h
  split at h
  · rename_i x ms hx
    split at h
    · rename_i hk
      cases h
      obtain ⟨γ2, hM, hv⟩ := Tm.mat_ok hs.mem (vals := fun i => a.tmps.getD i undef) hs.sl.2 hx
      refine ⟨γ2, ⟨by simp only [Tm.build, buildSl_len, List.length_replicate]; exact hs.size, fun i => hv _ (getD_undef N) i⟩, hM.mem hs.mem, hs.nd, hs.size, fun m hm => ?_, fun b i h0 => ?_⟩
      · obtain ⟨l, h1, h2⟩ := hs.keep m hm
        have := List.all_eq_true.1 hk m hm
        split at this
        · rename_i n g off hl
          simp only [Bool.and_eq_true, beq_iff_eq] at this
          obtain ⟨⟨rfl, rfl⟩, rfl⟩ := this
          refine ⟨l, h1, ?_⟩
          rw [hM.β]
          have hin : (look t.ob n).isSome = true := hM.keys _ _ hl
          simp only [gmap, hin, hl, h2, Option.map]
          cases l <;> simp [Loc.shift]
        · cases this
      · rw [hM.S]
        exact .inl (hs.S b i h0)
    · cases h
  · cases h

end
end Go.Vm
