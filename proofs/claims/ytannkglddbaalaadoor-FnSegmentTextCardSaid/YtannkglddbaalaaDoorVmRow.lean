/-
  A row's call, by a contract.
-/
import Derived.Test.YtannkglddbaalaaDoorVmUse
import Derived.RowKit3
set_option linter.unusedSimpArgs false
set_option linter.unusedVariables false
namespace Go.Vm

theorem kept_of_ev {R : Nat → Nat → Prop} {w w' : World} (hR : ∀ b i, ¬ R b i) (h : Ev R w w') (may : MemPlace → Prop) : w.keptBut w' may := by
  refine ⟨h.os, h.output, fun i hi => ?_⟩
  obtain ⟨x, hx⟩ : ∃ x, w.heap[i]? = some x := ⟨w.heap[i], by simp [hi]⟩
  obtain ⟨y, hy, ho⟩ := h.blk i x hx
  rw [hx, hy]
  rcases ho with ho | rfl | ⟨c, c', t, fz, rfl, rfl, h1, h2⟩
  · exact absurd (ho 0) (hR i 0)
  · cases x <;> simp
  · exact ⟨rfl, rfl, h1, fun j _ => h2 j (hR i j)⟩

/-- a call of a function that is given nothing that can be written -/
theorem call_plain {P : Program} {gl : List (Nat × Obj)} {f : Nat} {c : Con} (hs : Sat P gl f c) (h0 : c.tin.ob = []) {fuel : Nat} {x : c.tin.T} {y : c.res.T × ObTs c.out} (hg : c.g fuel x = some y)
    {W : World} {args : Array Value} {S : Nat → Nat → Prop} (hS : ∀ b i, S b i → b < W.heap.size) (hgl : ∀ p ∈ gl, W.heap[p.1]? = some p.2 ∧ ∀ i, S p.1 i) (hn : args.size = c.tin.ar)
    (ha : ∀ base : List SV, (∀ i, base.getD i .undef = .undef) → ∀ i, V W ⟨fun _ _ => none, S⟩ ((buildSl base c.tin.sl x.1).getD i .undef) (args.getD i undef)) :
    Calls P f args W fun e w' => ∃ v γ', e = .returned v ∧ V w' γ' (c.res.build y.1) v ∧ ∀ may, W.keptBut w' may := by
  have hob : ∀ z, buildObs c.tin.ob z = [] := by rw [h0]; intro z; rfl
  have hR : ∀ b i, ¬ RGs ⟨fun _ _ => none, S⟩ (buildObs c.tin.ob x.2) b i := by
    rintro b i ⟨n, ent, l, hg, _⟩
    rw [hob] at hg; cases hg
  refine (hs.2 fuel x y hg W args ⟨fun _ _ => none, S⟩ hgl hn ha ?_).mono fun e w' ⟨v, γ', h1, h2, h3, _⟩ => ⟨v, γ', h1, h2, fun may => kept_of_ev hR h3.ev may⟩
  have hn' : ∀ n, get (buildObs c.tin.ob x.2) n = none := by intro n; rw [hob]; rfl
  have hRG : ∀ n b i, ¬ RG ⟨fun _ _ => none, S⟩ (buildObs c.tin.ob x.2) n b i := fun n b i h => hR b i ⟨n, h⟩
  exact { objs := fun n ent h => by rw [hn'] at h; cases h
          top := fun _ _ _ => rfl
          disj := fun n m _ b i h => absurd h (hRG n b i)
          stab := fun n b i h => absurd h (hRG n b i)
          live := fun n b i h => absurd h (hRG n b i)
          sex := hS
          sb := fun b i h => .inl h
          ev := Ev.refl _ _ }

theorem block_of_cell {w : World} {b : Nat} {v : Value} (h : w.cell? ⟨b, 0, none⟩ = some v) : ∃ cs t fz, w.heap[b]? = some (.cells cs t fz) ∧ cs[0]? = some v := by
  unfold World.cell? at h
  simp only at h
  cases hx : w.heap[b]? with
  | none => rw [hx] at h; simp at h
  | some o =>
    rw [hx] at h
    cases o with
    | cells cs t fz => exact ⟨cs, t, fz, rfl, by simpa using h⟩
    | _ => simp at h

theorem block_of_var {P : Program} {w : World} {n : String} {g : Nat} {cs : Array Value} (hg : P.globalNamed n = some g) (h : w.var? P n = some cs) : ∃ t fz, w.heap[g]? = some (.cells cs t fz) := by
  unfold World.var? at h
  rw [hg, Option.bind_some] at h
  cases hx : w.heap[g]? with
  | none => rw [hx] at h; simp at h
  | some o =>
    rw [hx] at h
    cases o with
    | cells cs' t fz =>
      simp at h
      subst h
      exact ⟨t, fz, rfl⟩
    | _ => simp at h


theorem one_arg {w : World} {γ : Gh} {c : SV} {v : Value} {base : List SV} (hb : ∀ i, base.getD i .undef = .undef) (hv : V w γ c v) (i : Nat) : V w γ ((setAt base 0 c).getD i .undef) (#[v].getD i undef) := by
  by_cases e : 0 = i
  · subst e
    by_cases hi : 0 < base.length
    · simpa [setAt, List.getD, List.getElem?_set_self hi] using hv
    · simp only [setAt, List.getD]
      rw [List.getElem?_eq_none (by rw [List.length_set]; omega)]
      simp only [Option.getD, V]
  · have := hb i
    simp only [setAt, List.getD, List.getElem?_set_ne e] at this ⊢
    rw [this]
    simp only [V]

end Go.Vm
