/-
  A function.
-/
import Derived.Test.YtannkglddbaalaaDoorVmCode2
set_option linter.unusedSimpArgs false
set_option linter.unusedVariables false
namespace Go.Vm

section
variable {E : Env} {w0 : World} {R0 S0 : Nat → Nat → Prop} {β0 : Nat → Option Loc} {kp : List Nat} {N : Nat}

theorem loadBox_ok {σ : St} {γ : Gh} {a : Act} {w : World} (hs : Sl w γ σ.sl a) (hm : Mem w0 R0 S0 γ σ.ob w) {b t : Nat} {v : SV} (h : loadBox E σ b t = some v) :
    ∃ u, V w γ v u ∧ (do loadVar t (← asAddr (a.tmps.getD b undef)) : Sem Value).run E.P w = .ok u w := by
  unfold loadBox at h
  split at h
  · rename_i n g off hp
    split at h
    · rename_i ti g' cs hti hg
      split at h
      · rename_i e
        subst e
        have h1 := hs.2 b
        rw [hp] at h1
        simp only [V] at h1
        obtain ⟨bb, o, hb, hv⟩ := h1
        obtain ⟨l, h2, h3⟩ := hm.objs n _ hg
        simp only at h2
        rw [hb] at h2
        cases h2
        obtain ⟨b', o', e, vs, h4, h5, h6, h7⟩ := h3
        cases e
        obtain ⟨u, h8, h9⟩ := loadVar_ok hti ((h4.drop off).take ti.cells) (fun v hv => h5 v (List.mem_of_mem_drop (List.mem_of_mem_take hv))) (rangeAt_take (rangeAt_drop h6 off) _) h
        refine ⟨u, h9, ?_⟩
        rw [hv]
        simp only [asAddr, Sem.run_bind, Sem.run_pure, Result.andThen_ok]
        exact h8
      · cases h
    · cases h
  · cases h

theorem resVals_ok {σ : St} {γ : Gh} {a : Act} {w : World} (hs : Sl w γ σ.sl a) (hm : Mem w0 R0 S0 γ σ.ob w) {F : ResultVar → Sem Value} (hF : ∀ t, F (.tmp t) = pure (a.tmps.getD t undef)) (hF2 : ∀ b t, F (.cell b t) = (do loadVar t (← asAddr (a.tmps.getD b undef)))) : ∀ {rs : List ResultVar} {vs : List SV}, resVals E σ rs = some vs →
    ∃ us, VL w γ vs us ∧ (List.mapM (m := Sem) F rs).run E.P w = .ok us w
  | [], vs, h => by
    simp only [resVals] at h
    cases h
    exact ⟨[], by simp only [VL], by simp [Sem.run_pure]⟩
  | .tmp t :: r, vs, h => by
    simp only [resVals] at h
    split at h
    · rename_i vs' hv
      cases h
      obtain ⟨us, h1, h2⟩ := resVals_ok hs hm hF hF2 hv
      refine ⟨a.tmps.getD t undef :: us, by simp only [VL]; exact ⟨hs.2 t, h1⟩, ?_⟩
      simp only [List.mapM_cons, Sem.run_bind, hF, Sem.run_pure, Result.andThen_ok, h2]
    · cases h
  | .cell b t :: r, vs, h => by
    simp only [resVals] at h
    split at h
    · rename_i vs' v hv hv2
      cases h
      obtain ⟨us, h1, h2⟩ := resVals_ok hs hm hF hF2 hv
      obtain ⟨u, h3, h4⟩ := loadBox_ok hs hm hv2
      refine ⟨u :: us, by simp only [VL]; exact ⟨h3, h1⟩, ?_⟩
      simp only [List.mapM_cons, Sem.run_bind, Sem.run_pure, hF2]
      rw [Sem.run_bind] at h4
      rw [h4]
      simp only [Result.andThen_ok, h2]
    · cases h

theorem res1_ok {w : World} {γ : Gh} {vs : List SV} {us : List Value} (h : VL w γ vs us) : V w γ (res1 vs) (if h : us.toArray.size = 1 then us.toArray[0] else .tuple us.toArray) := by
  have hl := h.len
  match vs, us, h, hl with
  | [], [], _, _ => simp [res1, V, VL]
  | [v], [u], h, _ => simp only [VL] at h; simpa [res1] using h.1
  | v :: v' :: vs, u :: u' :: us, h, _ =>
    simp only [List.size_toArray, List.length_cons]
    rw [dif_neg (by omega)]
    simp only [res1, V]
    exact ⟨_, rfl, h⟩

theorem results_ok {fn : Func} {σ : St} {γ : Gh} {a : Act} {w : World} (hs : Sl w γ σ.sl a) (hm : Mem w0 R0 S0 γ σ.ob w) {vs : List SV} (h : resVals E σ fn.results.toList = some vs) :
    ∃ u, (results fn a.tmps).run E.P w = .ok u w ∧ V w γ (res1 vs) u := by
  have key : ∀ F : ResultVar → Sem Value, (∀ t, F (.tmp t) = pure (a.tmps.getD t undef)) → (∀ b t, F (.cell b t) = (do loadVar t (← asAddr (a.tmps.getD b undef)))) → ∃ u, (do
      let vs ← fn.results.mapM F
      pure (if h : vs.size = 1 then vs[0] else .tuple vs) : Sem Value).run E.P w = .ok u w ∧ V w γ (res1 vs) u := by
    intro F hF hF2
    obtain ⟨us, h1, h2⟩ := resVals_ok hs hm hF hF2 h
    refine ⟨_, ?_, res1_ok h1⟩
    rw [Array.mapM_eq_mapM_toList]
    simp only [Sem.run_bind, bind_pure_comp, Sem.run_map, h2, Result.andThen_ok, Sem.run_pure]
  exact key _ (fun _ => rfl) (fun _ _ => rfl)

theorem buildObs_g0 : ∀ {l : List (Nat × ObT)} {x : ObTs l} {m : Nat} {ent : Ent}, get (buildObs l x) m = some ent → ent.g = 0
  | [], _, m, ent, h => by simp [buildObs, get] at h
  | (k, o) :: r, x, m, ent, h => by
    simp only [buildObs, get_upd] at h
    split at h
    · cases h; rfl
    · exact buildObs_g0 h

theorem buildObs_box : ∀ {l : List (Nat × ObT)} {x : ObTs l} {m : Nat} {ls : List Lf}, look l m = some (.box ls) → ∃ cs, get (buildObs l x) m = some ⟨0, .box cs⟩
  | [], _, m, ls, h => by simp [look] at h
  | (k, o) :: r, x, m, ls, h => by
    simp only [buildObs, get_upd]
    simp only [look] at h
    split at h
    · rename_i e
      cases h
      rw [if_pos e]
      exact ⟨_, rfl⟩
    · rename_i e
      rw [if_neg e]
      exact buildObs_box h

theorem boxSl_ok {w : World} {γ : Gh} : ∀ (bs : List Nat), (∀ m, m ∈ bs → if isK m then ∃ A l c, γ.β m 0 = some (.hdr A l c) else ∃ b o, γ.β m 0 = some (.blk b o)) → ∃ us, VL w γ (bs.map fun m => if isK m then .own m 0 else .ptr m 0 0) us
  | [], _ => ⟨[], by simp only [List.map_nil, VL]⟩
  | m :: bs, h => by
    obtain ⟨us, hu⟩ := boxSl_ok bs (fun m hm => h m (List.mem_cons_of_mem _ hm))
    have := h m (List.mem_cons_self ..)
    cases hk : isK m with
    | false =>
      simp only [hk, Bool.false_eq_true, if_false] at this
      obtain ⟨b, o, hb⟩ := this
      refine ⟨.pointer (some ⟨b, o + 0, none⟩) :: us, ?_⟩
      simp only [List.map_cons, VL, hk, Bool.false_eq_true, if_false, V]
      exact ⟨⟨b, o, hb, rfl⟩, hu⟩
    | true =>
      simp only [hk, if_true] at this
      obtain ⟨A, l, c, hb⟩ := this
      refine ⟨.slice A l c :: us, ?_⟩
      simp only [List.map_cons, VL, hk, if_true, V]
      exact ⟨⟨A, l, c, hb, rfl⟩, hu⟩

theorem boxes_look : ∀ {out : List (Nat × ObT)} {m : Nat}, m ∈ boxes out → ∃ p ∈ out, p.1 = m ∧ ((∃ ls, p.2 = .box ls) ∨ ∃ e, p.2 = .arr e ∧ isK m = true)
  | [], m, h => by simp [boxes] at h
  | (k, .box ls) :: r, m, h => by
    simp only [boxes] at h
    rcases List.mem_cons.1 h with rfl | h
    · exact ⟨_, List.mem_cons_self .., rfl, .inl ⟨ls, rfl⟩⟩
    · obtain ⟨p, h1, h2⟩ := boxes_look h
      exact ⟨p, List.mem_cons_of_mem _ h1, h2⟩
  | (k, .arr e) :: r, m, h => by
    simp only [boxes] at h
    split at h
    · rename_i hk
      rcases List.mem_cons.1 h with rfl | h
      · exact ⟨_, List.mem_cons_self .., rfl, .inr ⟨e, rfl, hk⟩⟩
      · obtain ⟨p, h1, h2⟩ := boxes_look h
        exact ⟨p, List.mem_cons_of_mem _ h1, h2⟩
    · obtain ⟨p, h1, h2⟩ := boxes_look h
      exact ⟨p, List.mem_cons_of_mem _ h1, h2⟩
  | (k, .iter) :: r, m, h => by
    simp only [boxes] at h
    obtain ⟨p, h1, h2⟩ := boxes_look h
    exact ⟨p, List.mem_cons_of_mem _ h1, h2⟩

theorem buildObs_arr : ∀ {l : List (Nat × ObT)} {x : ObTs l} {m : Nat} {e : K}, look l m = some (.arr e) → ∃ xs, get (buildObs l x) m = some ⟨0, .arr e xs⟩
  | [], _, m, e, h => by simp [look] at h
  | (k, o) :: r, x, m, e, h => by
    simp only [buildObs, get_upd]
    simp only [look] at h
    split at h
    · rename_i e
      cases h
      rw [if_pos e]
      exact ⟨_, rfl⟩
    · rename_i e
      rw [if_neg e]
      exact buildObs_arr h

theorem finish_ok {rs : List ResultVar} {res : Lf} {out : List (Nat × ObT)} {σ : St} {γ : Gh} {a : Act} {w : World} {y : res.T × ObTs out} (hs : Sim w0 R0 S0 β0 (boxes out) N σ γ a w)
    (hbox : ∀ m, m ∈ boxes out → if isK m then ∃ A l c, β0 m = some (.hdr A l c) else ∃ b o, β0 m = some (.blk b o)) {fn : Func} (hfn : fn.results.toList = rs) (h : finish E rs res out σ = some y) :
    ∃ u γ', (results fn a.tmps).run E.P w = .ok u w ∧ V w γ' (res.build y.1) u ∧ Mem w0 R0 S0 γ' (buildObs out y.2) w ∧ (∀ b i, S0 b i → γ'.S b i) ∧ ∀ m, m ∈ boxes out → γ'.β m 0 = β0 m := by
  unfold finish at h
  split at h
  · cases h
  · rename_i vs hvs
    subst hfn
    obtain ⟨u, hu, hV⟩ := results_ok hs.sl hs.mem hvs
    simp only at h
    generalize hv : res1 vs = v at h hV
    split at h
    · cases h
    · rename_i x hx
      cases h
      have hb : ∀ m, m ∈ boxes out → if isK m then ∃ A l c, γ.β m 0 = some (.hdr A l c) else ∃ b o, γ.β m 0 = some (.blk b o) := by
        intro m hm
        have h1 := hbox m hm
        obtain ⟨l, h2, h3⟩ := hs.keep m hm
        rw [h2] at h1
        rw [h3]
        exact h1
      obtain ⟨us, hus⟩ := boxSl_ok (w := w) (boxes out) hb
      have hVL : VL w γ (v :: (boxes out).map fun m => if isK m then .own m 0 else .ptr m 0 0) (u :: us) := by simp only [VL]; exact ⟨hV, hus⟩
      unfold Tm.matK at hx
      split at hx
      · rename_i x' ms hmat
        split at hx
        · rename_i hk
          cases hx
          obtain ⟨γ2, hM, hv2⟩ := Tm.mat_ok hs.mem (vals := fun i => (u :: us).toArray.getD i undef) (VL_getD hVL) hmat
          refine ⟨u, γ2, hu, ?_, hM.mem hs.mem, fun b i h0 => by rw [hM.S]; exact .inl (hs.S b i h0), fun m hm => ?_⟩
          · have := hv2 (List.replicate 1 .undef) (getD_undef 1) 0
            have hlen : ∀ (bs : List Nat) (i : Nat) (x : Lf.Ss (boxSl i bs)), 0 < (buildSl (List.replicate 1 SV.undef) (boxSl i bs) x).length := by
              intro bs i x; rw [buildSl_len]; simp
            have hset : ∀ (l : List SV) (v : SV), 0 < l.length → (l.set 0 v).getD 0 .undef = v := by
              intro l v h0
              simp only [List.getD, List.getElem?_set_self h0, Option.getD]
            simp only [buildSl, setAt] at this
            rw [hset _ _ (hlen _ _ _)] at this
            exact this
          · obtain ⟨l, h1, h2⟩ := hs.keep m hm
            have := List.all_eq_true.1 hk m hm
            split at this
            · rename_i n g off hl
              simp only [Bool.and_eq_true, beq_iff_eq] at this
              obtain ⟨⟨rfl, rfl⟩, rfl⟩ := this
              rw [hM.β, h1]
              have hin : (look out n).isSome = true := hM.keys _ _ hl
              simp only [gmap, hin, hl, h2, Option.map]
              cases l <;> simp [Loc.shift]
            · cases this
        · cases hx
      · cases hx

/-- A FUNCTION THAT THE MACHINE WALKED DOES WHAT THE MACHINE FOUND. -/
theorem sat_eval {P : Program} {gl : List (Nat × Obj)} {ct : List (Nat × Con)} {f : Nat} {fn : Func} {c : Con} {h : H} (hf : P.funcs[f]? = some fn) (hent : Enters P f) (hsat : ∀ f c, look ct f = some c → Sat P gl f c)
    (hg : ∀ fuel x y, c.g fuel x = some y → ∃ fuel' cuts, evalFn { P := P, ct := ct, cuts := cuts, fuel := fuel' } fn c.tin c.res c.out h x = some y) : Sat P gl f c := by
  refine ⟨hent, fun fuel x y hy w args γ hgl _ hargs hmem => ?_⟩
  obtain ⟨fuel', cuts, he⟩ := hg fuel x y hy
  unfold evalFn at he
  split at he
  · cases he
  · rename_i code hb
    split at he
    · rename_i hc
      simp only [Bool.and_eq_true] at hc
      have hboxes : ∀ m, m ∈ boxes c.out → if isK m then ∃ A l c, γ.β m 0 = some (.hdr A l c) else ∃ b o, γ.β m 0 = some (.blk b o) := by
        intro m hm
        obtain ⟨p, hp, rfl, ho⟩ := boxes_look hm
        have := List.all_eq_true.1 hc.2 p hp
        obtain ⟨m, o⟩ := p
        rcases ho with ⟨ls, rfl⟩ | ⟨e, rfl, hk⟩
        · simp only at this
          split at this
          · rename_i ls hl
            obtain ⟨cs, h1⟩ := buildObs_box (x := x.2) hl
            obtain ⟨l, h2, h3⟩ := hmem.objs m _ h1
            obtain ⟨b, o, rfl, _⟩ := h3
            have hk : isK m = false := by simpa using this
            simp only [hk, Bool.false_eq_true, if_false]
            exact ⟨b, o, h2⟩
          · cases this
        · simp only at hk
          simp only [hk, if_true] at this ⊢
          split at this
          · rename_i e' hl
            obtain ⟨xs, h1⟩ := buildObs_arr (x := x.2) hl
            obtain ⟨l, h2, h3⟩ := hmem.objs m _ h1
            obtain ⟨A, l', c', rfl, _⟩ := h3
            exact ⟨A, l', c', h2⟩
          · cases this
      refine calls_of_wp hf hb ?_
      have hsim : Sim w (RGs γ (buildObs c.tin.ob x.2)) γ.S (fun m => γ.β m 0) (boxes c.out) fn.ntmps (c.tin.build fn.ntmps x) γ { tmps := args ++ Array.replicate (fn.ntmps - args.size) undef, defers := [] } w := by
        refine ⟨⟨?_, fun i => ?_⟩, hmem, rfl, ?_, fun m hm => ?_, fun _ _ h => h⟩
        · simp only [Tm.build, buildSl_len, List.length_replicate, Array.size_append, Array.size_replicate]; omega
        · have := hargs _ (getD_undef fn.ntmps) i
          have heq : (args ++ Array.replicate (fn.ntmps - args.size) undef).getD i undef = args.getD i undef := by
            simp only [Array.getD_eq_getD_getElem?]
            by_cases hi : i < args.size
            · rw [Array.getElem?_append_left hi]
            · rw [Array.getElem?_append_right (by omega), Array.getElem?_eq_none (by omega : args.size ≤ i), Array.getElem?_replicate]
              split <;> rfl
          rw [heq]
          exact this
        · simp only [Array.size_append, Array.size_replicate]; omega
        · have := hboxes m hm
          cases hk : isK m with
          | false =>
            simp only [hk, Bool.false_eq_true, if_false] at this
            obtain ⟨b, o, h1⟩ := this
            exact ⟨_, h1, h1⟩
          | true =>
            simp only [hk, if_true] at this
            obtain ⟨A, l, c, h1⟩ := this
            exact ⟨_, h1, h1⟩
      have hsats : Sats { P := P, ct := ct, cuts := cuts, fuel := fuel' } gl w (RGs γ (buildObs c.tin.ob x.2)) γ.S := by
        exact ⟨hsat, fun γ1 ob1 w1 hm hS => hgl.later hm.ev hS (fun b i hs ⟨n, hr⟩ => hmem.stab n b i hr hs) hmem.sex⟩
      refine wp_mono (evalCode_ok (E := { P := P, ct := ct, cuts := cuts, fuel := fuel' }) hsats code hsim he) ?_
      rintro e a' w' ⟨xt, σ, γ1, rfl, hs, hk⟩
      have hfin : finish { P := P, ct := ct, cuts := cuts, fuel := fuel' } fn.results.toList c.res c.out σ = some y → bodyPost P fn (fun e w' => ∃ v γ', e = .returned v ∧ V w' γ' (c.res.build y.1) v ∧ Mem w (RGs γ (buildObs c.tin.ob x.2)) γ.S γ' (buildObs c.out y.2) w' ∧
          (∀ b i, γ.S b i → γ'.S b i) ∧ ∀ m, m ∈ boxes c.out → γ'.β m 0 = γ.β m 0) .ret a' w' := by
        intro hk
        obtain ⟨u, γ', h1, h2, h3, h4, h5⟩ := finish_ok hs hboxes rfl hk
        exact ⟨hs.nd, u, h1, u, γ', rfl, h2, h3, h4, fun m hm => h5 m hm⟩
      cases xt with
      | normal => exact hfin hk
      | ret => exact hfin hk
      | exit j => cases hk
    · cases he

end
end Go.Vm
