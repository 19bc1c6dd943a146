/-
  Calls by contract: the whole call.
-/
import Derived.Test.YtannkglddbaalaaDoorVmCall2
set_option linter.unusedSimpArgs false
set_option linter.unusedVariables false
namespace Go.Vm

section
variable {E : Env} {w0 : World} {R0 S0 : Nat → Nat → Prop} {γ : Gh} {w : World} {ob : Obs} {R : Type} {k : SV → Obs → Option R} {r : R}

/-- the callee begins in its own names -/
theorem Mat.entry (hm : Mem w0 R0 S0 γ ob w) {t : Tm} {x : t.T} {ms : MS} {γ2 : Gh} (h : Mat w0 R0 S0 γ ob w t x ms γ2) : Mem w (RGs γ2 (buildObs t.ob x.2)) γ2.S γ2 (buildObs t.ob x.2) w := by
  refine ⟨fun n ent he => ?_, h.none, h.disj, h.stab, fun n b i hr => ?_, fun b i hs => ?_, fun b i hs => .inl hs, Ev.refl _ _⟩
  · obtain ⟨h1, l, h2, h3⟩ := h.objs n ent he
    exact ⟨l, by rw [h1]; exact h2, h3⟩
  · obtain ⟨m, g, off, _, h1⟩ := h.sub n b i hr
    exact ⟨.inl ⟨n, hr⟩, (hm.live m b i h1).2⟩
  · rw [h.S] at hs
    rcases hs with hs | ⟨n, _, h1⟩
    · exact hm.sex b i hs
    · exact (hm.live n b i h1).2

theorem mem_boxes : ∀ {l : List (Nat × ObT)} {m : Nat} {o : ObT}, look l m = some o → ((∃ ls, o = .box ls) ∨ ∃ e, o = .arr e ∧ isK m = true) → m ∈ boxes l
  | [], m, o, h, _ => by simp [look] at h
  | (k, o) :: r, m, o', h, ho => by
    simp only [look] at h
    split at h
    · rename_i e
      cases h
      rcases ho with ⟨ls, rfl⟩ | ⟨e', rfl, hk⟩
      · simp only [boxes]
        exact List.mem_cons.2 (.inl e.symm)
      · subst e
        simp only [boxes, hk, if_true]
        exact List.mem_cons_self ..
    · cases o with
      | box _ => simp only [boxes]; exact List.mem_cons_of_mem _ (mem_boxes h ho)
      | arr _ =>
        simp only [boxes]
        split
        · exact List.mem_cons_of_mem _ (mem_boxes h ho)
        · exact mem_boxes h ho
      | iter => simp only [boxes]; exact mem_boxes h ho

theorem fits {d : Nat} {mu : Mu} {c : Con} {ar : Nat} (h : fitNames d mu c ar = true) : ar = c.tin.ar ∧ nodupKeys c.out = true ∧ nodupKeys c.tin.ob = true ∧ arrsFirst c.out = true ∧
    (∀ m ls, look c.out m = some (.box ls) → ∃ ls', look c.tin.ob m = some (.box ls') ∧ ls'.length = ls.length) ∧
    (∀ m e, look c.out m = some (.arr e) → isK m = false → ∀ m' n g off, look mu m' = some (.ob n g off) → nm d m ≠ n) ∧ (∀ m, look c.out m ≠ some .iter) ∧ ∀ m e, look c.out m = some (.arr e) → isK m = true → look c.tin.ob m = some (.arr e) := by
  unfold fitNames at h
  simp only [Bool.and_eq_true] at h
  obtain ⟨⟨⟨⟨h0, h1⟩, h2⟩, h3⟩, h4⟩ := h
  have key : ∀ {l : List (Nat × ObT)} {p : Nat × ObT → Bool}, l.all p = true → ∀ m o, look l m = some o → p (m, o) = true := by
    intro l p
    induction l with
    | nil => intro _ m o hl; simp [look] at hl
    | cons q l ih =>
      obtain ⟨k, o'⟩ := q
      intro ha m o hl
      simp only [List.all_cons, Bool.and_eq_true] at ha
      simp only [look] at hl
      split at hl
      · rename_i e; subst e; cases hl; exact ha.1
      · exact ih ha.2 m o hl
  have key2 : ∀ {mu : Mu} {n0 : Nat}, (mu.all fun q => q.2.other n0) = true → ∀ m n g o, look mu m = some (.ob n g o) → n0 ≠ n := by
    intro mu n0
    induction mu with
    | nil => intro _ m n g o hl; simp [look] at hl
    | cons q mu ih =>
      obtain ⟨k, b⟩ := q
      intro ha m n g o hl
      simp only [List.all_cons, Bool.and_eq_true] at ha
      simp only [look] at hl
      split at hl
      · cases hl
        have := ha.1
        simpa [Bd.other] using this
      · exact ih ha.2 m n g o hl
  refine ⟨by simpa using h0, h1, h2, h3, fun m ls hl => ?_, fun m e hl hkf m' n g off hmu => ?_, fun m hl => ?_, fun m e hl hkt => ?_⟩
  · have := key h4 m _ hl
    simp only at this
    split at this
    · rename_i ls' h5
      exact ⟨ls', h5, by simpa using this⟩
    · cases this
  · have := key h4 m _ hl
    simp only [hkf, Bool.false_eq_true, if_false] at this
    exact key2 this m' n g off hmu
  · have := key h4 m _ hl
    simp at this
  · have := key h4 m _ hl
    simp only [hkt, if_true] at this
    split at this
    · rename_i e' h5
      rw [h5, of_decide_eq_true this]
    · cases this

theorem mem_look : ∀ {mu : Mu} {m : Nat} {b : Bd}, look mu m = some b → (m, b) ∈ mu
  | [], _, _, h => by simp [look] at h
  | (k, c) :: r, m, b, h => by
    simp only [look] at h
    split at h
    · rename_i e; subst e; cases h; simp
    · exact List.mem_cons_of_mem _ (mem_look h)

theorem leaks_out {l : List (Nat × ObT)} : (l.any fun p => p.2.deep) = false → ∀ m o, look l m = some o → o.deep = false := by
  induction l with
  | nil => intro _ m o h; simp [look] at h
  | cons q l ih =>
    obtain ⟨k, o'⟩ := q
    intro ha m o hl
    simp only [List.any_cons, Bool.or_eq_false_iff] at ha
    simp only [look] at hl
    split at hl
    · cases hl; exact ha.1
    · exact ih ha.2 m o hl

theorem xCall_ok {d f : Nat} {as : List SV} {args : Array Value} {gl : List (Nat × Obj)} (hsat : Sats E gl w0 R0 S0) (hS0 : ∀ b i, S0 b i → γ.S b i) (hm : Mem w0 R0 S0 γ ob w) (hln : args.size = as.length) (hv : ∀ i, V w γ (as.getD i .undef) (args.getD i undef)) (h : xCall E d f as ob k = some r) :
    Enters E.P f ∧ Calls E.P f args w fun e w' => ∃ v v' ob' γ', e = .returned v ∧ k v' ob' = some r ∧ V w' γ' v' v ∧ Mem w0 R0 S0 γ' ob' w' ∧ Le γ w γ' w' := by
  unfold xCall at h
  split at h
  · cases h
  · rename_i c hc
    obtain ⟨hent, hcalls⟩ := hsat.sat f c hc
    split at h
    · cases h
    · rename_i x ms hmat
      split at h
      · rename_i hfit
        obtain ⟨hf0, hf1, hf2, hf3, hf4, hf5, hf6, hfK⟩ := fits hfit
        obtain ⟨y, hy, hk⟩ := Option.bind_eq_some_iff.1 h
        simp only at hk
        obtain ⟨γ2, hM2, hin⟩ := Tm.mat_ok hm hv hmat
        refine ⟨hent, (hcalls _ x y hy w args γ2 (fun p hp => ⟨(hsat.gl γ ob w hm hS0 p hp).1, fun i => by rw [hM2.S]; exact .inl ((hsat.gl γ ob w hm hS0 p hp).2 i)⟩) (hln.trans hf0) hin (hM2.entry hm)).mono ?_⟩
        rintro e w' ⟨v, γ', rfl, hV, hM, hS, hB⟩
        -- the cells that may have changed
        have hR : ∀ b i, RGs γ2 (buildObs c.tin.ob x.2) b i → ∃ m n g off, look ms.mu m = some (.ob n g off) ∧ RG γ2 (buildObs c.tin.ob x.2) m b i ∧ RG γ ob n b i := by
          rintro b i ⟨m, hr⟩
          obtain ⟨n, g, off, h1, h2⟩ := hM2.sub m b i hr
          exact ⟨m, n, g, off, h1, hr, h2⟩
        -- phase 1: what is shared is frozen, what is handed over is gone
        have hph1 : ∃ γF, Mem w0 R0 S0 γF (if c.leaks then freezes ob ms.rd else ob) w ∧ Le γ w γF w ∧ (∀ n b i, RG γF (if c.leaks then freezes ob ms.rd else ob) n b i → RG γ ob n b i ∧ (c.leaks = true → n ∉ ms.rd)) ∧
            (∀ b i, γF.S b i → γ.S b i ∨ ∃ n, n ∈ ms.rd ∧ RG γ ob n b i) ∧ ∀ n, n ∉ ms.rd → get (if c.leaks then freezes ob ms.rd else ob) n = get ob n := by
          by_cases hlk : c.leaks = true
          · rw [if_pos hlk]
            obtain ⟨γF, h1, h2, h3, h4, h5⟩ := freezes_ok' ms.rd hm (fun n hn => .inl (hM2.rdarr n hn))
            exact ⟨γF, h1, h2, fun n b i hr => ⟨(h3 n b i hr).1, fun _ => (h3 n b i hr).2⟩, h4, h5⟩
          · rw [if_neg hlk]
            exact ⟨γ, hm, Le.refl _ _, fun n b i hr => ⟨hr, fun hh => absurd hh hlk⟩, fun b i hs => .inl hs, fun _ _ => rfl⟩
        obtain ⟨γF, mF, leF, rF, sF, gF⟩ := hph1
        generalize hobF : (if c.leaks then freezes ob ms.rd else ob) = obF at *
        obtain ⟨γA, mA, leA, sA, rA, cA, bA⟩ := consume_ok ms.mu mF
        have hbnd : ∀ n b i, RG γA (consume obF ms.mu) n b i → RG γ ob n b i ∧ (c.leaks = true → n ∉ ms.rd) ∧ ∀ m g off, look ms.mu m ≠ some (.ob n g off) := fun n b i hr =>
          ⟨(rF n b i (rA n b i hr)).1, (rF n b i (rA n b i hr)).2, fun m g off hl => cA _ (mem_look hl) n g off rfl b i hr⟩
        -- phase 2: the callee's work
        have hev : Ev (RGs γ2 (buildObs c.tin.ob x.2)) w w' := hM.ev
        have hSb : ∀ b i, γ'.S b i → γ.S b i ∨ (∃ n, n ∈ ms.rd ∧ RG γ ob n b i) ∨ RGs γ2 (buildObs c.tin.ob x.2) b i ∨ w.heap.size ≤ b := fun b i hs => by
          rcases hM.sb b i hs with h1 | h1 | h1
          · rw [hM2.S] at h1
            rcases h1 with h1 | h1
            · exact .inl h1
            · exact .inr (.inl h1)
          · exact .inr (.inr (.inl h1))
          · exact .inr (.inr (.inr h1))
        have hRlive : ∀ b i, RGs γ2 (buildObs c.tin.ob x.2) b i → R0 b i ∨ w0.heap.size ≤ b := fun b i hr => by
          obtain ⟨m, n, g, off, _, _, h1⟩ := hR b i hr
          exact (hm.live n b i h1).1
        obtain ⟨mB, leB⟩ := mA.other (w' := w') (R := RGs γ2 (buildObs c.tin.ob x.2)) (T := fun b i => c.leaks = true ∧ γ'.S b i) hev
          (fun n b i hr hR' => by
            obtain ⟨h1, _, h2⟩ := hbnd n b i hr
            obtain ⟨m, n', g, off, h3, _, h4⟩ := hR b i hR'
            by_cases e : n = n'
            · subst e; exact h2 m g off h3
            · exact hm.disj n n' e b i h1 h4)
          (fun b i hs hR' => by
            rw [sA] at hs
            obtain ⟨m, n', g, off, h3, _, h4⟩ := hR b i hR'
            rcases sF b i hs with hs | ⟨n2, h5, h6⟩
            · exact hm.stab n' b i h4 hs
            · have hne : n' ≠ n2 := fun e => hM2.offs m n' g off h3 (e ▸ h5)
              exact hm.disj n' n2 hne b i h4 h6)
          hRlive
          (fun b i ⟨_, hs⟩ => ⟨hM.sex b i hs, by
            rcases hSb b i hs with h1 | ⟨n, _, h1⟩ | h1 | h1
            · exact hm.sb b i h1
            · exact .inr ((hm.live n b i h1).1)
            · exact .inr (hRlive b i h1)
            · exact .inr (.inr (Nat.le_trans hm.ev.size h1))⟩)
          (fun n b i hr ⟨hlk, hs⟩ => by
            obtain ⟨h1, h2, h3⟩ := hbnd n b i hr
            rcases hSb b i hs with h4 | ⟨n2, h4, h5⟩ | h4 | h4
            · exact hm.stab n b i h1 h4
            · exact hm.disj n n2 (fun e => h2 hlk (e ▸ h4)) b i h1 h5
            · obtain ⟨m, n', g, off, h5, _, h6⟩ := hR b i h4
              by_cases e : n = n'
              · subst e; exact h3 m g off h5
              · exact hm.disj n n' e b i h1 h6
            · have := (hm.live n b i h1).2; omega)
        have leAll : Le γ w ⟨γA.β, fun b i => γA.S b i ∨ (c.leaks = true ∧ γ'.S b i)⟩ w' := (leF.trans leA).trans leB
        -- phase 3: what comes back
        have hboxes : ∀ m ls, look c.out m = some (.box ls) → ∃ n g off b o cs, BoxBack w γ ob w' γ' (buildObs c.out y.2) ms.mu m n g off b o cs ∧ off + ls.length ≤ cs.length := by
          intro m ls hl
          obtain ⟨ls', h1, h2⟩ := hf4 m ls hl
          obtain ⟨n, g, off, cs, z, h3, h4, h5, h6⟩ := hM2.box m ls' h1 hf2
          obtain ⟨l, h7, b, o, rfl, h8⟩ := hm.objs n _ h4
          simp only at h7
          have h9 : γ2.β m 0 = some (.blk b (o + off)) := by
            rw [hM2.β]
            simp [gmap, h1, h3, h7, Loc.shift]
          refine ⟨n, g, off, b, o, cs, ⟨h3, h4, h7, h8, by rw [hB m (mem_boxes hl (.inl ⟨ls, rfl⟩)), h9], fun i hi1 hi2 hi3 => ?_⟩, by omega⟩
          have hlt : b < w.heap.size := (hm.live n b i ⟨_, _, h4, h7, rfl, hi1, hi2⟩).2
          refine hev.cellAt hlt fun hr => ?_
          obtain ⟨m', n', g', off', h10, h11, h12⟩ := hR b i hr
          have hnn : n' = n := by
            by_cases e : n' = n
            · exact e
            · exact absurd ⟨_, _, h4, h7, rfl, hi1, hi2⟩ (fun hrg => hm.disj n' n e b i h12 hrg)
          subst hnn
          have hmm := hM2.apart _ _ _ _ _ _ _ h10 h3
          subst hmm
          obtain ⟨ent, l', h13, h14, h15⟩ := h11
          rw [h6] at h13
          cases h13
          rw [h9] at h14
          cases h14
          obtain ⟨_, h16, h17⟩ := h15
          rw [Lf.builds_len] at h17
          rcases hi3 with hi3 | hi3
          · omega
          · obtain ⟨ent2, he2⟩ := buildObs_some (l := c.out) (x := y.2) (m := m') (by rw [hl]; rfl)
            obtain ⟨_, o2, z2, h18, h19⟩ := look_built he2
            rw [hl] at h18
            cases h18
            have := hi3 ent2 he2 _ h19
            rw [Lf.builds_len] at this
            omega
        have hregion : ∀ m ls n g off b o cs, look c.out m = some (.box ls) → BoxBack w γ ob w' γ' (buildObs c.out y.2) ms.mu m n g off b o cs → ∀ b' i, reg (.blk b o) (.box cs) b' i → RG γ ob n b' i := fun m ls n g off b o cs _ hbb b' i hr => ⟨_, _, hbb.get0, hbb.β0, hr⟩
        have hinner : ∀ m ls n g off b o cs, look c.out m = some (.box ls) → BoxBack w γ ob w' γ' (buildObs c.out y.2) ms.mu m n g off b o cs → ∀ b' i, RG γ ob n b' i → RGs γ2 (buildObs c.tin.ob x.2) b' i → RG γ' (buildObs c.out y.2) m b' i := by
          intro m ls n g off b o cs hl hbb b' i hr hR'
          obtain ⟨m', n', g', off', h10, h11, h12⟩ := hR b' i hR'
          have hnn : n' = n := by
            by_cases e : n' = n
            · exact e
            · exact absurd hr (fun hrg => hm.disj n' n e b' i h12 hrg)
          subst hnn
          have hmm := hM2.apart _ _ _ _ _ _ _ h10 hbb.at_
          subst hmm
          obtain ⟨ls', h1, h2⟩ := hf4 m' ls hl
          obtain ⟨n3, g3, off3, cs3, z, h3, h4, h5, h6⟩ := hM2.box m' ls' h1 hf2
          have hbb1 := hbb.at_
          rw [h3] at hbb1
          cases hbb1
          obtain ⟨ent, l', h13, h14, h15⟩ := h11
          rw [h6] at h13
          cases h13
          have h9 : γ2.β m' 0 = some (.blk b (o + off)) := by rw [← hB m' (mem_boxes hl (.inl ⟨ls, rfl⟩))]; exact hbb.β'
          rw [h9] at h14
          cases h14
          obtain ⟨h16, h17, h18⟩ := h15
          rw [Lf.builds_len] at h18
          obtain ⟨ent2, he2⟩ := buildObs_some (l := c.out) (x := y.2) (m := m') (by rw [hl]; rfl)
          obtain ⟨hg0, o2, z2, h19, h20⟩ := look_built he2
          rw [hl] at h19
          cases h19
          refine ⟨ent2, .blk b (o + off), he2, by rw [hg0]; exact hbb.β', ?_⟩
          rw [h20]
          refine ⟨h16, h17, ?_⟩
          show i < o + off + (Lf.builds ls z2).length
          rw [Lf.builds_len, ← h2]
          exact h18
        have hkept : ∀ m e, look c.out m = some (.arr e) → isK m = true → (∃ n g off, look ms.mu m = some (.ob n g off) ∧ γ.β n g = γ'.β m 0) ∨ (look ms.mu m = some .nil ∧ γ'.β m 0 = some (.hdr none 0 0)) := by
          intro m e hl hk
          have hin := hfK m e hl hk
          have hb0 : γ'.β m 0 = γ2.β m 0 := hB m (mem_boxes hl (.inr ⟨e, rfl, hk⟩))
          rcases hM2.arr m e hin with h1 | ⟨n, g, off, xs, h1, h2⟩
          · exact .inr ⟨h1, by rw [hb0, hM2.β]; simp [gmap, hin, h1]⟩
          · obtain ⟨l, h3, A, ln, cp, rfl, _⟩ := hm.objs n _ h2
            simp only at h3
            exact .inl ⟨n, g, off, h1, by rw [hb0, hM2.β]; simp [gmap, hin, h1, h3, Loc.shift]⟩
        have hdeepS : c.leaks = true → ∀ b i, γ'.S b i → γA.S b i ∨ (c.leaks = true ∧ γ'.S b i) := fun hlk b i hs => .inr ⟨hlk, hs⟩
        have hnotS : ∀ n b i, RG γ ob n b i → (∃ m g off, look ms.mu m = some (.ob n g off)) → ¬ (RGs γ2 (buildObs c.tin.ob x.2) b i ∧ γ'.S b i) → ¬ (γA.S b i ∨ (c.leaks = true ∧ γ'.S b i)) := by
          rintro n b i hr ⟨m, g, off, hl⟩ hno (hs | ⟨hlk, hs⟩)
          · rw [sA] at hs
            rcases sF b i hs with hs | ⟨n2, h5, h6⟩
            · exact hm.stab n b i hr hs
            · exact hm.disj n n2 (fun e => hM2.offs m n g off hl (e ▸ h5)) b i hr h6
          · rcases hSb b i hs with h4 | ⟨n2, h4, h5⟩ | h4 | h4
            · exact hm.stab n b i hr h4
            · exact hm.disj n n2 (fun e => hM2.offs m n g off hl (e ▸ h4)) b i hr h5
            · exact hno ⟨h4, hs⟩
            · have := (hm.live n b i hr).2; omega
        obtain ⟨γ3, m3, le3, s3, g3⟩ := giveObs_ok (d := d) (ob1 := consume obF ms.mu) (w0 := w0) (R0 := R0) (S0 := S0) hM hboxes
          (γB := ⟨γA.β, fun b i => γA.S b i ∨ (c.leaks = true ∧ γ'.S b i)⟩)
          (fun l hl m o hlo hd b i hs => by
            refine hdeepS ?_ b i hs
            cases hlk : c.leaks with
            | true => rfl
            | false =>
              have : (c.out.any fun p => p.2.deep) = false := by
                unfold Con.leaks at hlk
                simp only [Bool.or_eq_false_iff] at hlk
                exact hlk.2
              rw [leaks_out this m o (hl m o hlo)] at hd
              cases hd)
          (fun m A l cp hb => by
            cases hg : get (buildObs c.out y.2) m with
            | none => rw [hM.top m 0 (by simp [hg])] at hb; cases hb
            | some ent =>
              obtain ⟨hg0, o, z, h1, h2⟩ := look_built hg
              obtain ⟨l', h3, h4⟩ := hM.objs m ent hg
              rw [hg0, hb] at h3
              cases h3
              rw [h2] at h4
              cases o with
              | box ls => obtain ⟨b, off, hh, _⟩ := h4; cases hh
              | arr e => exact ⟨e, h1⟩
              | iter => exact absurd h1 (hf6 m))
          (fun m b o hb => by
            cases hg : get (buildObs c.out y.2) m with
            | none => rw [hM.top m 0 (by simp [hg])] at hb; cases hb
            | some ent =>
              obtain ⟨hg0, o', z, h1, h2⟩ := look_built hg
              obtain ⟨l', h3, h4⟩ := hM.objs m ent hg
              rw [hg0, hb] at h3
              cases h3
              rw [h2] at h4
              cases o' with
              | box ls =>
                obtain ⟨n, g, off, b0, o0, cs, hbb, _⟩ := hboxes m ls h1
                have := hbb.β'
                rw [hb] at this
                cases this
                exact ⟨n, g, off, o0, hbb.at_, hbb.β0, rfl⟩
              | arr e => obtain ⟨A, ln, cp, hh, _⟩ := h4; cases hh
              | iter => exact absurd h1 (hf6 m))
          hkept hf5 (fun m1 m2 n g1 o1 g2 o2 h1 h2 => hM2.apart m1 m2 n g1 o1 g2 o2 h1 h2) leAll
          (fun m ls n g off b o cs hl hbb b' i hr => by
            have hrg := hregion m ls n g off b o cs hl hbb b' i hr
            refine ⟨hnotS n b' i hrg ⟨m, g, off, hbb.at_⟩ (fun ⟨hR', hs⟩ => hM.stab m b' i (hinner m ls n g off b o cs hl hbb b' i hrg hR') hs), (hm.live n b' i hrg).1, Nat.lt_of_lt_of_le (hm.live n b' i hrg).2 hev.size, fun k e hk hrk => ?_, fun m2 ls2 n2 g2 off2 b2 o2 cs2 hne hl2 hbb2 hr2 => ?_⟩
            · rcases (hM.live k b' i hrk).1 with h1 | h1
              · have := hinner m ls n g off b o cs hl hbb b' i hrg h1
                exact hM.disj k m (by rintro rfl; rw [hl] at hk; cases hk) b' i hrk this
              · have := (hm.live n b' i hrg).2; omega
            · have hrg2 := hregion m2 ls2 n2 g2 off2 b2 o2 cs2 hl2 hbb2 b' i hr2
              by_cases e : n = n2
              · subst e
                exact hne (hM2.apart _ _ _ _ _ _ _ hbb2.at_ hbb.at_)
              · exact hm.disj n n2 e b' i hrg hrg2)
          (fun q e hq b i hr => by
            have hlv := hM.live q b i hr
            refine ⟨fun hs => ?_, ?_, hlv.2⟩
            · rcases hs with hs | ⟨_, hs⟩
              · rcases hlv.1 with h1 | h1
                · obtain ⟨m, n, g, off, h2, _, h3⟩ := hR b i h1
                  rw [sA] at hs
                  rcases sF b i hs with hs | ⟨n2, h5, h6⟩
                  · exact hm.stab n b i h3 hs
                  · exact hm.disj n n2 (fun e => hM2.offs m n g off h2 (e ▸ h5)) b i h3 h6
                · have := mA.sex b i hs; omega
              · exact hM.stab q b i hr hs
            · rcases hlv.1 with h1 | h1
              · exact hRlive b i h1
              · exact .inr (Nat.le_trans hm.ev.size h1))
          c.out y.2 _ (consume obF ms.mu) hf1 hf3 (fun _ _ h => h) (fun _ _ h => h) mB (Le.refl _ _) (fun _ _ => Iff.rfl)
          (fun m e hl => ⟨fun _ ent he => by simp [fresh, he], fun hk n g off hlm => by
            rcases hM2.arr m e (hfK m e hl hk) with h1 | ⟨n', g', off', xs, h1, h2⟩
            · rw [h1] at hlm; cases hlm
            · rw [h1] at hlm
              cases hlm
              refine bA n g _ (by rw [gF n (hM2.offs m n g off h1)]; exact h2) (.inr ⟨⟨e, xs, rfl⟩, m, hk, ⟨g, off, mem_look h1⟩, fun p hp g' off' he => ?_⟩)
              exact apart_mem hM2.apartM p (m, .ob n g off) hp (mem_look h1) n g' off' g off he rfl, fun q b i hr hr2 => by
            obtain ⟨h1, _, h2⟩ := hbnd q b i hr
            rcases (hM.live m b i hr2).1 with h3 | h3
            · obtain ⟨m', n', g, off, h5, _, h6⟩ := hR b i h3
              by_cases e : q = n'
              · subst e; exact h2 m' g off h5
              · exact hm.disj q n' e b i h1 h6
            · have := (hm.live q b i h1).2; omega⟩)
          (fun m e h1 _ h2 => by rw [h1] at h2; cases h2)
          (fun m ls n g off b o cs hl hbb => by
            refine ⟨bA n g _ ?_ (.inl ⟨⟨cs, rfl⟩, _, mem_look hbb.at_, g, off, rfl⟩), fun q b' i hr hr2 => ?_⟩
            · rw [gF n (hM2.offs m n g off hbb.at_)]
              exact hbb.get0
            · obtain ⟨h1, _, h2⟩ := hbnd q b' i hr
              have hrg := hregion m ls n g off b o cs hl hbb b' i hr2
              by_cases e : q = n
              · subst e; exact h2 m g off hbb.at_
              · exact hm.disj q n e b' i h1 hrg)
        refine ⟨v, _, _, γ3, rfl, hk, Lf.give_ok g3 (fun hd b i hs => (s3 b i).2 (hdeepS (by unfold Con.leaks; rw [hd]; rfl) b i hs)) hV, m3, leAll.trans le3⟩
      · cases h

end
end Go.Vm
