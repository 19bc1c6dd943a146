/-
  Calls by contract.
-/
import Derived.Test.YtannkglddbaalaaDoorVmMat
set_option linter.unusedSimpArgs false
set_option linter.unusedVariables false
namespace Go.Vm

/-- the model enters the function's body -/
def Enters (P : Program) (f : Nat) : Prop := ∃ fn, P.funcs[f]? = some fn ∧ (fn.name == "runtime.NumGoroutine") = false ∧ fn.body.isNone = false

def RGs (γ : Gh) (ob : Obs) (b i : Nat) : Prop := ∃ n, RG γ ob n b i

/-- cells that stay as they are, all the time: package-level variables -/
def GlOK (gl : List (Nat × Obj)) (γ : Gh) (w : World) : Prop := ∀ p ∈ gl, w.heap[p.1]? = some p.2 ∧ ∀ i, γ.S p.1 i

/-- A FUNCTION DOES WHAT ITS CONTRACT SAYS. -/
def Sat (P : Program) (gl : List (Nat × Obj)) (f : Nat) (c : Con) : Prop :=
  Enters P f ∧ ∀ (fuel : Nat) (x : c.tin.T) (y : c.res.T × ObTs c.out), c.g fuel x = some y →
    ∀ (w : World) (args : Array Value) (γ : Gh), GlOK gl γ w → args.size = c.tin.ar →
      (∀ base : List SV, (∀ i, base.getD i .undef = .undef) → ∀ i, V w γ ((buildSl base c.tin.sl x.1).getD i .undef) (args.getD i undef)) →
      Mem w (RGs γ (buildObs c.tin.ob x.2)) γ.S γ (buildObs c.tin.ob x.2) w →
      Calls P f args w fun e w' => ∃ v γ', e = .returned v ∧ V w' γ' (c.res.build y.1) v ∧ Mem w (RGs γ (buildObs c.tin.ob x.2)) γ.S γ' (buildObs c.out y.2) w' ∧
        (∀ b i, γ.S b i → γ'.S b i) ∧ ∀ m, m ∈ boxes c.out → γ'.β m 0 = γ.β m 0

/-- what is known of the callees, and of the package-level variables -/
structure Sats (E : Env) (gl : List (Nat × Obj)) (w0 : World) (R0 S0 : Nat → Nat → Prop) : Prop where
  sat : ∀ f c, look E.ct f = some c → Sat E.P gl f c
  gl : ∀ γ ob w, Mem w0 R0 S0 γ ob w → (∀ b i, S0 b i → γ.S b i) → GlOK gl γ w

section
variable {w0 : World} {R0 S0 : Nat → Nat → Prop} {γ : Gh} {w w' : World} {ob : Obs}

/-- one object more, out of cells that nobody has -/
theorem Mem.add (h : Mem w0 R0 S0 γ ob w) {n g' : Nat} {o' : Ob} {l' : Loc}
    (hg : ∀ ent, get ob n = some ent → ent.g < g' ∨ (ent.g = g' ∧ γ.β n g' = some l'))
    (hok : ObOK w γ l' o')
    (hdis : ∀ m, m ≠ n → ∀ b i, reg l' o' b i → RG γ ob m b i → False)
    (hst : ∀ b i, reg l' o' b i → ¬ γ.S b i)
    (hlv : ∀ b i, reg l' o' b i → (R0 b i ∨ w0.heap.size ≤ b) ∧ b < w.heap.size) :
    Mem w0 R0 S0 (γ.set n g' l' fun _ _ => False) (upd ob n ⟨g', o'⟩) w ∧ Le γ w (γ.set n g' l' fun _ _ => False) w := by
  have hβ : ∀ m g l, γ.β m g = some l → (γ.set n g' l' fun _ _ => False).β m g = some l := by
    intro m g l hb
    simp only [Gh.set]
    split
    · rename_i hh
      obtain ⟨rfl, rfl⟩ := hh
      cases hx : get ob m with
      | none => exact absurd (h.top m g (by simp [hx])) (by simp [hb])
      | some ent =>
        rcases hg ent hx with h1 | ⟨_, h2⟩
        · exact absurd (h.top m g (fun e he => by rw [hx] at he; cases he; exact h1)) (by simp [hb])
        · rw [hb] at h2; exact h2.symm
    · exact hb
  have hle : Le γ w (γ.set n g' l' fun _ _ => False) w := ⟨hβ, fun b i hs => .inl hs, fun _ _ _ _ h => h⟩
  have hself : (γ.set n g' l' fun _ _ => False).β n g' = some l' := by simp [Gh.set]
  have hev : Ev (fun _ _ => False) w w := Ev.refl _ _
  have hRn : ∀ b i, RG (γ.set n g' l' fun _ _ => False) (upd ob n ⟨g', o'⟩) n b i → reg l' o' b i := by
    rintro b i ⟨ent, l, h1, h2, h3⟩
    rw [get_upd_same] at h1
    cases h1
    rw [hself] at h2
    cases h2
    exact h3
  have hRm : ∀ m b i, m ≠ n → RG (γ.set n g' l' fun _ _ => False) (upd ob n ⟨g', o'⟩) m b i → RG γ ob m b i := by
    rintro m b i hm ⟨ent, l, h1, h2, h3⟩
    rw [get_upd_ne (Ne.symm hm)] at h1
    refine ⟨ent, l, h1, ?_, h3⟩
    simpa [Gh.set, hm] using h2
  refine ⟨⟨?_, ?_, ?_, ?_, ?_, ?_, ?_, h.ev⟩, hle⟩
  · intro m ent hm
    by_cases e : n = m
    · subst e
      rw [get_upd_same] at hm
      cases hm
      exact ⟨l', hself, hok.mono hle hev fun _ _ _ hf => hf⟩
    · rw [get_upd_ne e] at hm
      obtain ⟨l, h1, h2⟩ := h.objs m ent hm
      exact ⟨l, hβ _ _ _ h1, h2.mono hle hev fun _ _ _ hf => hf⟩
  · intro m g hm
    simp only [Gh.set]
    by_cases e : n = m
    · subst e
      have h1 := hm ⟨g', o'⟩ (get_upd_same _ _ _)
      rw [if_neg (by simp only at h1; omega)]
      apply h.top
      intro ent hent
      have := hg ent hent
      simp only at h1
      omega
    · rw [if_neg (fun hh => e hh.1.symm)]
      apply h.top
      intro ent hent
      exact hm ent (by rw [get_upd_ne e]; exact hent)
  · intro m k hmk b i hr1 hr2
    by_cases e1 : m = n
    · subst e1
      exact hdis k (Ne.symm hmk) b i (hRn b i hr1) (hRm k b i (Ne.symm hmk) hr2)
    · by_cases e2 : k = n
      · subst e2
        exact hdis m e1 b i (hRn b i hr2) (hRm m b i e1 hr1)
      · exact h.disj m k hmk b i (hRm m b i e1 hr1) (hRm k b i e2 hr2)
  · intro m b i hr hs
    have hs' : γ.S b i := by
      rcases hs with hs | hs
      · exact hs
      · exact hs.elim
    by_cases e1 : m = n
    · subst e1; exact hst b i (hRn b i hr) hs'
    · exact h.stab m b i (hRm m b i e1 hr) hs'
  · intro m b i hr
    by_cases e1 : m = n
    · subst e1; exact hlv b i (hRn b i hr)
    · exact h.live m b i (hRm m b i e1 hr)
  · rintro b i (hs | hs)
    · exact h.sex b i hs
    · exact hs.elim
  · rintro b i (hs | hs)
    · exact h.sb b i hs
    · exact hs.elim

/-- the cells of R have changed, of which no object has any; more is stable -/
theorem Mem.other (h : Mem w0 R0 S0 γ ob w) {R T : Nat → Nat → Prop} (hev : Ev R w w') (hR : ∀ n b i, RG γ ob n b i → ¬ R b i) (hRS : ∀ b i, γ.S b i → ¬ R b i) (hRl : ∀ b i, R b i → R0 b i ∨ w0.heap.size ≤ b)
    (hT : ∀ b i, T b i → b < w'.heap.size ∧ (S0 b i ∨ R0 b i ∨ w0.heap.size ≤ b)) (hTR : ∀ n b i, RG γ ob n b i → ¬ T b i) :
    Mem w0 R0 S0 ⟨γ.β, fun b i => γ.S b i ∨ T b i⟩ ob w' ∧ Le γ w ⟨γ.β, fun b i => γ.S b i ∨ T b i⟩ w' := by
  have hle : Le γ w ⟨γ.β, fun b i => γ.S b i ∨ T b i⟩ w' := ⟨fun _ _ _ h => h, fun _ _ h => .inl h, fun b i v hs hc => by
    rw [(hev.cellAt (h.sex b i hs) (hRS b i hs)).1]; exact hc⟩
  refine ⟨⟨fun n ent hn => ?_, h.top, h.disj, fun n b i hr hs => ?_, fun n b i hr => ?_, fun b i hs => ?_, fun b i hs => ?_, h.ev.grow hev hRl⟩, hle⟩
  · obtain ⟨l, h1, h2⟩ := h.objs n ent hn
    exact ⟨l, h1, h2.mono hle hev fun b i hr => hR n b i ⟨ent, l, hn, h1, hr⟩⟩
  · rcases hs with hs | hs
    · exact h.stab n b i hr hs
    · exact hTR n b i hr hs
  · obtain ⟨h1, h2⟩ := h.live n b i hr
    exact ⟨h1, Nat.lt_of_lt_of_le h2 hev.size⟩
  · rcases hs with hs | hs
    · exact Nat.lt_of_lt_of_le (h.sex b i hs) hev.size
    · exact (hT b i hs).1
  · rcases hs with hs | hs
    · exact h.sb b i hs
    · exact (hT b i hs).2

theorem Mem.freeze' (hm : Mem w0 R0 S0 γ ob w) {n g : Nat} {e : K} {xs : List e.T} (hg : get ob n = some ⟨g, .arr e xs⟩) :
    ∃ γ', Mem w0 R0 S0 γ' (upd ob n ⟨g, .roa e xs⟩) w ∧ Le γ w γ' w ∧ (∀ b i, γ'.S b i ↔ γ.S b i ∨ RG γ ob n b i) ∧ ∀ m b i, RG γ' (upd ob n ⟨g, .roa e xs⟩) m b i → RG γ ob m b i ∧ m ≠ n := by
  obtain ⟨l, h1, A, len, cap, rfl, h2⟩ := hm.objs n _ hg
  simp only at h1
  obtain ⟨hm', hle⟩ := hm.step (n := n) (g' := g) (o' := .roa e xs) (l' := .hdr A len cap) (M := fun _ _ => False) (D := fun b i => RG γ ob n b i) (Ev.refl _ _) (fun _ _ h => h.elim)
    (fun ent he => by rw [hg] at he; cases he; exact .inr ⟨rfl, h1⟩) (fun hle => ⟨A, len, cap, rfl, rd_of_arr hm (fun b i hs => .inl hs) hg (fun b i hr => .inr hr) h1⟩) (fun b i hr => by cases A <;> exact hr.elim) (fun b i hr => ⟨hr, by cases A <;> exact fun h => h⟩)
  refine ⟨_, hm', hle, fun b i => Iff.rfl, ?_⟩
  rintro m b i ⟨ent, l, h3, h4, h5⟩
  by_cases hmn : m = n
  · subst hmn
    rw [get_upd_same] at h3
    cases h3
    cases l with
    | blk _ _ => exact h5.elim
    | hdr A _ _ => cases A <;> exact h5.elim
  · rw [get_upd_ne (Ne.symm hmn)] at h3
    simp only [Gh.set] at h4
    rw [if_neg (fun hh => hmn hh.1)] at h4
    exact ⟨⟨ent, l, h3, h4, h5⟩, hmn⟩

theorem freezes_ok' : ∀ (rd : List Nat) {γ : Gh} {ob : Obs}, Mem w0 R0 S0 γ ob w → (∀ n, n ∈ rd → (∃ g e xs, get ob n = some ⟨g, .arr e xs⟩) ∨ ∀ b i, ¬ RG γ ob n b i) → ∃ γ', Mem w0 R0 S0 γ' (freezes ob rd) w ∧ Le γ w γ' w ∧ (∀ n b i, RG γ' (freezes ob rd) n b i → RG γ ob n b i ∧ n ∉ rd) ∧
    (∀ b i, γ'.S b i → γ.S b i ∨ ∃ n, n ∈ rd ∧ RG γ ob n b i) ∧ ∀ n, n ∉ rd → get (freezes ob rd) n = get ob n
  | [], γ, ob, hm, _ => ⟨γ, hm, Le.refl _ _, fun n b i h => ⟨h, by simp⟩, fun b i h => .inl h, fun _ _ => rfl⟩
  | n :: rd, γ, ob, hm, hr => by
    simp only [freezes]
    split
    · rename_i g e xs hg
      obtain ⟨γ1, m1, le1, s1, r1⟩ := hm.freeze' hg
      obtain ⟨γ2, m2, le2, r2, s2, g2⟩ := freezes_ok' rd m1 (fun k hk => by
        by_cases e1 : n = k
        · subst e1; exact .inr fun b i h => (r1 _ b i h).2 rfl
        · rcases hr k (by simp [hk]) with ⟨g', e', ys, h1⟩ | h1
          · exact .inl ⟨g', e', ys, by rw [get_upd_ne e1]; exact h1⟩
          · exact .inr fun b i h => h1 b i (r1 _ b i h).1)
      refine ⟨γ2, m2, le1.trans le2, fun k b i h => ?_, fun b i h => ?_, fun k hk => ?_⟩
      · obtain ⟨h1, h2⟩ := r2 k b i h
        obtain ⟨h3, h4⟩ := r1 k b i h1
        exact ⟨h3, by simp [h4, h2]⟩
      · rcases s2 b i h with h | ⟨k, hk, h⟩
        · rcases (s1 b i).1 h with h | h
          · exact .inl h
          · exact .inr ⟨n, by simp, h⟩
        · exact .inr ⟨k, by simp [hk], (r1 k b i h).1⟩
      · have hk' : k ≠ n ∧ k ∉ rd := by simpa using hk
        rw [g2 k hk'.2, get_upd_ne (Ne.symm hk'.1)]
    · rename_i hno
      obtain ⟨γ2, m2, le2, r2, s2, g2⟩ := freezes_ok' rd hm (fun k hk => hr k (by simp [hk]))
      have hn : ∀ b i, ¬ RG γ ob n b i := by
        rcases hr n (by simp) with ⟨g', e', ys, h1⟩ | h1
        · exact absurd h1 (hno g' e' ys)
        · exact h1
      refine ⟨γ2, m2, le2, fun k b i h => ?_, fun b i h => ?_, fun k hk => g2 k (by simp at hk; exact hk.2)⟩
      · obtain ⟨h1, h2⟩ := r2 k b i h
        exact ⟨h1, by simp [h2]; intro e; subst e; exact hn b i h1⟩
      · rcases s2 b i h with h | ⟨k, hk, h⟩
        · exact .inl h
        · exact .inr ⟨k, by simp [hk], h⟩

theorem Mem.drop (hm : Mem w0 R0 S0 γ ob w) {n g' : Nat} {l' : Loc} (hg : ∀ ent, get ob n = some ent → ent.g < g' ∨ (ent.g = g' ∧ γ.β n g' = some l')) :
    ∃ γ', Mem w0 R0 S0 γ' (upd ob n ⟨g', .gone⟩) w ∧ Le γ w γ' w ∧ γ'.S = γ.S ∧ ∀ m b i, RG γ' (upd ob n ⟨g', .gone⟩) m b i → RG γ ob m b i ∧ m ≠ n := by
  obtain ⟨hm', hle⟩ := hm.step (n := n) (g' := g') (o' := .gone) (l' := l') (M := fun _ _ => False) (D := fun _ _ => False) (Ev.refl _ _) (fun _ _ h => h.elim) hg (fun _ => trivial)
    (fun b i hr => by cases l' with | blk _ _ => exact hr.elim | hdr A _ _ => cases A <;> exact hr.elim) (fun _ _ h => h.elim)
  refine ⟨_, hm', hle, ?_, ?_⟩
  · funext b i
    simp [Gh.set]
  · rintro m b i ⟨ent, l, h3, h4, h5⟩
    by_cases hmn : m = n
    · subst hmn
      rw [get_upd_same] at h3
      cases h3
      cases l with
      | blk _ _ => exact h5.elim
      | hdr A _ _ => cases A <;> exact h5.elim
    · rw [get_upd_ne (Ne.symm hmn)] at h3
      simp only [Gh.set] at h4
      rw [if_neg (fun hh => hmn hh.1)] at h4
      exact ⟨⟨ent, l, h3, h4, h5⟩, hmn⟩

/-- what is handed over is gone -/
theorem consume_ok : ∀ (mu : Mu) {γ : Gh} {ob : Obs}, Mem w0 R0 S0 γ ob w → ∃ γ', Mem w0 R0 S0 γ' (consume ob mu) w ∧ Le γ w γ' w ∧ γ'.S = γ.S ∧ (∀ n b i, RG γ' (consume ob mu) n b i → RG γ ob n b i) ∧
    (∀ p ∈ mu, ∀ n g off, p.2 = .ob n g off → ∀ b i, ¬ RG γ' (consume ob mu) n b i) ∧
    ∀ n g o, get ob n = some ⟨g, o⟩ → ((∃ cs, o = .box cs) ∧ (∃ p ∈ mu, ∃ g' off, p.2 = .ob n g' off) ∨ (∃ e xs, o = .arr e xs) ∧ ∃ m, isK m = true ∧ (∃ g' off, (m, Bd.ob n g' off) ∈ mu) ∧ ∀ p ∈ mu, ∀ g' off, p.2 = .ob n g' off → p.1 = m) → get (consume ob mu) n = some ⟨g, .gone⟩ := by
  have hgone : ∀ (mu : Mu) {ob : Obs} {n g : Nat}, get ob n = some ⟨g, .gone⟩ → get (consume ob mu) n = some ⟨g, .gone⟩ := by
    intro mu
    induction mu with
    | nil => intro ob n g h; exact h
    | cons p r ih =>
      intro ob n g h
      obtain ⟨m, b⟩ := p
      cases b with
      | nil => exact ih h
      | ob k g' off =>
        simp only [consume]
        apply ih
        by_cases e : k = n
        · subst e
          rw [h]
          exact h
        · split <;> first
            | (rw [get_upd_ne e]; exact h)
            | exact h
  intro mu
  induction mu with
  | nil =>
    intro γ ob hm
    refine ⟨γ, hm, Le.refl _ _, rfl, fun _ _ _ h => h, (fun p hp => by cases hp), ?_⟩
    rintro n g o _ (⟨_, p, hp, _⟩ | ⟨_, m, _, ⟨g', off, hp⟩, _⟩)
    · cases hp
    · cases hp
  | cons p r ih =>
    intro γ ob hm
    obtain ⟨m, b⟩ := p
    cases b with
    | nil =>
      obtain ⟨γ', h1, h2, h3, h4, h5, h6⟩ := ih hm
      refine ⟨γ', h1, h2, h3, h4, fun p hp n g off he => ?_, fun n g o hn hp => ?_⟩
      · rcases List.mem_cons.1 hp with rfl | hp
        · cases he
        · exact h5 p hp n g off he
      · rcases hp with ⟨hcs, p, hp, g', off, he⟩ | ⟨hcs, m', hk, ⟨g', off, hp⟩, hu⟩
        · rcases List.mem_cons.1 hp with rfl | hp
          · cases he
          · exact h6 n g o hn (.inl ⟨hcs, p, hp, g', off, he⟩)
        · rcases List.mem_cons.1 hp with hp | hp
          · cases hp
          · exact h6 n g o hn (.inr ⟨hcs, m', hk, ⟨g', off, hp⟩, fun p hp => hu p (List.mem_cons_of_mem _ hp)⟩)
    | ob k g0 off0 =>
      have key : ∃ γ1, Mem w0 R0 S0 γ1 (match get ob k with
          | some ⟨g, .box _⟩ => upd ob k ⟨g, .gone⟩
          | some ⟨g, .arr _ _⟩ => upd ob k ⟨if isK m then g else g + 1, .gone⟩
          | some ⟨g, .iter _ _⟩ => upd ob k ⟨g + 1, .gone⟩
          | _ => ob) w ∧ Le γ w γ1 w ∧ γ1.S = γ.S ∧ (∀ n b i, RG γ1 (match get ob k with
          | some ⟨g, .box _⟩ => upd ob k ⟨g, .gone⟩
          | some ⟨g, .arr _ _⟩ => upd ob k ⟨if isK m then g else g + 1, .gone⟩
          | some ⟨g, .iter _ _⟩ => upd ob k ⟨g + 1, .gone⟩
          | _ => ob) n b i → RG γ ob n b i ∧ n ≠ k) := by
        cases hk : get ob k with
        | none => exact ⟨γ, hm, Le.refl _ _, rfl, fun n b i h => ⟨h, by rintro rfl; obtain ⟨ent, _, h1, _⟩ := h; rw [hk] at h1; cases h1⟩⟩
        | some ent =>
          obtain ⟨g, o⟩ := ent
          obtain ⟨l, hl, hok⟩ := hm.objs k _ hk
          simp only at hl
          cases o with
          | box cs => exact hm.drop (l' := l) (fun ent he => by rw [hk] at he; cases he; exact .inr ⟨rfl, hl⟩)
          | arr e xs =>
            cases isK m with
            | true => exact hm.drop (l' := l) (fun ent he => by rw [hk] at he; cases he; exact .inr ⟨rfl, hl⟩)
            | false => exact hm.drop (l' := l) (fun ent he => by rw [hk] at he; cases he; left; show g < g + 1; omega)
          | iter s q => exact hm.drop (l' := l) (fun ent he => by rw [hk] at he; cases he; left; show g < g + 1; omega)
          | roa e xs =>
            refine ⟨γ, hm, Le.refl _ _, rfl, fun n b i h => ⟨h, ?_⟩⟩
            rintro rfl
            obtain ⟨ent, l2, h1, h2, h3⟩ := h
            rw [hk] at h1
            cases h1
            cases l2 with
            | blk _ _ => exact h3.elim
            | hdr A _ _ => cases A <;> exact h3.elim
          | gone =>
            refine ⟨γ, hm, Le.refl _ _, rfl, fun n b i h => ⟨h, ?_⟩⟩
            rintro rfl
            obtain ⟨ent, l2, h1, h2, h3⟩ := h
            rw [hk] at h1
            cases h1
            cases l2 with
            | blk _ _ => exact h3.elim
            | hdr A _ _ => cases A <;> exact h3.elim
      obtain ⟨γ1, m1, le1, s1, r1⟩ := key
      obtain ⟨γ', h1, h2, h3, h4, h5, h6⟩ := ih m1
      simp only [consume]
      refine ⟨γ', h1, le1.trans h2, h3.trans s1, fun n b i h => (r1 n b i (h4 n b i h)).1, fun p hp n g off he b i h => ?_, fun n g o hn hp => ?_⟩
      · rcases List.mem_cons.1 hp with rfl | hp
        · cases he
          exact (r1 _ b i (h4 _ b i h)).2 rfl
        · exact h5 p hp n g off he b i h
      · by_cases e : k = n
        · subst e
          apply hgone
          rw [hn]
          rcases hp with ⟨⟨cs, rfl⟩, _⟩ | ⟨⟨e', xs, rfl⟩, m', hk, _, hu⟩
          · exact get_upd_same _ _ _
          · have hmm : m = m' := hu (m, .ob k g0 off0) (List.mem_cons_self ..) g0 off0 rfl
            simp only [hmm, hk, if_true]
            exact get_upd_same _ _ _
        · have hn' : get (match get ob k with
              | some ⟨g, .box _⟩ => upd ob k ⟨g, .gone⟩
              | some ⟨g, .arr _ _⟩ => upd ob k ⟨if isK m then g else g + 1, .gone⟩
              | some ⟨g, .iter _ _⟩ => upd ob k ⟨g + 1, .gone⟩
              | _ => ob) n = some ⟨g, o⟩ := by
            split <;> first
              | (rw [get_upd_ne e]; exact hn)
              | exact hn
          rcases hp with ⟨hcs, p, hp, g', off, he⟩ | ⟨hcs, m', hk, ⟨g', off, hp⟩, hu⟩
          · rcases List.mem_cons.1 hp with rfl | hp
            · cases he; exact absurd rfl e
            · exact h6 n g o hn' (.inl ⟨hcs, p, hp, g', off, he⟩)
          · rcases List.mem_cons.1 hp with hp | hp
            · cases hp; exact absurd rfl e
            · exact h6 n g o hn' (.inr ⟨hcs, m', hk, ⟨g', off, hp⟩, fun p hp => hu p (List.mem_cons_of_mem _ hp)⟩)

end
end Go.Vm
