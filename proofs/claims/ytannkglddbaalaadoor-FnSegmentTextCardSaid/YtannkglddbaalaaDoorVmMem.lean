/-
  Memory: what the machine's objects say of a world, and how it is kept.
-/
import Derived.Test.YtannkglddbaalaaDoorVmSem
set_option linter.unusedSimpArgs false
set_option linter.unusedVariables false
namespace Go.Vm

/-! #### How a world has changed, but for the cells of M -/
def OEv (R : Nat → Prop) (x y : Obj) : Prop :=
  (∀ o, R o) ∨ x = y ∨ ∃ c c' t fz, x = .cells c t fz ∧ y = .cells c' t fz ∧ c'.size = c.size ∧ ∀ o, ¬ R o → c'[o]? = c[o]?

structure Ev (R : Nat → Nat → Prop) (w w' : World) : Prop where
  os : w'.os = w.os
  output : w'.output = w.output
  tape : w'.tape = w.tape
  size : w.heap.size ≤ w'.heap.size
  blk : ∀ b x, w.heap[b]? = some x → ∃ y, w'.heap[b]? = some y ∧ OEv (R b) x y

theorem Ev.refl (R : Nat → Nat → Prop) (w : World) : Ev R w w := ⟨rfl, rfl, rfl, Nat.le_refl _, fun _ x h => ⟨x, h, .inr (.inl rfl)⟩⟩

theorem OEv.trans {R : Nat → Prop} {x y z : Obj} (h : OEv R x y) (h' : OEv R y z) : OEv R x z := by
  rcases h with h | rfl | ⟨c, c', t, fz, rfl, rfl, h1, h2⟩
  · exact .inl h
  · exact h'
  · rcases h' with h' | rfl | ⟨d, d', t', fz', e1, rfl, h3, h4⟩
    · exact .inl h'
    · exact .inr (.inr ⟨c, c', t, fz, rfl, rfl, h1, h2⟩)
    · cases e1
      exact .inr (.inr ⟨c, d', t, fz, rfl, rfl, h3.trans h1, fun o ho => (h4 o ho).trans (h2 o ho)⟩)

theorem OEv.mono {R R' : Nat → Prop} {x y : Obj} (h : OEv R x y) (hR : ∀ o, R o → R' o) : OEv R' x y := by
  rcases h with h | h | ⟨c, c', t, fz, e1, e2, h1, h2⟩
  · exact .inl fun o => hR o (h o)
  · exact .inr (.inl h)
  · exact .inr (.inr ⟨c, c', t, fz, e1, e2, h1, fun o ho => h2 o fun h => ho (hR o h)⟩)

theorem Ev.trans {R : Nat → Nat → Prop} {w w' w'' : World} (h : Ev R w w') (h' : Ev R w' w'') : Ev R w w'' :=
  ⟨h'.os.trans h.os, h'.output.trans h.output, h'.tape.trans h.tape, Nat.le_trans h.size h'.size, fun b x hx => by
    obtain ⟨y, hy, e⟩ := h.blk b x hx
    obtain ⟨z, hz, e'⟩ := h'.blk b y hy
    exact ⟨z, hz, e.trans e'⟩⟩

/-- a later change of R or of what is new is, all in all, one of R -/
theorem Ev.grow {R M : Nat → Nat → Prop} {w0 w w' : World} (h : Ev R w0 w) (h' : Ev M w w') (hM : ∀ b o, M b o → R b o ∨ w0.heap.size ≤ b) : Ev R w0 w' :=
  ⟨h'.os.trans h.os, h'.output.trans h.output, h'.tape.trans h.tape, Nat.le_trans h.size h'.size, fun b x hx => by
    obtain ⟨y, hy, e⟩ := h.blk b x hx
    obtain ⟨z, hz, e'⟩ := h'.blk b y hy
    have hb : b < w0.heap.size := (Array.getElem?_eq_some_iff.1 hx).1
    exact ⟨z, hz, e.trans (e'.mono fun o ho => (hM b o ho).resolve_right (by omega))⟩⟩

theorem Ev.mono {R R' : Nat → Nat → Prop} {w w' : World} (h : Ev R w w') (hR : ∀ b o, R b o → R' b o) : Ev R' w w' :=
  ⟨h.os, h.output, h.tape, h.size, fun b x hx => by
    obtain ⟨y, hy, e⟩ := h.blk b x hx
    exact ⟨y, hy, e.mono (hR b)⟩⟩

theorem Ev.cellAt {R : Nat → Nat → Prop} {w w' : World} (h : Ev R w w') {b o : Nat} (hb : b < w.heap.size) (hr : ¬ R b o) :
    w'.cell? ⟨b, o, none⟩ = w.cell? ⟨b, o, none⟩ ∧ w'.frozen? ⟨b, o, none⟩ = w.frozen? ⟨b, o, none⟩ := by
  have hx : w.heap[b]? = some w.heap[b] := Array.getElem?_eq_getElem hb
  obtain ⟨y, hy, e⟩ := h.blk b _ hx
  rcases e with e | e | ⟨c, c', t, fz, e1, e2, h1, h2⟩
  · exact absurd (e o) hr
  · have hh : w'.heap[b]? = w.heap[b]? := by rw [hy, hx, e]
    exact ⟨World.cell?_of_block (a := ⟨b, o, none⟩) hh, World.frozen?_of_block (a := ⟨b, o, none⟩) hh⟩
  · rw [e1] at hx
    rw [e2] at hy
    have := h2 o hr
    constructor <;> simp [World.cell?, World.frozen?, hx, hy, this]

theorem Ev.block {R : Nat → Nat → Prop} {w w' : World} (h : Ev R w w') {b : Nat} (hb : b < w.heap.size) (hr : ∀ o, ¬ R b o) : w'.heap[b]? = w.heap[b]? := by
  have hx : w.heap[b]? = some w.heap[b] := Array.getElem?_eq_getElem hb
  obtain ⟨y, hy, e⟩ := h.blk b _ hx
  rcases e with e | e | ⟨c, c', t, fz, e1, e2, h1, h2⟩
  · exact absurd (e 0) (hr 0)
  · rw [hy, hx, e]
  · have : c' = c := by
      apply Array.ext_getElem?
      intro i
      exact h2 i (hr i)
    rw [hy, hx, e1, e2, this]

theorem Ev.alloc (R : Nat → Nat → Prop) (w : World) (o : Obj) : Ev R w (w.alloc o) :=
  ⟨rfl, rfl, rfl, (by show w.heap.size ≤ (w.heap.push o).size; simp), fun b x hx => ⟨x, by rw [RowKit.Below.heap_alloc _ _ _ (Array.getElem?_eq_some_iff.1 hx).1]; exact hx, .inr (.inl rfl)⟩⟩

theorem Ev.drew (R : Nat → Nat → Prop) (w : World) : Ev R w w.drew := ⟨rfl, rfl, rfl, Nat.le_refl _, fun _ x h => ⟨x, h, .inr (.inl rfl)⟩⟩

theorem Ev.setCell {R : Nat → Nat → Prop} {w : World} {b o : Nat} (v : Value) (hR : R b o) : Ev R w (w.setCell ⟨b, o, none⟩ v) :=
  ⟨rfl, rfl, rfl, by simp [World.setCell], fun k x hx => by
    by_cases hk : k = b
    · subst hk
      simp only [World.setCell, Array.getElem?_modify, if_true, hx]
      cases x with
      | cells c t fz =>
        refine ⟨_, rfl, .inr (.inr ⟨c, _, t, fz, rfl, rfl, by simp, fun i hi => ?_⟩)⟩
        have : o ≠ i := fun e => hi (e ▸ hR)
        simp [Array.getElem?_setIfInBounds_ne this]
      | _ => exact ⟨_, rfl, .inr (.inl rfl)⟩
    · exact ⟨x, by rw [RowKit.Below.heap_setCell _ _ _ _ (by simpa using hk)]; exact hx, .inr (.inl rfl)⟩⟩

theorem Ev.setCells {R : Nat → Nat → Prop} (b : Nat) : ∀ (vs : List Value) (o : Nat) (w : World), (∀ j, j < vs.length → R b (o + j)) → Ev R w (w.setCells b o vs)
  | [], _, w, _ => Ev.refl R w
  | v :: r, o, w, h => (Ev.setCell v (by simpa using h 0 (by simp))).trans
      (Ev.setCells b r (o + 1) _ fun j hj => by have := h (j + 1) (by simp; omega); rwa [show o + (j + 1) = o + 1 + j by omega] at this)

theorem Ev.setObj {R : Nat → Nat → Prop} {w : World} {b : Nat} (o : Obj) (hR : ∀ i, R b i) : Ev R w { w with heap := w.heap.setIfInBounds b o } :=
  ⟨rfl, rfl, rfl, by simp, fun k x hx => by
    by_cases hk : b = k
    · subst hk
      have hb : b < w.heap.size := (Array.getElem?_eq_some_iff.1 hx).1
      exact ⟨o, by simp [hb], .inl hR⟩
    · exact ⟨x, by simp [Array.getElem?_setIfInBounds_ne hk, hx], .inr (.inl rfl)⟩⟩

/-! #### Objects -/
def reg (l : Loc) (o : Ob) (b i : Nat) : Prop :=
  match l, o with
  | .blk b0 off, .box cs => b = b0 ∧ off ≤ i ∧ i < off + cs.length
  | .blk b0 _, .iter _ _ => b = b0
  | .hdr (some a) _ cap, .arr e _ => b = a.block ∧ a.off ≤ i ∧ i < a.off + cap * e.cells
  | _, _ => False

def BoxOK (w : World) (γ : Gh) (b off : Nat) (cs : List SV) : Prop :=
  ∃ vs, VL w γ cs vs ∧ (∀ v ∈ vs, v.oneCell' = true) ∧ w.rangeAt b off vs ∧ w.there b off cs.length

def ArrOK (w : World) (γ : Gh) (A : Option Addr) (len cap : Nat) (e : K) (xs : List e.T) : Prop :=
  xs.length = len ∧ len ≤ cap ∧ xs.length ≤ lim ∧ (A = none → cap = 0) ∧
  ∀ a, A = some a → a.spot = none ∧ w.there a.block a.off (cap * e.cells) ∧
    ∀ i (h : i < xs.length), ∃ cs, Rd w γ.S e xs[i] cs ∧ w.rangeAt a.block (a.off + i * e.cells) cs

def ObOK (w : World) (γ : Gh) (l : Loc) (o : Ob) : Prop :=
  match o with
  | .box cs => ∃ b off, l = .blk b off ∧ BoxOK w γ b off cs
  | .arr e xs => ∃ A len cap, l = .hdr A len cap ∧ ArrOK w γ A len cap e xs
  | .roa e xs => ∃ A len cap, l = .hdr A len cap ∧ Rd w γ.S (.sl e) xs [.slice A len cap]
  | .iter s p => ∃ b, l = .blk b 0 ∧ w.heap[b]? = some (.stringIter (toBA s) p) ∧ strOK s
  | .gone => True

theorem rangeAt_ev {M : Nat → Nat → Prop} {w w' : World} (h : Ev M w w') {b off : Nat} {vs : List Value} (hm : ∀ j, j < vs.length → ¬ M b (off + j)) (hr : w.rangeAt b off vs) : w'.rangeAt b off vs := by
  intro j v hv
  have hj := (List.getElem?_eq_some_iff.1 hv).1
  have hc := hr j v hv
  have hb : b < w.heap.size := by
    rcases Nat.lt_or_ge b w.heap.size with h | h
    · exact h
    · simp [World.cell?, Array.getElem?_eq_none h] at hc
  rw [(h.cellAt hb (hm j hj)).1]
  exact hc

theorem there_lt {w : World} {b off n : Nat} (h : w.there b off n) (hn : 0 < n) : b < w.heap.size := by
  have := (h 0 hn).1
  rcases Nat.lt_or_ge b w.heap.size with h | h
  · exact h
  · simp [World.cell?, Array.getElem?_eq_none h] at this

theorem there_ev {M : Nat → Nat → Prop} {w w' : World} (h : Ev M w w') {b off n : Nat} (hm : ∀ j, j < n → ¬ M b (off + j)) (hr : w.there b off n) : w'.there b off n := by
  intro j hj
  have hb := there_lt hr (by omega)
  obtain ⟨h1, h2⟩ := h.cellAt hb (hm j hj)
  rw [h1, h2]
  exact hr j hj

theorem ObOK.mono {M : Nat → Nat → Prop} {w w' : World} {γ γ' : Gh} (hle : Le γ w γ' w') (hev : Ev M w w') {l : Loc} {o : Ob} (hm : ∀ b i, reg l o b i → ¬ M b i) (h : ObOK w γ l o) : ObOK w' γ' l o := by
  cases o with
  | box cs =>
    obtain ⟨b, off, rfl, vs, h1, h2, h3, h4⟩ := h
    have hl := h1.len
    refine ⟨b, off, rfl, vs, VL.mono hle h1, h2, rangeAt_ev hev (fun j hj => hm _ _ ⟨rfl, by omega, by omega⟩) h3, there_ev hev (fun j hj => hm _ _ ⟨rfl, by omega, by omega⟩) h4⟩
  | arr e xs =>
    obtain ⟨A, len, cap, rfl, h1, h2, h3, h4, h5⟩ := h
    refine ⟨A, len, cap, rfl, h1, h2, h3, h4, fun a ha => ?_⟩
    obtain ⟨h6, h7, h8⟩ := h5 a ha
    subst ha
    have hsub : ∀ i j, i < len → j < e.cells → i * e.cells + j < cap * e.cells := by
      intro i j hi hj
      have : (i + 1) * e.cells ≤ cap * e.cells := Nat.mul_le_mul_right _ (by omega)
      rw [Nat.add_mul] at this
      omega
    refine ⟨h6, there_ev hev (fun j hj => hm _ _ ⟨rfl, by omega, by omega⟩) h7, fun i hi => ?_⟩
    obtain ⟨cs, h9, h10⟩ := h8 i hi
    have hl := h9.len
    refine ⟨cs, h9.mono hle.S hle.keeps, rangeAt_ev hev (fun j hj => hm _ _ ⟨rfl, by omega, ?_⟩) h10⟩
    have := hsub i j (by omega) (by omega)
    omega
  | roa e xs =>
    obtain ⟨A, len, cap, rfl, h1⟩ := h
    exact ⟨A, len, cap, rfl, Rd.mono hle.S hle.keeps h1⟩
  | iter s p =>
    obtain ⟨b, rfl, h1, h2⟩ := h
    have hb : b < w.heap.size := (Array.getElem?_eq_some_iff.1 h1).1
    exact ⟨b, rfl, by rw [hev.block hb (fun i => hm b i rfl)]; exact h1, h2⟩
  | gone => trivial

/-! #### The machine's memory -/
def RG (γ : Gh) (ob : Obs) (n b i : Nat) : Prop := ∃ ent l, get ob n = some ent ∧ γ.β n ent.g = some l ∧ reg l ent.o b i

structure Mem (w0 : World) (R0 S0 : Nat → Nat → Prop) (γ : Gh) (ob : Obs) (w : World) : Prop where
  objs : ∀ n ent, get ob n = some ent → ∃ l, γ.β n ent.g = some l ∧ ObOK w γ l ent.o
  top : ∀ n g, (∀ ent, get ob n = some ent → ent.g < g) → γ.β n g = none
  disj : ∀ n m, n ≠ m → ∀ b i, RG γ ob n b i → RG γ ob m b i → False
  stab : ∀ n b i, RG γ ob n b i → ¬ γ.S b i
  live : ∀ n b i, RG γ ob n b i → (R0 b i ∨ w0.heap.size ≤ b) ∧ b < w.heap.size
  sex : ∀ b i, γ.S b i → b < w.heap.size
  sb : ∀ b i, γ.S b i → S0 b i ∨ R0 b i ∨ w0.heap.size ≤ b
  ev : Ev R0 w0 w

theorem get_upd (ob : Obs) (n m : Nat) (e : Ent) : get (upd ob n e) m = if n = m then some e else get ob m := by
  induction ob with
  | nil => simp [upd, get]
  | cons p r ih =>
    obtain ⟨k, x⟩ := p
    simp only [upd]
    split
    · simp [get]
    · split
      · rename_i h1 h2
        subst h2
        simp only [get]
        split <;> simp_all
      · rename_i h1 h2
        simp only [get, ih]
        by_cases hk : k = m
        · subst hk
          rw [if_pos rfl, if_neg h2, if_pos rfl]
        · rw [if_neg hk, if_neg hk]

theorem get_upd_same (ob : Obs) (n : Nat) (e : Ent) : get (upd ob n e) n = some e := by rw [get_upd, if_pos rfl]
theorem get_upd_ne {ob : Obs} {n m : Nat} (h : n ≠ m) (e : Ent) : get (upd ob n e) m = get ob m := by rw [get_upd, if_neg h]

/-- the ghost with one more object -/
def Gh.set (γ : Gh) (n g : Nat) (l : Loc) (D : Nat → Nat → Prop) : Gh :=
  ⟨fun m h => if m = n ∧ h = g then some l else γ.β m h, fun b i => γ.S b i ∨ D b i⟩

/-- ONE OBJECT CHANGES: what it was is `old` (its cells), what it is now lies there or is new; the cells of D are stable from now on. -/
theorem Mem.step {w0 : World} {R0 S0 : Nat → Nat → Prop} {γ : Gh} {ob : Obs} {w w' : World} (h : Mem w0 R0 S0 γ ob w)
    {n g' : Nat} {o' : Ob} {l' : Loc} {M D : Nat → Nat → Prop} (hev : Ev M w w')
    (hM : ∀ b i, M b i → RG γ ob n b i)
    (hg : ∀ ent, get ob n = some ent → ent.g < g' ∨ (ent.g = g' ∧ γ.β n g' = some l'))
    (hok : Le γ w (γ.set n g' l' D) w' → ObOK w' (γ.set n g' l' D) l' o')
    (hreg : ∀ b i, reg l' o' b i → (RG γ ob n b i ∨ w.heap.size ≤ b) ∧ b < w'.heap.size)
    (hD : ∀ b i, D b i → RG γ ob n b i ∧ ¬ reg l' o' b i) :
    Mem w0 R0 S0 (γ.set n g' l' D) (upd ob n ⟨g', o'⟩) w' ∧ Le γ w (γ.set n g' l' D) w' := by
  have hnew : ∀ g l, γ.β n g = some l → g ≠ g' ∨ l = l' := by
    intro g l hb
    by_cases e : g = g'
    · subst e
      cases hx : get ob n with
      | none => exact absurd (h.top n g (by simp [hx])) (by simp [hb])
      | some ent =>
        rcases hg ent hx with h1 | ⟨_, h2⟩
        · exact absurd (h.top n g (fun e he => by rw [hx] at he; cases he; exact h1)) (by simp [hb])
        · right; rw [hb] at h2; exact (Option.some.inj h2)
    · exact .inl e
  have hβ : ∀ m g l, γ.β m g = some l → (γ.set n g' l' D).β m g = some l := by
    intro m g l hb
    simp only [Gh.set]
    split
    · rename_i hh
      obtain ⟨rfl, rfl⟩ := hh
      rcases hnew _ _ hb with h1 | rfl
      · exact absurd rfl h1
      · rfl
    · exact hb
  have hkeep : Keeps γ.S w w' := by
    intro b i v hs hc
    rw [(hev.cellAt (h.sex b i hs) (fun hm => h.stab n b i (hM b i hm) hs)).1]
    exact hc
  have hle : Le γ w (γ.set n g' l' D) w' := ⟨hβ, fun b i hs => .inl hs, hkeep⟩
  have hself : (γ.set n g' l' D).β n g' = some l' := by simp [Gh.set]
  -- the regions
  have hRn : ∀ b i, RG (γ.set n g' l' D) (upd ob n ⟨g', o'⟩) n b i → reg l' o' b i := by
    rintro b i ⟨ent, l, h1, h2, h3⟩
    rw [get_upd_same] at h1
    cases h1
    rw [hself] at h2
    cases h2
    exact h3
  have hRm : ∀ m b i, m ≠ n → RG (γ.set n g' l' D) (upd ob n ⟨g', o'⟩) m b i → RG γ ob m b i := by
    rintro m b i hm ⟨ent, l, h1, h2, h3⟩
    rw [get_upd_ne (Ne.symm hm)] at h1
    refine ⟨ent, l, h1, ?_, h3⟩
    simpa [Gh.set, hm] using h2
  have hRn' : ∀ b i, RG (γ.set n g' l' D) (upd ob n ⟨g', o'⟩) n b i → RG γ ob n b i ∨ w.heap.size ≤ b := fun b i hr => (hreg b i (hRn b i hr)).1
  refine ⟨⟨?_, ?_, ?_, ?_, ?_, ?_, ?_, ?_⟩, hle⟩
  · intro m ent hm
    by_cases e : n = m
    · subst e
      rw [get_upd_same] at hm
      cases hm
      exact ⟨l', hself, hok hle⟩
    · rw [get_upd_ne e] at hm
      obtain ⟨l, h1, h2⟩ := h.objs m ent hm
      exact ⟨l, hβ _ _ _ h1, h2.mono hle hev fun b i hr hmm => h.disj n m e b i (hM b i hmm) ⟨ent, l, hm, h1, hr⟩⟩
  · intro m g hm
    simp only [Gh.set]
    by_cases e : n = m
    · subst e
      have h1 := hm ⟨g', o'⟩ (get_upd_same _ _ _)
      rw [if_neg (by simp only at h1; omega)]
      apply h.top
      intro ent hent
      have := hg ent hent
      simp only at h1
      omega
    · rw [if_neg (fun hh => e hh.1.symm)]
      apply h.top
      intro ent hent
      exact hm ent (by rw [get_upd_ne e]; exact hent)
  · intro m k hmk b i hr1 hr2
    by_cases e1 : m = n
    · subst e1
      have hr2' := hRm k b i (Ne.symm hmk) hr2
      rcases hRn' b i hr1 with h1 | h1
      · exact h.disj m k hmk b i h1 hr2'
      · have := (h.live k b i hr2').2; omega
    · have hr1' := hRm m b i e1 hr1
      by_cases e2 : k = n
      · subst e2
        rcases hRn' b i hr2 with h1 | h1
        · exact h.disj m k hmk b i hr1' h1
        · have := (h.live m b i hr1').2; omega
      · exact h.disj m k hmk b i hr1' (hRm k b i e2 hr2)
  · intro m b i hr hs
    by_cases e1 : m = n
    · subst e1
      rcases hs with hs | hs
      · rcases hRn' b i hr with h1 | h1
        · exact h.stab m b i h1 hs
        · have := h.sex b i hs; omega
      · exact (hD b i hs).2 (hRn b i hr)
    · have hr' := hRm m b i e1 hr
      rcases hs with hs | hs
      · exact h.stab m b i hr' hs
      · exact h.disj m n e1 b i hr' (hD b i hs).1
  · intro m b i hr
    by_cases e1 : m = n
    · subst e1
      obtain ⟨h1, h2⟩ := hreg b i (hRn b i hr)
      refine ⟨?_, h2⟩
      rcases h1 with h1 | h1
      · exact (h.live m b i h1).1
      · exact .inr (Nat.le_trans h.ev.size h1)
    · obtain ⟨h1, h2⟩ := h.live m b i (hRm m b i e1 hr)
      exact ⟨h1, Nat.lt_of_lt_of_le h2 hev.size⟩
  · rintro b i (hs | hs)
    · exact Nat.lt_of_lt_of_le (h.sex b i hs) hev.size
    · exact Nat.lt_of_lt_of_le (h.live n b i (hD b i hs).1).2 hev.size
  · rintro b i (hs | hs)
    · exact h.sb b i hs
    · exact .inr ((h.live n b i (hD b i hs).1).1)
  · exact h.ev.grow hev fun b i hm => (h.live n b i (hM b i hm)).1

/-- nothing changes but the world's marks (draws, new blocks that nobody knows) -/
theorem Mem.still {w0 : World} {R0 S0 : Nat → Nat → Prop} {γ : Gh} {ob : Obs} {w w' : World} (h : Mem w0 R0 S0 γ ob w) (hev : Ev (fun _ _ => False) w w') :
    Mem w0 R0 S0 γ ob w' ∧ Le γ w γ w' := by
  have hle : Le γ w γ w' := ⟨fun _ _ _ h => h, fun _ _ h => h, fun b i v hs hc => by rw [(hev.cellAt (h.sex b i hs) id).1]; exact hc⟩
  refine ⟨⟨fun n ent hn => ?_, h.top, h.disj, h.stab, fun n b i hr => ?_, fun b i hs => Nat.lt_of_lt_of_le (h.sex b i hs) hev.size, h.sb, h.ev.grow hev fun _ _ hf => hf.elim⟩, hle⟩
  · obtain ⟨l, h1, h2⟩ := h.objs n ent hn
    exact ⟨l, h1, h2.mono hle hev fun _ _ _ hf => hf⟩
  · obtain ⟨h1, h2⟩ := h.live n b i hr
    exact ⟨h1, Nat.lt_of_lt_of_le h2 hev.size⟩

end Go.Vm
