/-
  A state that matches a template: the same, in the template's own names.
-/
import Derived.Test.YtannkglddbaalaaDoorVmExec7
set_option linter.unusedSimpArgs false
set_option linter.unusedVariables false
namespace Go.Vm

def Loc.shift (off : Nat) : Loc → Loc
  | .blk b o => .blk b (o + off)
  | l => l

/-- the ghost of the template's names -/
def gmap (γ : Gh) (ob : Obs) (keys : Nat → Bool) (ms : MS) : Gh where
  β := fun m g =>
    if g = 0 ∧ keys m = true then
      match look ms.mu m with
      | some (.ob n g' off) => (γ.β n g').map (Loc.shift off)
      | some .nil => some (.hdr none 0 0)
      | none => none
    else none
  S := fun b i => γ.S b i ∨ ∃ n, n ∈ ms.rd ∧ RG γ ob n b i

/-- what was bound stays bound -/
def Ext (ms ms' : MS) : Prop := (∀ m b, look ms.mu m = some b → look ms'.mu m = some b) ∧ ∀ n, n ∈ ms.rd → n ∈ ms'.rd

theorem Ext.refl (ms : MS) : Ext ms ms := ⟨fun _ _ h => h, fun _ h => h⟩
theorem Ext.trans {a b c : MS} (h : Ext a b) (h' : Ext b c) : Ext a c := ⟨fun m x hx => h'.1 m x (h.1 m x hx), fun n hn => h'.2 n (h.2 n hn)⟩

theorem bind1_ok {mu mu' : Mu} {m : Nat} {b : Bd} (h : bind1 mu m b = some mu') : look mu' m = some b ∧ ∀ k c, look mu k = some c → look mu' k = some c := by
  unfold bind1 at h
  split at h
  · rename_i h0
    cases h
    refine ⟨by simp [look], fun k c hk => ?_⟩
    simp only [look]
    split
    · rename_i e; subst e; rw [h0] at hk; cases hk
    · exact hk
  · rename_i b' h0
    split at h
    · rename_i e
      subst e
      cases h
      exact ⟨h0, fun k c hk => hk⟩
    · cases h

mutual
theorem Lf.mat_ext {ob : Obs} : ∀ {l : Lf} {v : SV} {ms ms' : MS} {x : l.T}, Lf.mat ob l v ms = some (x, ms') → Ext ms ms'
  | .int k, v, ms, ms', x, h => by
    simp only [Lf.mat] at h; split at h
    · split at h
      · cases h; exact Ext.refl _
      · cases h
    · cases h
  | .bool, v, ms, ms', x, h => by
    simp only [Lf.mat] at h; split at h
    · cases h; exact Ext.refl _
    · cases h
  | .str, v, ms, ms', x, h => by
    simp only [Lf.mat] at h; split at h
    · cases h; exact Ext.refl _
    · cases h
  | .ro e, v, ms, ms', x, h => by
    simp only [Lf.mat] at h; split at h
    · cases h; exact ⟨fun _ _ h => h, fun n hn => by simp [hn]⟩
    · cases h
  | .err, v, ms, ms', x, h => by
    simp only [Lf.mat] at h; split at h
    · cases h; exact Ext.refl _
    · cases h
  | .agg ls, v, ms, ms', x, h => by
    simp only [Lf.mat] at h; split at h
    · exact Lf.mats_ext h
    · cases h
  | .tup ls, v, ms, ms', x, h => by
    simp only [Lf.mat] at h; split at h
    · exact Lf.mats_ext h
    · cases h
  | .fn f caps, v, ms, ms', x, h => by
    simp only [Lf.mat] at h; split at h
    · split at h
      · exact Lf.mats_ext h
      · cases h
    · cases h
  | .undef, v, ms, ms', x, h => by simp only [Lf.mat] at h; cases h; exact Ext.refl _
  | .own m, v, ms, ms', x, h => by
    simp only [Lf.mat] at h; split at h
    · split at h
      · rename_i hb; cases h; exact ⟨(bind1_ok hb).2, fun _ h => h⟩
      · cases h
    · split at h
      · rename_i hb; cases h; exact ⟨(bind1_ok hb).2, fun _ h => h⟩
      · cases h
    · cases h
  | .nilsl, v, ms, ms', x, h => by
    simp only [Lf.mat] at h; split at h
    · cases h; exact Ext.refl _
    · cases h
  | .ptr m, v, ms, ms', x, h => by
    simp only [Lf.mat] at h; split at h
    · split at h
      · rename_i hb; cases h; exact ⟨(bind1_ok hb).2, fun _ h => h⟩
      · cases h
    · cases h
  | .nilptr, v, ms, ms', x, h => by
    simp only [Lf.mat] at h; split at h
    · cases h; exact Ext.refl _
    · cases h
  | .iter m, v, ms, ms', x, h => by
    simp only [Lf.mat] at h; split at h
    · split at h
      · rename_i hb; cases h; exact ⟨(bind1_ok hb).2, fun _ h => h⟩
      · cases h
    · cases h
  | .lint k n, v, ms, ms', x, h => by
    simp only [Lf.mat] at h; split at h
    · split at h
      · cases h; exact Ext.refl _
      · cases h
    · cases h
theorem Lf.mats_ext {ob : Obs} : ∀ {ls : List Lf} {cs : List SV} {ms ms' : MS} {x : Lf.Ts ls}, Lf.mats ob ls cs ms = some (x, ms') → Ext ms ms'
  | [], cs, ms, ms', x, h => by
    simp only [Lf.mats] at h; split at h
    · cases h; exact Ext.refl _
    · cases h
  | l :: ls, cs, ms, ms', x, h => by
    simp only [Lf.mats] at h; split at h
    · split at h
      · rename_i h1
        split at h
        · rename_i h2
          cases h
          exact (Lf.mat_ext h1).trans (Lf.mats_ext h2)
        · cases h
      · cases h
    · cases h
end

section
variable {w0 : World} {R0 S0 : Nat → Nat → Prop} {γ : Gh} {w : World} {ob : Obs} {keys : Nat → Bool} {fin : MS}

/-- a row that is read is stable from now on -/
theorem rd_of_arr (hm : Mem w0 R0 S0 γ ob w) {S' : Nat → Nat → Prop} (hS : ∀ b i, γ.S b i → S' b i) {n g : Nat} {e : K} {xs : List e.T} (hg : get ob n = some ⟨g, .arr e xs⟩) (hR : ∀ b i, RG γ ob n b i → S' b i) {A : Option Addr} {l c : Nat} (hb : γ.β n g = some (.hdr A l c)) :
    Rd w S' (.sl e) xs [.slice A l c] := by
  obtain ⟨lc, h1, A', len, cap, rfl, h2, h3, h4, h5, h6⟩ := hm.objs n _ hg
  simp only at h1
  rw [hb] at h1
  cases h1
  have := lim_eq
  refine ⟨A, _, _, rfl, h2, h3, by omega, fun hne => ?_⟩
  have hpos : 0 < xs.length := List.length_pos_iff.2 hne
  cases A with
  | none => have := h5 rfl; omega
  | some a =>
    obtain ⟨h7, h8, h9⟩ := h6 a rfl
    obtain ⟨b, o, sp⟩ := a
    simp only at h7
    subst h7
    refine ⟨b, o, rfl, fun i hi => ?_⟩
    obtain ⟨cs, h10, h11⟩ := h9 i hi
    refine ⟨cs, h10.mono hS (fun _ _ _ _ h => h), h11, fun j hj => hR _ _ ⟨_, _, hg, hb, rfl, ?_, ?_⟩⟩
    · show o ≤ _; omega
    · have := sub_lt (i := i) (len := xs.length) (cap := c) hi (by omega) hj
      show _ < o + c * e.cells
      omega

theorem le_gmap_S : ∀ b i, γ.S b i → (gmap γ ob keys fin).S b i := fun _ _ h => .inl h

theorem listOf_rd {e : K} {v : SV} {u : Value} {xs : List e.T} {rd : List Nat} (hm : Mem w0 R0 S0 γ ob w) (hv : V w γ v u) (h : listOf ob e v = some (xs, rd)) (hrd : ∀ n, n ∈ rd → n ∈ fin.rd) :
    Rd w (gmap γ ob keys fin).S (.sl e) xs [u] := by
  unfold listOf at h
  split at h
  · split at h
    · rename_i he
      cases h
      subst he
      simp only [V] at hv
      exact hv.mono le_gmap_S (fun _ _ _ _ h => h)
    · cases h
  · cases h
    simp only [V] at hv
    subst hv
    exact ⟨none, 0, 0, rfl, rfl, Nat.le_refl _, by simp, fun h => absurd rfl h⟩
  · rename_i n g
    simp only [V] at hv
    obtain ⟨A, l, c, hb, rfl⟩ := hv
    split at h
    · rename_i g' e' ys hg
      split at h
      · rename_i hgg
        subst hgg
        split at h
        · rename_i he
          cases h
          subst he
          exact rd_of_arr hm le_gmap_S hg (fun b i hr => .inr ⟨n, hrd n (by simp), hr⟩) hb
        · cases h
      · cases h
    · rename_i g' e' ys hg
      split at h
      · rename_i hgg
        subst hgg
        split at h
        · rename_i he
          cases h
          subst he
          obtain ⟨l', h1, A', ln, cp, rfl, h2⟩ := hm.objs n _ hg
          simp only at h1
          rw [hb] at h1
          cases h1
          exact h2.mono le_gmap_S (fun _ _ _ _ h => h)
        · cases h
      · cases h
    · cases h
  · cases h

mutual
theorem Lf.mat_ok (hm : Mem w0 R0 S0 γ ob w) (hk : ∀ m b, look fin.mu m = some b → keys m = true) : ∀ {l : Lf} {v : SV} {u : Value} {ms ms' : MS} {x : l.T}, Lf.mat ob l v ms = some (x, ms') → Ext ms' fin → V w γ v u → V w (gmap γ ob keys fin) (l.build x) u
  | .int k, v, u, ms, ms', x, h, hx, hv => by
    simp only [Lf.mat] at h; split at h
    · split at h
      · rename_i e; cases h; subst e; simp only [V, Lf.build] at hv ⊢; exact hv
      · cases h
    · cases h
  | .bool, v, u, ms, ms', x, h, hx, hv => by
    simp only [Lf.mat] at h; split at h
    · cases h; simp only [V, Lf.build] at hv ⊢; exact hv
    · cases h
  | .str, v, u, ms, ms', x, h, hx, hv => by
    simp only [Lf.mat] at h; split at h
    · cases h; simp only [V, Lf.build] at hv ⊢; exact hv
    · cases h
  | .ro e, v, u, ms, ms', x, h, hx, hv => by
    simp only [Lf.mat] at h; split at h
    · rename_i xs rd hl
      cases h
      simp only [V, Lf.build]
      exact listOf_rd hm hv hl (fun n hn => hx.2 n (by simp [hn]))
    · cases h
  | .err, v, u, ms, ms', x, h, hx, hv => by
    simp only [Lf.mat] at h; split at h
    · cases h; simp only [V, Lf.build] at hv ⊢; exact hv
    · cases h
  | .agg ls, v, u, ms, ms', x, h, hx, hv => by
    simp only [Lf.mat] at h; split at h
    · simp only [V, Lf.build] at hv ⊢
      obtain ⟨vs, h1, h2, h3⟩ := hv
      exact ⟨vs, h1, Lf.mats_ok hm hk h hx h2, h3⟩
    · cases h
  | .tup ls, v, u, ms, ms', x, h, hx, hv => by
    simp only [Lf.mat] at h; split at h
    · simp only [V, Lf.build] at hv ⊢
      obtain ⟨vs, h1, h2⟩ := hv
      exact ⟨vs, h1, Lf.mats_ok hm hk h hx h2⟩
    · cases h
  | .fn f caps, v, u, ms, ms', x, h, hx, hv => by
    simp only [Lf.mat] at h; split at h
    · split at h
      · rename_i e
        subst e
        simp only [V, Lf.build] at hv ⊢
        obtain ⟨vs, h1, h2⟩ := hv
        exact ⟨vs, h1, Lf.mats_ok hm hk h hx h2⟩
      · cases h
    · cases h
  | .undef, v, u, ms, ms', x, h, hx, hv => by simp only [V, Lf.build]
  | .own m, v, u, ms, ms', x, h, hx, hv => by
    simp only [Lf.mat] at h; split at h
    · rename_i n g
      split at h
      · rename_i mu hb
        cases h
        have hl := hx.1 m _ (bind1_ok hb).1
        simp only [V, Lf.build] at hv ⊢
        obtain ⟨A, l, c, h1, h2⟩ := hv
        exact ⟨A, l, c, by simp [gmap, hk m _ hl, hl, h1, Loc.shift], h2⟩
      · cases h
    · split at h
      · rename_i mu hb
        cases h
        have hl := hx.1 m _ (bind1_ok hb).1
        simp only [V, Lf.build] at hv ⊢
        exact ⟨none, 0, 0, by simp [gmap, hk m _ hl, hl], hv⟩
      · cases h
    · cases h
  | .nilsl, v, u, ms, ms', x, h, hx, hv => by
    simp only [Lf.mat] at h; split at h
    · cases h; simp only [V, Lf.build] at hv ⊢; exact hv
    · cases h
  | .ptr m, v, u, ms, ms', x, h, hx, hv => by
    simp only [Lf.mat] at h; split at h
    · rename_i n g off
      split at h
      · rename_i mu hb
        cases h
        have hl := hx.1 m _ (bind1_ok hb).1
        simp only [V, Lf.build] at hv ⊢
        obtain ⟨b, o, h1, h2⟩ := hv
        exact ⟨b, o + off, by simp [gmap, hk m _ hl, hl, h1, Loc.shift], by simpa using h2⟩
      · cases h
    · cases h
  | .nilptr, v, u, ms, ms', x, h, hx, hv => by
    simp only [Lf.mat] at h; split at h
    · cases h; simp only [V, Lf.build] at hv ⊢; exact hv
    · cases h
  | .iter m, v, u, ms, ms', x, h, hx, hv => by
    simp only [Lf.mat] at h; split at h
    · rename_i n g
      split at h
      · rename_i mu hb
        cases h
        have hl := hx.1 m _ (bind1_ok hb).1
        simp only [V, Lf.build] at hv ⊢
        obtain ⟨b, h1, h2⟩ := hv
        exact ⟨b, by simp [gmap, hk m _ hl, hl, h1, Loc.shift], h2⟩
      · cases h
    · cases h
  | .lint k n, v, u, ms, ms', x, h, hx, hv => by
    simp only [Lf.mat] at h; split at h
    · split at h
      · rename_i e; cases h; obtain ⟨rfl, rfl⟩ := e; simp only [V, Lf.build] at hv ⊢; exact hv
      · cases h
    · cases h
theorem Lf.mats_ok (hm : Mem w0 R0 S0 γ ob w) (hk : ∀ m b, look fin.mu m = some b → keys m = true) : ∀ {ls : List Lf} {cs : List SV} {us : List Value} {ms ms' : MS} {x : Lf.Ts ls}, Lf.mats ob ls cs ms = some (x, ms') → Ext ms' fin → VL w γ cs us → VL w (gmap γ ob keys fin) (Lf.builds ls x) us
  | [], cs, us, ms, ms', x, h, hx, hv => by
    simp only [Lf.mats] at h; split at h
    · simp only [VL, Lf.builds] at hv ⊢; exact hv
    · cases h
  | l :: ls, [], us, ms, ms', x, h, hx, hv => by simp only [Lf.mats] at h; cases h
  | l :: ls, c :: cs, [], ms, ms', x, h, hx, hv => by simp only [VL] at hv
  | l :: ls, c :: cs, u :: us, ms, ms', x, h, hx, hv => by
    simp only [Lf.mats] at h
    split at h
    · rename_i h1
      split at h
      · rename_i h2
        cases h
        simp only [VL, Lf.builds] at hv ⊢
        exact ⟨Lf.mat_ok hm hk h1 ((Lf.mats_ext h2).trans hx) hv.1, Lf.mats_ok hm hk h2 hx hv.2⟩
      · cases h
    · cases h
end

theorem Lf.mats_len : ∀ {ls : List Lf} {cs : List SV} {ms ms' : MS} {x : Lf.Ts ls}, Lf.mats ob ls cs ms = some (x, ms') → cs.length = ls.length
  | [], cs, ms, ms', x, h => by
    simp only [Lf.mats] at h; split at h
    · rfl
    · cases h
  | l :: ls, [], ms, ms', x, h => by simp only [Lf.mats] at h; cases h
  | l :: ls, c :: cs, ms, ms', x, h => by
    simp only [Lf.mats] at h
    split at h
    · split at h
      · rename_i h2
        simp [Lf.mats_len h2]
      · cases h
    · cases h

theorem Lf.builds_len : ∀ {ls : List Lf} {x : Lf.Ts ls}, (Lf.builds ls x).length = ls.length
  | [], _ => rfl
  | l :: ls, x => by simp [Lf.builds, Lf.builds_len (ls := ls)]

theorem ObT.mat_ext {m : Nat} {o : ObT} {ms ms' : MS} {x : o.T} (h : o.mat ob m ms = some (x, ms')) : Ext ms ms' := by
  cases o with
  | box ls =>
    simp only [ObT.mat] at h
    split at h
    · split at h
      · split at h
        · exact Lf.mats_ext h
        · cases h
      · cases h
    · cases h
  | arr e =>
    simp only [ObT.mat] at h
    split at h
    · split at h
      · split at h
        · split at h
          · cases h; exact Ext.refl _
          · cases h
        · cases h
      · cases h
    · cases h; exact Ext.refl _
    · cases h
  | iter =>
    simp only [ObT.mat] at h
    split at h
    · split at h
      · split at h
        · cases h; exact Ext.refl _
        · cases h
      · cases h
    · cases h

/-- an object that matches: where it lies, what it is -/
theorem ObT.mat_ok (hm : Mem w0 R0 S0 γ ob w) (hk : ∀ m b, look fin.mu m = some b → keys m = true) {m : Nat} {o : ObT} {ms ms' : MS} {x : o.T} (h : o.mat ob m ms = some (x, ms')) (hx : Ext ms' fin) :
    ∃ l, (gmap γ ob keys fin).β m 0 = some l ∧ ObOK w (gmap γ ob keys fin) l (o.build x) ∧ ∀ b i, reg l (o.build x) b i → ∃ n g off, look fin.mu m = some (.ob n g off) ∧ RG γ ob n b i := by
  cases o with
  | box ls =>
    simp only [ObT.mat] at h
    split at h
    · rename_i n g off hl
      split at h
      · rename_i g' cs hg
        split at h
        · rename_i e
          obtain ⟨e, _⟩ := e
          subst e
          have hl' := hx.1 _ _ ((Lf.mats_ext h).1 _ _ hl)
          obtain ⟨l, h1, b, o, rfl, vs, h2, h3, h4, h5⟩ := hm.objs n _ hg
          simp only at h1
          have hlen := Lf.mats_len h
          have hlc : off + ls.length ≤ cs.length ∨ ls.length = 0 := by
            simp at hlen
            omega
          have hvl := h2.len
          refine ⟨.blk b (o + off), by simp [gmap, hk m _ hl', hl', h1, Loc.shift], ⟨b, o + off, rfl, (vs.drop off).take ls.length, Lf.mats_ok hm hk h hx ((h2.drop off).take _), fun v hv => h3 v (List.mem_of_mem_drop (List.mem_of_mem_take hv)), rangeAt_take (rangeAt_drop h4 off) _, fun j hj => ?_⟩, fun b' i hr => ?_⟩
          · rw [Lf.builds_len] at hj
            have := h5 (off + j) (by omega)
            rwa [← Nat.add_assoc] at this
          · obtain ⟨h6, h7, h8⟩ := hr
            simp only [Lf.builds_len] at h8
            exact ⟨n, g, off, hl', _, _, hg, h1, h6, by show o ≤ i; omega, by show i < o + cs.length; omega⟩
        · cases h
      · cases h
    · cases h
  | arr e =>
    simp only [ObT.mat] at h
    split at h
    · rename_i n g off hl
      split at h
      · rename_i g' e' xs hg
        split at h
        · rename_i eg
          subst eg
          split at h
          · rename_i he
            subst he
            cases h
            have hl' := hx.1 _ _ hl
            obtain ⟨l, h1, A, len, cap, rfl, h2⟩ := hm.objs n _ hg
            simp only at h1
            refine ⟨.hdr A len cap, by simp [gmap, hk m _ hl', hl', h1, Loc.shift], ⟨A, len, cap, rfl, h2.1, h2.2.1, h2.2.2.1, h2.2.2.2.1, fun a ha => ?_⟩, fun b i hr => ⟨n, g, off, hl', _, _, hg, h1, hr⟩⟩
            obtain ⟨h3, h4, h5⟩ := h2.2.2.2.2 a ha
            exact ⟨h3, h4, fun i hi => by obtain ⟨cs, h6, h7⟩ := h5 i hi; exact ⟨cs, h6.mono le_gmap_S (fun _ _ _ _ h => h), h7⟩⟩
          · cases h
        · cases h
      · cases h
    · rename_i hl
      cases h
      have hl' := hx.1 _ _ hl
      refine ⟨.hdr none 0 0, by simp [gmap, hk m _ hl', hl'], ⟨none, 0, 0, rfl, rfl, Nat.le_refl _, by simp, fun _ => rfl, fun a ha => by cases ha⟩, fun b i hr => hr.elim⟩
    · cases h
  | iter =>
    simp only [ObT.mat] at h
    split at h
    · rename_i n g off hl
      split at h
      · rename_i g' s p hg
        split at h
        · rename_i eg
          obtain ⟨eg, eo⟩ := eg
          subst eg
          subst eo
          cases h
          have hl' := hx.1 _ _ hl
          obtain ⟨l, h1, b, rfl, h2⟩ := hm.objs n _ hg
          simp only at h1
          exact ⟨.blk b 0, by simp [gmap, hk m _ hl', hl', h1, Loc.shift], ⟨b, rfl, h2⟩, fun b' i hr => ⟨n, g, 0, hl', _, _, hg, h1, hr⟩⟩
        · cases h
      · cases h
    · cases h

theorem matObs_ext : ∀ {l : List (Nat × ObT)} {ms ms' : MS} {x : ObTs l}, matObs ob l ms = some (x, ms') → Ext ms ms'
  | [], ms, ms', x, h => by simp only [matObs] at h; cases h; exact Ext.refl _
  | (m, o) :: r, ms, ms', x, h => by
    simp only [matObs] at h
    split at h
    · split at h
      · rename_i h1
        split at h
        · rename_i h2
          cases h
          exact (matObs_ext h1).trans (ObT.mat_ext h2)
        · cases h
      · cases h
    · split at h
      · rename_i h1
        split at h
        · rename_i h2
          cases h
          exact (ObT.mat_ext h1).trans (matObs_ext h2)
        · cases h
      · cases h

theorem matObs_ok (hm : Mem w0 R0 S0 γ ob w) (hk : ∀ m b, look fin.mu m = some b → keys m = true) : ∀ {l : List (Nat × ObT)} {ms ms' : MS} {x : ObTs l}, matObs ob l ms = some (x, ms') → Ext ms' fin →
    ∀ m ent, get (buildObs l x) m = some ent → ent.g = 0 ∧ ∃ lc, (gmap γ ob keys fin).β m 0 = some lc ∧ ObOK w (gmap γ ob keys fin) lc ent.o ∧ ∀ b i, reg lc ent.o b i → ∃ n g off, look fin.mu m = some (.ob n g off) ∧ RG γ ob n b i
  | [], ms, ms', x, h, hx, m, ent, he => by simp [buildObs, get] at he
  | (k, o) :: r, ms, ms', x, h, hx, m, ent, he => by
    simp only [matObs] at h
    split at h
    · split at h
      · rename_i h1
        split at h
        · rename_i h2
          cases h
          simp only [buildObs] at he
          rw [get_upd] at he
          split at he
          · rename_i e
            subst e
            cases he
            exact ⟨rfl, ObT.mat_ok hm hk h2 hx⟩
          · exact matObs_ok hm hk h1 ((ObT.mat_ext h2).trans hx) m ent he
        · cases h
      · cases h
    · split at h
      · rename_i h1
        split at h
        · rename_i h2
          cases h
          simp only [buildObs] at he
          rw [get_upd] at he
          split at he
          · rename_i e
            subst e
            cases he
            exact ⟨rfl, ObT.mat_ok hm hk h1 ((matObs_ext h2).trans hx)⟩
          · exact matObs_ok hm hk h2 hx m ent he
        · cases h
      · cases h

theorem buildObs_some : ∀ {l : List (Nat × ObT)} {x : ObTs l} {m : Nat}, (look l m).isSome = true → ∃ ent, get (buildObs l x) m = some ent
  | [], _, m, h => by simp [look] at h
  | (k, o) :: r, x, m, h => by
    simp only [buildObs, get_upd]
    simp only [look] at h
    by_cases e : k = m
    · exact ⟨_, by rw [if_pos e]⟩
    · rw [if_neg e] at h ⊢
      exact buildObs_some h

theorem matObs_box : ∀ {l : List (Nat × ObT)} {ms ms' : MS} {x : ObTs l}, matObs ob l ms = some (x, ms') → ∀ {m : Nat} {ls : List Lf}, look l m = some (.box ls) → nodupKeys l = true →
    ∃ n g off cs z, look ms'.mu m = some (.ob n g off) ∧ get ob n = some ⟨g, .box cs⟩ ∧ off + ls.length ≤ cs.length ∧ get (buildObs l x) m = some ⟨0, .box (Lf.builds ls z)⟩
  | [], ms, ms', x, h, m, ls, hl, _ => by simp [look] at hl
  | (k, o) :: r, ms, ms', x, h, m, ls, hl, hnd => by
    simp only [nodupKeys, Bool.and_eq_true] at hnd
    have here : ∀ {msA msB : MS} {x0 : o.T} {y0 : ObTs r}, o.mat ob k msA = some (x0, msB) → Ext msB ms' → k = m → o = .box ls →
        ∃ n g off cs z, look ms'.mu m = some (.ob n g off) ∧ get ob n = some ⟨g, .box cs⟩ ∧ off + ls.length ≤ cs.length ∧ get (buildObs ((k, o) :: r) (x0, y0)) m = some ⟨0, .box (Lf.builds ls z)⟩ := by
      rintro msA msB x0 y0 h1 hE rfl rfl
      have hE1 := ObT.mat_ext h1
      simp only [ObT.mat] at h1
      split at h1
      · rename_i n g off hlk
        split at h1
        · rename_i g' cs hg
          split at h1
          · rename_i eg
            obtain ⟨eg, hz⟩ := eg
            subst eg
            have hl2 := hE.1 _ _ (hE1.1 _ _ hlk)
            exact ⟨n, g, off, cs, x0, hl2, hg, hz, by simp only [buildObs, get_upd_same, ObT.build]⟩
          · cases h1
        · cases h1
      · cases h1
    have there : ∀ {x0 : o.T} {y0 : ObTs r}, k ≠ m → (∃ n g off cs z, look ms'.mu m = some (.ob n g off) ∧ get ob n = some ⟨g, .box cs⟩ ∧ off + ls.length ≤ cs.length ∧ get (buildObs r y0) m = some ⟨0, .box (Lf.builds ls z)⟩) →
        ∃ n g off cs z, look ms'.mu m = some (.ob n g off) ∧ get ob n = some ⟨g, .box cs⟩ ∧ off + ls.length ≤ cs.length ∧ get (buildObs ((k, o) :: r) (x0, y0)) m = some ⟨0, .box (Lf.builds ls z)⟩ := by
      rintro x0 y0 hne ⟨n, g, off, cs, z, h3, h4, h5, h6⟩
      exact ⟨n, g, off, cs, z, h3, h4, h5, by simp only [buildObs]; rw [get_upd_ne hne]; exact h6⟩
    simp only [matObs] at h
    simp only [look] at hl
    split at h
    · split at h
      · rename_i y0 msA h1
        split at h
        · rename_i x0 msB h2
          cases h
          split at hl
          · rename_i e
            exact here h2 (Ext.refl _) e (Option.some.inj hl)
          · rename_i hne
            obtain ⟨n, g, off, cs, z, h3, h4, h5, h6⟩ := matObs_box h1 hl hnd.2
            exact there hne ⟨n, g, off, cs, z, (ObT.mat_ext h2).1 _ _ h3, h4, h5, h6⟩
        · cases h
      · cases h
    · split at h
      · rename_i x0 msA h1
        split at h
        · rename_i y0 msB h2
          cases h
          split at hl
          · rename_i e
            exact here h1 (matObs_ext h2) e (Option.some.inj hl)
          · rename_i hne
            exact there hne (matObs_box h2 hl hnd.2)
        · cases h
      · cases h

theorem matObs_arr : ∀ {l : List (Nat × ObT)} {ms ms' : MS} {x : ObTs l}, matObs ob l ms = some (x, ms') → ∀ (m : Nat) (e : K), look l m = some (.arr e) →
    look ms'.mu m = some .nil ∨ ∃ n g off xs, look ms'.mu m = some (.ob n g off) ∧ get ob n = some ⟨g, .arr e xs⟩
  | [], ms, ms', x, h => by intro m e hl; simp [look] at hl
  | (k, o) :: r, ms, ms', x, h => by
    intro m e hl
    have here : ∀ {msA msB : MS} {x0 : o.T}, o.mat ob k msA = some (x0, msB) → Ext msB ms' → k = m → o = .arr e →
        look ms'.mu m = some .nil ∨ ∃ n g off xs, look ms'.mu m = some (.ob n g off) ∧ get ob n = some ⟨g, .arr e xs⟩ := by
      rintro msA msB x0 h1 hE rfl rfl
      simp only [ObT.mat] at h1
      split at h1
      · rename_i n g off hlk
        split at h1
        · rename_i g' e' xs hg
          split at h1
          · rename_i eg
            subst eg
            split at h1
            · rename_i he
              subst he
              cases h1
              exact .inr ⟨n, g, off, xs, hE.1 _ _ hlk, hg⟩
            · cases h1
          · cases h1
        · cases h1
      · rename_i hlk
        cases h1
        exact .inl (hE.1 _ _ hlk)
      · cases h1
    simp only [matObs] at h
    simp only [look] at hl
    split at h
    · split at h
      · rename_i y0 msA h1
        split at h
        · rename_i x0 msB h2
          cases h
          split at hl
          · rename_i e1
            exact here h2 (Ext.refl _) e1 (Option.some.inj hl)
          · have hE := ObT.mat_ext h2
            rcases matObs_arr h1 m e hl with h3 | ⟨n, g, off, xs, h3, h4⟩
            · exact .inl (hE.1 _ _ h3)
            · exact .inr ⟨n, g, off, xs, hE.1 _ _ h3, h4⟩
        · cases h
      · cases h
    · split at h
      · rename_i x0 msA h1
        split at h
        · rename_i y0 msB h2
          cases h
          split at hl
          · rename_i e1
            exact here h1 (matObs_ext h2) e1 (Option.some.inj hl)
          · exact matObs_arr h2 m e hl
        · cases h
      · cases h

theorem apart_mem : ∀ {mu : Mu}, mu.apart = true → ∀ p q : Nat × Bd, p ∈ mu → q ∈ mu → ∀ n g1 o1 g2 o2, p.2 = .ob n g1 o1 → q.2 = .ob n g2 o2 → p.1 = q.1
  | [], _, p, q, h1, _ => by cases h1
  | (k, b) :: r, h, p, q, h1, h2 => by
    intro n g1 o1 g2 o2 e1 e2
    have key : ∀ {mu : Mu} {n0 : Nat}, (mu.all fun q => q.2.other n0) = true → ∀ q ∈ mu, ∀ n g o, q.2 = .ob n g o → n0 ≠ n := by
      intro mu n0 ha q hq n g o e
      have := List.all_eq_true.1 ha q hq
      rw [e] at this
      simpa [Bd.other] using this
    cases b with
    | nil =>
      simp only [Mu.apart] at h
      rcases List.mem_cons.1 h1 with rfl | h1
      · cases e1
      · rcases List.mem_cons.1 h2 with rfl | h2
        · cases e2
        · exact apart_mem h p q h1 h2 n g1 o1 g2 o2 e1 e2
    | ob n0 g0 o0 =>
      simp only [Mu.apart, Bool.and_eq_true] at h
      rcases List.mem_cons.1 h1 with rfl | h3
      · rcases List.mem_cons.1 h2 with rfl | h4
        · rfl
        · cases e1
          exact absurd rfl (key h.1 q h4 _ _ _ e2)
      · rcases List.mem_cons.1 h2 with rfl | h4
        · cases e2
          exact absurd rfl (key h.1 p h3 _ _ _ e1)
        · exact apart_mem h.2 p q h3 h4 n g1 o1 g2 o2 e1 e2

theorem matSl_ok (hm : Mem w0 R0 S0 γ ob w) (hk : ∀ m b, look fin.mu m = some b → keys m = true) {sl : List SV} {vals : Nat → Value} (hv : ∀ i, V w γ (sl.getD i .undef) (vals i)) : ∀ {l : List (Nat × Lf)} {ms ms' : MS} {x : Lf.Ss l}, matSl sl ob l ms = some (x, ms') →
    Ext ms ms' ∧ (Ext ms' fin → ∀ base : List SV, (∀ i, V w (gmap γ ob keys fin) (base.getD i .undef) (vals i)) → ∀ i, V w (gmap γ ob keys fin) ((buildSl base l x).getD i .undef) (vals i))
  | [], ms, ms', x, h => by simp only [matSl] at h; cases h; exact ⟨Ext.refl _, fun _ base hb => hb⟩
  | (i, l) :: r, ms, ms', x, h => by
    simp only [matSl] at h
    split at h
    · rename_i x0 msA h1
      split at h
      · rename_i y0 msB h2
        cases h
        obtain ⟨h3, h4⟩ := matSl_ok hm hk hv h2
        refine ⟨(Lf.mat_ext h1).trans h3, fun hx base hb j => ?_⟩
        simp only [buildSl, setAt]
        by_cases e : i = j
        · subst e
          by_cases hi : i < (buildSl base r y0).length
          · have := Lf.mat_ok (keys := keys) hm hk h1 (h3.trans hx) (hv i)
            simpa [List.getD, List.getElem?_set_self hi] using this
          · simp only [List.getD]
            rw [List.getElem?_eq_none (by simp; omega)]
            simp only [Option.getD, V]
        · simp only [List.getD, List.getElem?_set_ne e]
          exact h4 hx base hb j
      · cases h
    · cases h

theorem apart_ok : ∀ {mu : Mu}, mu.apart = true → ∀ m1 m2 n g1 o1 g2 o2, look mu m1 = some (.ob n g1 o1) → look mu m2 = some (.ob n g2 o2) → m1 = m2
  | [], _, m1, m2, n, g1, o1, g2, o2, h1, _ => by simp [look] at h1
  | (k, b) :: r, h, m1, m2, n, g1, o1, g2, o2, h1, h2 => by
    have key : ∀ {mu : Mu} {n0 : Nat}, (mu.all fun q => q.2.other n0) = true → ∀ m n g o, look mu m = some (.ob n g o) → n0 ≠ n := by
      intro mu n0
      induction mu with
      | nil => intro _ m n g o hl; simp [look] at hl
      | cons q mu ih =>
        obtain ⟨k, b⟩ := q
        intro ha m n g o hl
        simp only [List.all_cons, Bool.and_eq_true] at ha
        simp only [look] at hl
        split at hl
        · cases hl
          have := ha.1
          simpa [Bd.other] using this
        · exact ih ha.2 m n g o hl
    simp only [look] at h1 h2
    cases b with
    | nil =>
      simp only [Mu.apart] at h
      split at h1
      · cases h1
      · split at h2
        · cases h2
        · exact apart_ok h _ _ _ _ _ _ _ h1 h2
    | ob n0 g0 o0 =>
      simp only [Mu.apart, Bool.and_eq_true] at h
      obtain ⟨ha, hr⟩ := h
      split at h1
      · rename_i e1
        split at h2
        · rename_i e2
          rw [← e1, ← e2]
        · cases h1
          exact absurd rfl (key ha _ _ _ _ h2)
      · split at h2
        · cases h2
          exact absurd rfl (key ha _ _ _ _ h1)
        · exact apart_ok hr _ _ _ _ _ _ _ h1 h2

theorem offs_ok : ∀ {mu : Mu} {l : List Nat}, mu.offs l = true → ∀ m n g o, look mu m = some (.ob n g o) → n ∉ l
  | [], _, _, m, n, g, o, h1 => by simp [look] at h1
  | (k, b) :: r, l, h, m, n, g, o, h1 => by
    simp only [look] at h1
    cases b with
    | nil =>
      simp only [Mu.offs] at h
      split at h1
      · cases h1
      · exact offs_ok h _ _ _ _ h1
    | ob n0 g0 o0 =>
      simp only [Mu.offs, Bool.and_eq_true] at h
      obtain ⟨ha, hr⟩ := h
      split at h1
      · cases h1
        intro hn
        have := List.all_eq_true.1 ha n hn
        simp at this
      · exact offs_ok hr _ _ _ _ h1

/-- a state that matches a template, in the template's names -/
structure Mat (w0 : World) (R0 S0 : Nat → Nat → Prop) (γ : Gh) (ob : Obs) (w : World) (t : Tm) (x : t.T) (ms : MS) (γ2 : Gh) : Prop where
  objs : ∀ m ent, get (buildObs t.ob x.2) m = some ent → ent.g = 0 ∧ ∃ l, γ2.β m 0 = some l ∧ ObOK w γ2 l ent.o
  none : ∀ m g, (∀ ent, get (buildObs t.ob x.2) m = some ent → ent.g < g) → γ2.β m g = none
  disj : ∀ n m, n ≠ m → ∀ b i, RG γ2 (buildObs t.ob x.2) n b i → RG γ2 (buildObs t.ob x.2) m b i → False
  stab : ∀ n b i, RG γ2 (buildObs t.ob x.2) n b i → ¬ γ2.S b i
  sub : ∀ m b i, RG γ2 (buildObs t.ob x.2) m b i → ∃ n g off, look ms.mu m = some (.ob n g off) ∧ RG γ ob n b i
  S : γ2.S = fun b i => γ.S b i ∨ ∃ n, n ∈ ms.rd ∧ RG γ ob n b i
  β : ∀ m, γ2.β m 0 = (gmap γ ob (fun m => (look t.ob m).isSome) ms).β m 0
  apart : ∀ m1 m2 n g1 o1 g2 o2, look ms.mu m1 = some (.ob n g1 o1) → look ms.mu m2 = some (.ob n g2 o2) → m1 = m2
  offs : ∀ m n g o, look ms.mu m = some (.ob n g o) → n ∉ ms.rd
  box : ∀ m ls, look t.ob m = some (.box ls) → nodupKeys t.ob = true → ∃ n g off cs z, look ms.mu m = some (.ob n g off) ∧ get ob n = some ⟨g, .box cs⟩ ∧ off + ls.length ≤ cs.length ∧ get (buildObs t.ob x.2) m = some ⟨0, .box (Lf.builds ls z)⟩
  rdarr : ∀ n, n ∈ ms.rd → ∃ g e xs, get ob n = some ⟨g, .arr e xs⟩
  keys : ∀ m b, look ms.mu m = some b → (look t.ob m).isSome = true
  arr : ∀ m e, look t.ob m = some (.arr e) → look ms.mu m = some .nil ∨ ∃ n g off xs, look ms.mu m = some (.ob n g off) ∧ get ob n = some ⟨g, .arr e xs⟩
  apartM : ms.mu.apart = true

theorem Tm.mat_ok (hm : Mem w0 R0 S0 γ ob w) {sl : List SV} {vals : Nat → Value} (hv : ∀ i, V w γ (sl.getD i .undef) (vals i)) {t : Tm} {x : t.T} {ms : MS} (h : t.mat sl ob = some (x, ms)) :
    ∃ γ2, Mat w0 R0 S0 γ ob w t x ms γ2 ∧ ∀ base : List SV, (∀ i, base.getD i .undef = .undef) → ∀ i, V w γ2 ((buildSl base t.sl x.1).getD i .undef) (vals i) := by
  unfold Tm.mat at h
  split at h
  · rename_i x1 ms1 h1
    split at h
    · rename_i y ms2 h2
      split at h
      · rename_i hc
        cases h
        simp only [Bool.and_eq_true] at hc
        obtain ⟨⟨⟨ha, ho⟩, hra⟩, hk0⟩ := hc
        have hk : ∀ m b, look ms.mu m = some b → (fun m => (look t.ob m).isSome) m = true := by
          have : ∀ {mu : Mu}, (mu.all fun p => (look t.ob p.1).isSome) = true → ∀ m b, look mu m = some b → (look t.ob m).isSome = true := by
            intro mu
            induction mu with
            | nil => intro _ m b hl; simp [look] at hl
            | cons q mu ih =>
              obtain ⟨k, c⟩ := q
              intro hq m b hl
              simp only [List.all_cons, Bool.and_eq_true] at hq
              simp only [look] at hl
              split at hl
              · rename_i e; subst e; exact hq.1
              · exact ih hq.2 m b hl
          exact this hk0
        have hext := matObs_ext h2
        have hO := matObs_ok (keys := fun m => (look t.ob m).isSome) hm hk h2 (Ext.refl _)
        have hS := (matSl_ok (keys := fun m => (look t.ob m).isSome) (fin := ms) hm hk hv h1).2 hext
        have hsub : ∀ m b i, RG (gmap γ ob (fun m => (look t.ob m).isSome) ms) (buildObs t.ob y) m b i → ∃ n g off, look ms.mu m = some (.ob n g off) ∧ RG γ ob n b i := by
          rintro m b i ⟨ent, l, h3, h4, h5⟩
          obtain ⟨h6, l', h7, _, h8⟩ := hO m ent h3
          rw [h6, h7] at h4
          cases h4
          exact h8 b i h5
        refine ⟨gmap γ ob (fun m => (look t.ob m).isSome) ms, ⟨fun m ent he => ?_, fun m g hg => ?_, fun n m hnm b i h3 h4 => ?_, fun n b i h3 h4 => ?_, hsub, rfl, fun m => rfl, apart_ok ha, offs_ok ho, fun m ls hl hnd => matObs_box h2 hl hnd, fun n hn => ?_, hk, fun m e hl => matObs_arr h2 m e hl, ha⟩, fun base hb => hS base fun i => by rw [hb i]; simp only [V]⟩
        · obtain ⟨h6, l', h7, h8, _⟩ := hO m ent he
          exact ⟨h6, l', h7, h8⟩
        · simp only [gmap]
          by_cases hkm : (look t.ob m).isSome = true
          · obtain ⟨ent, he⟩ := buildObs_some (x := y) hkm
            have h6 := (hO m ent he).1
            have := hg ent he
            rw [if_neg (by omega)]
          · rw [if_neg (fun hh => hkm hh.2)]
        · obtain ⟨n1, g1, o1, h5, h6⟩ := hsub n b i h3
          obtain ⟨n2, g2, o2, h7, h8⟩ := hsub m b i h4
          by_cases e : n1 = n2
          · subst e
            exact hnm (apart_ok ha _ _ _ _ _ _ _ h5 h7)
          · exact hm.disj n1 n2 e b i h6 h8
        · obtain ⟨n1, g1, o1, h5, h6⟩ := hsub n b i h3
          rcases h4 with h4 | ⟨n2, h7, h8⟩
          · exact hm.stab n1 b i h6 h4
          · have hne : n1 ≠ n2 := fun e => offs_ok ho _ _ _ _ h5 (e ▸ h7)
            exact hm.disj n1 n2 hne b i h6 h8
        · have := List.all_eq_true.1 hra n hn
          split at this
          · rename_i g e xs hg
            exact ⟨g, e, xs, hg⟩
          · cases this
      · cases h
    · cases h
  · cases h

/-- in the same run: a loop's head, a place where ways meet -/
theorem Mat.mem (hm : Mem w0 R0 S0 γ ob w) {t : Tm} {x : t.T} {ms : MS} {γ2 : Gh} (h : Mat w0 R0 S0 γ ob w t x ms γ2) : Mem w0 R0 S0 γ2 (buildObs t.ob x.2) w := by
  refine ⟨fun n ent he => ?_, h.none, h.disj, h.stab, fun n b i hr => ?_, fun b i hs => ?_, fun b i hs => ?_, hm.ev⟩
  · obtain ⟨h1, l, h2, h3⟩ := h.objs n ent he
    exact ⟨l, by rw [h1]; exact h2, h3⟩
  · obtain ⟨m, g, off, _, h1⟩ := h.sub n b i hr
    exact hm.live m b i h1
  · rw [h.S] at hs
    rcases hs with hs | ⟨n, _, h1⟩
    · exact hm.sex b i hs
    · exact (hm.live n b i h1).2
  · rw [h.S] at hs
    rcases hs with hs | ⟨n, _, h1⟩
    · exact hm.sb b i hs
    · exact .inr ((hm.live n b i h1).1)

end
end Go.Vm
