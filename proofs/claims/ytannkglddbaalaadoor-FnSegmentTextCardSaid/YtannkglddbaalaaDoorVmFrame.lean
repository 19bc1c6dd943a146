/-
  An operation, with only some objects in sight: the others are as they were.
-/
import Derived.Test.YtannkglddbaalaaDoorVmDraw2
set_option linter.unusedSimpArgs false
set_option linter.unusedVariables false
namespace Go.Vm

section
variable {E : Env} {R : Type} {w0 : World} {R0 S0 : Nat → Nat → Prop} {γ : Gh} {w w' : World} {ob : Obs}

def Gh.only (γ : Gh) (ts : List Nat) : Gh := ⟨fun n g => if n ∈ ts then γ.β n g else none, γ.S⟩

mutual
theorem V.only {ts : List Nat} : ∀ {c : SV} {v : Value}, (∀ n ∈ svN c, n ∈ ts) → V w γ c v → V w (γ.only ts) c v
  | .undef, _, _, _ => by simp only [V]
  | .skip, _, _, x => by simp only [V] at x ⊢; exact x
  | .int _ _, _, _, x => by simp only [V] at x ⊢; exact x
  | .bool _, _, _, x => by simp only [V] at x ⊢; exact x
  | .str _, _, _, x => by simp only [V] at x ⊢; exact x
  | .ro _ _, _, _, x => by simp only [V] at x ⊢; exact x
  | .own n g, _, h, x => by
    simp only [V] at x ⊢
    obtain ⟨A, l, c, h1, h2⟩ := x
    exact ⟨A, l, c, by simp only [Gh.only]; rw [if_pos (h n (by simp [svN]))]; exact h1, h2⟩
  | .nilsl, _, _, x => by simp only [V] at x ⊢; exact x
  | .ptr n g off, _, h, x => by
    simp only [V] at x ⊢
    obtain ⟨b, o, h1, h2⟩ := x
    exact ⟨b, o, by simp only [Gh.only]; rw [if_pos (h n (by simp [svN]))]; exact h1, h2⟩
  | .elt _ n g _ _, _, h, x => by
    simp only [V] at x ⊢
    obtain ⟨b, o, l, c, h1, h2⟩ := x
    exact ⟨b, o, l, c, by simp only [Gh.only]; rw [if_pos (h n (by simp [svN]))]; exact h1, h2⟩
  | .relt _ _ _, _, _, x => by simp only [V] at x ⊢; exact x
  | .nilptr, _, _, x => by simp only [V] at x ⊢; exact x
  | .err _, _, _, x => by simp only [V] at x ⊢; exact x
  | .iter n g, _, h, x => by
    simp only [V] at x ⊢
    obtain ⟨b, h1, h2⟩ := x
    exact ⟨b, by simp only [Gh.only]; rw [if_pos (h n (by simp [svN]))]; exact h1, h2⟩
  | .agg cs, _, h, x => by
    simp only [V] at x ⊢
    obtain ⟨vs, h1, h2, h3⟩ := x
    exact ⟨vs, h1, VL.only (by simpa [svN] using h) h2, h3⟩
  | .tup cs, _, h, x => by
    simp only [V] at x ⊢
    obtain ⟨vs, h1, h2⟩ := x
    exact ⟨vs, h1, VL.only (by simpa [svN] using h) h2⟩
  | .fn _ caps, _, h, x => by
    simp only [V] at x ⊢
    obtain ⟨vs, h1, h2⟩ := x
    exact ⟨vs, h1, VL.only (by simpa [svN] using h) h2⟩
theorem VL.only {ts : List Nat} : ∀ {cs : List SV} {vs : List Value}, (∀ n ∈ svNs cs, n ∈ ts) → VL w γ cs vs → VL w (γ.only ts) cs vs
  | [], _, _, x => by simp only [VL] at x ⊢; exact x
  | c :: cs, [], _, x => by simp only [VL] at x
  | c :: cs, v :: vs, h, x => by
    simp only [VL] at x ⊢
    simp only [svNs, List.mem_append] at h
    exact ⟨V.only (fun n hn => h n (.inl hn)) x.1, VL.only (fun n hn => h n (.inr hn)) x.2⟩
end

theorem RG_only {ts : List Nat} {n b i : Nat} (h : RG (γ.only ts) (restr ob ts) n b i) : n ∈ ts ∧ RG γ ob n b i := by
  obtain ⟨ent, l, h1, h2, h3⟩ := h
  rw [get_restr] at h1
  split at h1
  · rename_i hn
    simp only [Gh.only, if_pos hn] at h2
    exact ⟨hn, ent, l, h1, h2, h3⟩
  · cases h1

/-- the memory of these objects alone -/
theorem Mem.only (hm : Mem w0 R0 S0 γ ob w) {ts : List Nat} (hT : ∀ n ∈ ts, ∀ m ∈ obN ob n, m ∈ ts) : Mem w (RGs (γ.only ts) (restr ob ts)) γ.S (γ.only ts) (restr ob ts) w := by
  refine ⟨fun n ent hn => ?_, fun n g h => ?_, fun n m hnm b i h1 h2 => hm.disj n m hnm b i (RG_only h1).2 (RG_only h2).2, fun n b i h hs => hm.stab n b i (RG_only h).2 hs, fun n b i h => ⟨.inl ⟨n, h⟩, (hm.live n b i (RG_only h).2).2⟩, hm.sex, fun _ _ h => .inl h, Ev.refl _ _⟩
  · rw [get_restr] at hn
    split at hn
    · rename_i hnt
      obtain ⟨l, h1, h2⟩ := hm.objs n ent hn
      refine ⟨l, by simp only [Gh.only, if_pos hnt]; exact h1, ?_⟩
      obtain ⟨g, o⟩ := ent
      cases o with
      | box cs =>
        obtain ⟨b, off, rfl, vs, h3, h4, h5, h6⟩ := h2
        refine ⟨b, off, rfl, vs, VL.only (fun m hm => hT n hnt m ?_) h3, h4, h5, h6⟩
        simp only [obN, hn]
        exact hm
      | arr e xs => exact h2
      | roa e xs => exact h2
      | iter s p => exact h2
      | gone => trivial
    · cases hn
  · simp only [Gh.only]
    split
    · rename_i hnt
      refine hm.top n g fun ent he => h ent ?_
      rw [get_restr, if_pos hnt]
      exact he
    · rfl

theorem GlOK.later {gl : List (Nat × Obj)} (h : GlOK gl γ w) {R : Nat → Nat → Prop} (hev : Ev R w w') {γ' : Gh} (hS : ∀ b i, γ.S b i → γ'.S b i) (hR : ∀ b i, γ.S b i → ¬ R b i) (hx : ∀ b i, γ.S b i → b < w.heap.size) : GlOK gl γ' w' := by
  intro p hp
  obtain ⟨h1, h2⟩ := h p hp
  refine ⟨?_, fun i => hS _ _ (h2 i)⟩
  rw [hev.block (hx _ _ (h2 0)) fun o => hR _ _ (h2 o)]
  exact h1

/-- THE OTHER OBJECTS ARE AS THEY WERE. -/
theorem Mem.back (hm : Mem w0 R0 S0 γ ob w) {ts : List Nat} {γ' : Gh} {ob' : Obs} (hk : keysOK (restr ob ts) ob' ts = true) (h : Mem w (RGs (γ.only ts) (restr ob ts)) γ.S γ' ob' w') (hle : Le (γ.only ts) w γ' w') :
    ∃ γ2, Mem w0 R0 S0 γ2 (merge ob ob' ts) w' ∧ Le γ w γ2 w' ∧ Le γ' w' γ2 w' := by
  have hout : ∀ n g, n ∉ ts → γ'.β n g = none := fun n g hn => h.top n g fun ent he => by rw [(keys_get hk).1 n hn] at he; cases he
  have hsz := h.ev.size
  have hM : ∀ b i, RGs (γ.only ts) (restr ob ts) b i → R0 b i ∨ w0.heap.size ≤ b := fun b i ⟨n, hr⟩ => (hm.live n b i (RG_only hr).2).1
  have hnoM : ∀ n b i, n ∉ ts → RG γ ob n b i → ¬ RGs (γ.only ts) (restr ob ts) b i := fun n b i hn hr ⟨m, hr2⟩ => by
    obtain ⟨h1, h2⟩ := RG_only hr2
    exact hm.disj n m (fun e => hn (e ▸ h1)) b i hr h2
  refine ⟨⟨fun n g => if n ∈ ts then γ'.β n g else γ.β n g, γ'.S⟩, ?_⟩
  have hle1 : Le γ w ⟨fun n g => if n ∈ ts then γ'.β n g else γ.β n g, γ'.S⟩ w' := by
    refine ⟨fun n g l hb => ?_, hle.S, hle.keeps⟩
    simp only
    split
    · rename_i hn
      exact hle.β n g l (by simp only [Gh.only, if_pos hn]; exact hb)
    · exact hb
  have hle2 : Le γ' w' ⟨fun n g => if n ∈ ts then γ'.β n g else γ.β n g, γ'.S⟩ w' := by
    refine ⟨fun n g l hb => ?_, fun _ _ h => h, fun _ _ _ _ h => h⟩
    simp only
    split
    · exact hb
    · rename_i hn
      rw [hout n g hn] at hb
      cases hb
  have hRG : ∀ n b i, RG ⟨fun n g => if n ∈ ts then γ'.β n g else γ.β n g, γ'.S⟩ (merge ob ob' ts) n b i → (n ∈ ts ∧ RG γ' ob' n b i) ∨ (n ∉ ts ∧ RG γ ob n b i) := by
    rintro n b i ⟨ent, l, h1, h2, h3⟩
    rw [get_merge' hk] at h1
    simp only at h2
    by_cases hn : n ∈ ts
    · rw [if_pos hn] at h1 h2
      exact .inl ⟨hn, ent, l, h1, h2, h3⟩
    · rw [if_neg hn] at h1 h2
      exact .inr ⟨hn, ent, l, h1, h2, h3⟩
  refine ⟨⟨fun n ent hn => ?_, fun n g ht => ?_, ?_, ?_, ?_, h.sex, ?_, ?_⟩, hle1, hle2⟩
  · rw [get_merge' hk] at hn
    by_cases hnt : n ∈ ts
    · rw [if_pos hnt] at hn
      obtain ⟨l, h1, h2⟩ := h.objs n ent hn
      exact ⟨l, by simp only [if_pos hnt]; exact h1, h2.mono (M := fun _ _ => False) hle2 (Ev.refl _ _) fun _ _ _ hf => hf⟩
    · rw [if_neg hnt] at hn
      obtain ⟨l, h1, h2⟩ := hm.objs n ent hn
      exact ⟨l, by simp only [if_neg hnt]; exact h1, h2.mono hle1 h.ev fun b i hr => hnoM n b i hnt ⟨ent, l, hn, h1, hr⟩⟩
  · simp only
    split
    · rename_i hnt
      exact h.top n g fun ent he => ht ent (by rw [get_merge' hk, if_pos hnt]; exact he)
    · rename_i hnt
      exact hm.top n g fun ent he => ht ent (by rw [get_merge' hk, if_neg hnt]; exact he)
  · have key : ∀ n m b i, n ∈ ts → m ∉ ts → RG γ' ob' n b i → RG γ ob m b i → False := by
      intro n m b i hn hmt h1 h2
      rcases (h.live n b i h1).1 with h3 | h3
      · exact hnoM m b i hmt h2 h3
      · have := (hm.live m b i h2).2; omega
    intro n m hnm b i h1 h2
    rcases hRG n b i h1 with ⟨hn, h3⟩ | ⟨hn, h3⟩ <;> rcases hRG m b i h2 with ⟨hm', h4⟩ | ⟨hm', h4⟩
    · exact h.disj n m hnm b i h3 h4
    · exact key n m b i hn hm' h3 h4
    · exact key m n b i hm' hn h4 h3
    · exact hm.disj n m hnm b i h3 h4
  · intro n b i h1 hs
    rcases hRG n b i h1 with ⟨hn, h3⟩ | ⟨hn, h3⟩
    · exact h.stab n b i h3 hs
    · rcases h.sb b i hs with h4 | h4 | h4
      · exact hm.stab n b i h3 h4
      · exact hnoM n b i hn h3 h4
      · have := (hm.live n b i h3).2; omega
  · intro n b i h1
    rcases hRG n b i h1 with ⟨hn, h3⟩ | ⟨hn, h3⟩
    · obtain ⟨h4, h5⟩ := h.live n b i h3
      refine ⟨?_, h5⟩
      rcases h4 with h4 | h4
      · exact hM b i h4
      · have := hm.ev.size; exact .inr (by omega)
    · obtain ⟨h4, h5⟩ := hm.live n b i h3
      exact ⟨h4, by omega⟩
  · intro b i hs
    rcases h.sb b i hs with h1 | h1 | h1
    · exact hm.sb b i h1
    · exact .inr (hM b i h1)
    · have := hm.ev.size; exact .inr (.inr (by omega))
  · exact hm.ev.grow h.ev hM

/-- the slots that an operation looks at -/
def onlySl (xs : List Operand) (sl : List SV) : List SV := (List.range sl.length).map fun t => if xs.any (fun x => match x with | .tmp u => u == t | _ => false) = true then sl.getD t .undef else .undef

theorem onlySl_getD (xs : List Operand) (sl : List SV) (t : Nat) : (onlySl xs sl).getD t .undef = if xs.any (fun x => match x with | .tmp u => u == t | _ => false) = true then sl.getD t .undef else .undef := by
  unfold onlySl
  by_cases h : t < sl.length
  · simp [List.getD, List.getElem?_map, List.getElem?_range h]
  · have h1 : (List.range sl.length)[t]? = none := List.getElem?_eq_none (by simp; omega)
    simp [List.getD, List.getElem?_eq_none (by omega : sl.length ≤ t), h1]

/-- AN OPERATION WITH THESE OBJECTS IN SIGHT. -/
theorem exec_frame {o : Oper} {a : Act} {sl : List SV} {ts : List Nat} {v : SV} {ob' : Obs} {next : Act → World → Prop} {Q : Exit → Act → World → Prop} {gl : List (Nat × Obj)} (hsat : Sats E gl w0 R0 S0) (hS0 : ∀ b i, S0 b i → γ.S b i) (hm : Mem w0 R0 S0 γ ob w) (hs : Sl w γ sl a)
    (hT : okT o.op (opd sl) ob ts = true) (h : exec E (o.dst.getD 0) o.op (opd sl) (restr ob ts) (fun v ob => some (v, ob)) = some (v, ob')) (hk : keysOK (restr ob ts) ob' ts = true)
    (hnext : ∀ u w' γ', V w' γ' v u → Mem w0 R0 S0 γ' (merge ob ob' ts) w' → Le γ w γ' w' → next (a.put o.dst u) w') : o.wp E.P a w next Q := by
  unfold okT at hT
  simp only [Bool.and_eq_true, List.all_eq_true, List.contains_iff_mem] at hT
  obtain ⟨hT1, hT2⟩ := hT
  have hmr := hm.only (ts := ts) hT2
  have hsats : Sats E gl w (RGs (γ.only ts) (restr ob ts)) γ.S := by
    refine ⟨hsat.sat, fun γ1 ob1 w1 h1 hS => ?_⟩
    exact (hsat.gl γ ob w hm hS0).later h1.ev hS (fun b i hs ⟨n, hr⟩ => hm.stab n b i (RG_only hr).2 hs) hm.sex
  have hslr : Sl w (γ.only ts) (onlySl o.op.operands.toList sl) a := by
    refine ⟨by simp only [onlySl, List.length_map, List.length_range]; exact hs.1, fun t => ?_⟩
    rw [onlySl_getD]
    split
    · rename_i hx
      simp only [List.any_eq_true] at hx
      obtain ⟨x, hx1, hx2⟩ := hx
      cases x with
      | tmp u =>
        simp only [beq_iff_eq] at hx2
        subst hx2
        exact V.only (hT1 _ hx1) (hs.2 u)
      | _ => cases hx2
    · simp only [V]
  have hops : ∀ x ∈ o.op.operands, opd (onlySl o.op.operands.toList sl) x = opd sl x := by
    intro x hx
    cases x with
    | tmp t =>
      simp only [opd]
      rw [onlySl_getD, if_pos]
      simp only [List.any_eq_true]
      exact ⟨.tmp t, by simpa using hx, by simp⟩
    | _ => rfl
  rw [← exec_congr hops] at h
  refine exec_ok (γ := γ.only ts) hsats (fun _ _ h => h) hmr hslr h fun v1 ob1 u w1 γ1 h1 h2 h3 h4 => ?_
  cases h1
  obtain ⟨γ2, h5, h6, h7⟩ := hm.back hk h3 h4
  exact hnext u w1 γ2 (h2.mono h7) h5 h6

/-- objects that read alike -/
theorem Mem.congr (hm : Mem w0 R0 S0 γ ob w) {ob2 : Obs} (h : ∀ n, get ob2 n = get ob n) : Mem w0 R0 S0 γ ob2 w := by
  have hR : ∀ n b i, RG γ ob2 n b i → RG γ ob n b i := by
    rintro n b i ⟨ent, l, h1, h2⟩
    exact ⟨ent, l, by rw [← h]; exact h1, h2⟩
  exact ⟨fun n ent hn => hm.objs n ent (by rw [← h]; exact hn), fun n g hn => hm.top n g fun ent he => hn ent (by rw [h]; exact he), fun n m hnm b i h1 h2 => hm.disj n m hnm b i (hR _ _ _ h1) (hR _ _ _ h2),
    fun n b i h1 => hm.stab n b i (hR _ _ _ h1), fun n b i h1 => hm.live n b i (hR _ _ _ h1), hm.sex, hm.sb, hm.ev⟩

end
end Go.Vm
