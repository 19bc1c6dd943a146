/-
  make, append, copy, slicing, conversions, iterators, the small built-in functions.
-/
import Derived.Test.YtannkglddbaalaaDoorVmExec4
set_option linter.unusedSimpArgs false
set_option linter.unusedVariables false
namespace Go.Vm

section
variable {E : Env} {w0 : World} {R0 S0 : Nat → Nat → Prop} {γ : Gh} {w : World} {ob : Obs} {R : Type} {k : SV → Obs → Option R} {r : R}

theorem lim_eq : lim = 4294967296 := rfl

/-! #### Structs -/
theorem putPart_ok {fs : List (Nat × Nat)} {szs : List Nat} : ∀ {ps : List (Nat × SV)} {qs : List (Nat × Value)} {cs ds : List SV} {vs : List Value}, qs.map (·.1) = ps.map (·.1) → VL w γ (ps.map (·.2)) (qs.map (·.2)) → VL w γ cs vs → (∀ v ∈ vs, v.oneCell' = true) →
    putPart fs szs cs ps = some ds → ∃ us, Instr.fill (fun i => match fs[i]?, szs[i]? with | some (off, _), some s => some (off, s) | _, _ => none) vs.toArray qs = some us ∧ VL w γ ds us.toList ∧ ∀ v ∈ us.toList, v.oneCell' = true
  | [], qs, cs, ds, vs, hi, _, hc, h1, h => by
    have : qs = [] := by simpa using hi
    subst this
    simp only [putPart] at h
    cases h
    exact ⟨vs.toArray, rfl, by simpa using hc, by simpa using h1⟩
  | (f, v) :: ps, [], _, _, _, hi, _, _, _, _ => by simp at hi
  | (f, v) :: ps, (f', u) :: qs, cs, ds, vs, hi, hv, hc, h1, h => by
    simp only [List.map_cons, List.cons.injEq] at hi
    obtain ⟨rfl, hi⟩ := hi
    simp only [List.map_cons, VL] at hv
    simp only [putPart] at h
    split at h
    · rename_i off t us hf hcs
      split at h
      · rename_i hl
        obtain ⟨hl1, hl2⟩ := hl
        obtain ⟨h3, h4⟩ := cellsOf_ok hv.1 hcs
        have e1 := h3.len
        have e2 := hc.len
        have hsz : u.cells.size = us.length := by simpa using e1
        obtain ⟨zs, h5, h6, h7⟩ := putPart_ok hi hv.2 (hc.splice (off := off) h3) (fun x hx => by
          simp only [List.mem_append] at hx
          rcases hx with (hx | hx) | hx
          · exact h1 x (List.mem_of_mem_take hx)
          · exact h4 x hx
          · exact h1 x (List.mem_of_mem_drop hx)) h
        refine ⟨zs, ?_, h6, h7⟩
        rw [fill_step (off := off) (size := us.length) (by simp only [hf, hl1]) hsz (by simp; omega)]
        rw [← h5]
        congr 3
        simp [hsz]
      · cases h
    · cases h

theorem sizes_ok : ∀ {ts : List Nat} {szs : List Nat}, sizes E ts = some szs → ∀ i : Nat, szs[i]? = (ts[i]?).bind fun t => (E.ti t).map (·.cells)
  | [], szs, h, i => by simp only [sizes] at h; cases h; simp
  | t :: r, szs, h, i => by
    simp only [sizes] at h
    split at h
    · rename_i ti l h1 h2
      cases h
      cases i with
      | zero => simp [h1]
      | succ i => simpa using sizes_ok h2 i
    · cases h

theorem mapM_run {α β : Type} (f : α → Sem β) (g : α → β) (w : World) (l : List α) (h : ∀ a ∈ l, (f a).run E.P w = .ok (g a) w) : (l.mapM f).run E.P w = .ok (l.map g) w := by
  induction l with
  | nil => simp
  | cons a l ih =>
    simp only [List.mapM_cons, Sem.run_bind, h a (by simp), Result.andThen_ok, ih (fun b hb => h b (by simp [hb])), List.map_cons]
    rfl

theorem sizes_mem : ∀ {ts : List Nat} {szs : List Nat}, sizes E ts = some szs → ∀ t ∈ ts, ∃ ti, E.ti t = some ti
  | [], _, _, t, ht => by cases ht
  | t' :: r, szs, h, t, ht => by
    simp only [sizes] at h
    split at h
    · rename_i ti l h1 h2
      rcases List.mem_cons.1 ht with rfl | ht
      · exact ⟨ti, h1⟩
      · exact sizes_mem h2 t ht
    · cases h

theorem xBuild_ok {t : Nat} {ps : List (Nat × SV)} {qs : List (Nat × Value)} (hm : Mem w0 R0 S0 γ ob w) (hi : qs.map (·.1) = ps.map (·.1)) (hv : VL w γ (ps.map (·.2)) (qs.map (·.2))) (h : xBuild E t ps ob k = some r) :
    Done E w0 R0 S0 γ w (Instr.build t qs.toArray) k r := by
  unfold xBuild at h
  split at h
  · rename_i zz fs _ hti
    obtain ⟨i, d, z, a1, a2, a3, a4, a5, a6, a7, a8, a9, a10, a11⟩ := ti_spec hti
    obtain ⟨gs, rfl, hfs⟩ := mkTD_struct a7.symm
    split at h
    · rename_i szs hsz
      split at h
      · rename_i cs hp
        simp only at a9
        rw [a9] at hp
        obtain ⟨us, h1, h2, h3⟩ := putPart_ok (w := w) (γ := γ) hi hv (ofConsts_ok z.cells.toList) a11 hp
        refine .same hm (u := .agg us) ?_ h (by simp only [V]; exact ⟨us.toList, by simp, h2, h3⟩)
        have hz := run_zero (E := E) a1 a3 w
        have hplaces : (gs.mapM fun f => (do pure (f.offset, ← sizeOf f.type) : Sem (Nat × Nat))).run E.P w = .ok (gs.toList.map fun f => (f.offset, (((E.ti f.type).map (·.cells)).getD 0))).toArray w := by
          rw [← Array.toArray_toList (xs := gs), List.mapM_toArray, Sem.run_map]
          rw [mapM_run (E := E) _ (fun f : Field => (f.offset, (((E.ti f.type).map (·.cells)).getD 0))) w gs.toList (fun f hf => by
            obtain ⟨tf, htf⟩ := sizes_mem hsz f.type (by rw [hfs]; simp; exact ⟨f, by simpa using hf, rfl⟩)
            simp [run_size htf, htf])]
          simp
        have hpl : (fun i : Nat => (gs.toList.map fun f => (f.offset, (((E.ti f.type).map (·.cells)).getD 0))).toArray[i]?) = fun i : Nat => match fs[i]?, szs[i]? with | some (off, _), some s => some (off, s) | _, _ => none := by
          funext i
          rw [sizes_ok hsz i, hfs]
          simp only [List.getElem?_toArray, List.getElem?_map]
          cases hg : gs.toList[i]? with
          | none => simp
          | some f =>
            obtain ⟨tf, htf⟩ := sizes_mem hsz f.type (by rw [hfs]; simp; exact ⟨f, by simpa using List.mem_of_getElem? hg, rfl⟩)
            simp [htf]
        have hcells : z.cells.toList.toArray = z.cells := by simp
        rw [hcells] at h1
        simp only [Instr.build, Sem.run_bind, hz, run_underlying a2, Result.andThen_ok]
        rw [hplaces]
        simp only [Result.andThen_ok]
        rw [hpl, h1]
        rfl
      · cases h
    · cases h
  · cases h

/-! #### make -/
theorem rep_flat (cs : List Value) : ∀ (n j : Nat), ((List.replicate n cs).flatten)[j]? = if j < n * cs.length then cs[j % cs.length]? else none
  | 0, j => by simp
  | n + 1, j => by
    rw [List.replicate_succ, List.flatten_cons, Nat.add_mul, Nat.one_mul]
    rcases Nat.lt_or_ge j cs.length with hj | hj
    · rw [List.getElem?_append_left hj, if_pos (by omega), Nat.mod_eq_of_lt hj]
    · rw [List.getElem?_append_right hj, rep_flat cs n]
      have : (j - cs.length) % cs.length = j % cs.length := (Nat.mod_eq_sub_mod hj).symm
      rw [this]
      by_cases h : j < n * cs.length + cs.length
      · rw [if_pos h, if_pos (by omega)]
      · rw [if_neg h, if_neg (by omega)]

theorem Flat.rep {S : Nat → Nat → Prop} {e : K} {x : e.T} {cs : List Value} (h : Rd w S e x cs) : ∀ n, Flat w S e (List.replicate n x) (List.replicate n cs).flatten
  | 0 => rfl
  | n + 1 => by
    rw [List.replicate_succ, List.replicate_succ, List.flatten_cons]
    exact ⟨cs, _, rfl, h, Flat.rep h n⟩

theorem xMake_ok {d t : Nat} {x y : SV} {a b : Value} (hm : Mem w0 R0 S0 γ ob w) (h1 : V w γ x a) (h2 : V w γ y b) (h : xMake E d t x y ob k = some r) : Done E w0 R0 S0 γ w (Instr.makeSlice t a b) k r := by
  unfold xMake at h
  split at h
  · rename_i tu e hel
    obtain ⟨u, i, z, a1, a2, a3, a4, a5, a6, a7, a8, a9, a10, a11⟩ := el_spec hel
    split at h
    · rename_i kl l kc c zx ob1 hz
      simp only [V] at h1 h2
      obtain ⟨rfl, _⟩ := h1
      obtain ⟨rfl, _⟩ := h2
      split at h
      · rename_i hc
        rw [lim_eq] at hc
        rw [a8] at hz
        obtain ⟨γ1, m1, le1, rd1⟩ := toK1_ok hm (ofConsts_ok z.cells.toList) hz
        have hb : (i.bytes : Int) * c ≤ 281474976710656 := by
          have h3 : (i.bytes : Int) ≤ 16384 := by omega
          have h4 : (i.bytes : Int) * c ≤ 16384 * c := Int.mul_le_mul_of_nonneg_right h3 (by omega)
          omega
        have hrun := run_make w t u i z a1 a3 a4 kl kc l c hc.1 hc.2.1 hb (by omega)
        rw [a5] at hrun
        have hrd := rd1.len
        obtain ⟨hm', hle⟩ := m1.newArr (w' := w.alloc (.cells (madeCells z.cells (c.toNat * e.cells)) u)) (Ev.alloc _ _ _) (size_alloc _ _) (cap := c.toNat) (Flat.rep rd1 l.toNat)
          (rangeAt_alloc _ _ _ _ _ (fun j v hv => by
            rw [rep_flat] at hv
            split at hv
            · rename_i hj
              rw [hrd] at hj hv
              have h5 : l.toNat * e.cells ≤ c.toNat * e.cells := Nat.mul_le_mul_right _ (by omega)
              have h6 : j < c.toNat * e.cells := by omega
              have h7 : z.cells.size = e.cells := by simpa using a9
              have h8 : j % e.cells < z.cells.size := by rw [h7]; exact Nat.mod_lt _ (by rcases Nat.eq_zero_or_pos e.cells with h0 | h0; (rw [h0] at hj; omega); exact h0)
              unfold madeCells
              rw [Array.getElem?_map, Array.getElem?_range]
              rw [if_pos h6]
              show some (z.cells[j % z.cells.size]!) = some v
              rw [h7, getElem!_pos z.cells _ h8]
              rw [Array.getElem?_toList, Array.getElem?_eq_getElem h8] at hv
              exact hv
            · cases hv))
          (there_alloc _ _ _ _ _ (by rw [size_madeCells]; exact Nat.le_refl _) (.inl (by simp))) (by simp; omega) (by simp [lim_eq]; omega) d (fresh ob1 d) (fun ent he => by simp [fresh, he])
        refine ⟨_, _, _, _, _, hrun, h, ?_, hm', le1.trans hle⟩
        have := V_own_new (γ := γ1) d (fresh ob1 d) (some ⟨w.heap.size, 0, none⟩) l.toNat c.toNat (fun _ _ => False) (w.alloc (.cells (madeCells z.cells (c.toNat * e.cells)) u))
        simpa using this
      · cases h
    · cases h
  · cases h

/-! #### append -/
theorem freezes_ok : ∀ (rd : List Nat) {γ : Gh} {ob : Obs}, Mem w0 R0 S0 γ ob w → ∃ γ', Mem w0 R0 S0 γ' (freezes ob rd) w ∧ Le γ w γ' w
  | [], γ, ob, hm => ⟨γ, hm, Le.refl _ _⟩
  | n :: rd, γ, ob, hm => by
    simp only [freezes]
    split
    · rename_i g e xs hg
      obtain ⟨γ1, m1, le1, _⟩ := hm.freeze hg
      obtain ⟨γ2, m2, le2⟩ := freezes_ok rd m1
      exact ⟨γ2, m2, le1.trans le2⟩
    · exact freezes_ok rd hm

/-- what is appended, as the model's law wants it -/
theorem srcOf_ok {e : K} {tx : Nat} {v : SV} {u : Value} {ys : List e.T} {rd : List Nat} (hm : Mem w0 R0 S0 γ ob w) (hv : V w γ v u) (ht : srcTy E tx v = true) (h : srcOf ob e v = some (ys, rd)) :
    ∃ ns, Src E.P e.cells tx u ys.length ns w ∧ Flat w γ.S e ys ns := by
  unfold srcTy at ht
  unfold srcOf at h
  split at h
  · rename_i s
    split at h
    · rename_i he
      cases h
      subst he
      simp only [V] at hv
      obtain ⟨rfl, hs⟩ := hv
      split at ht
      · rename_i hti
        obtain ⟨i, d, z, a1, a2, a3, a4, a5, a6, a7, _⟩ := ti_spec hti
        have hd := mkTD_str a7.symm
        subst hd
        have h1 := Src.ofString (P := E.P) w (tx := tx) a2 (toBA s)
        rw [toBA_size] at h1
        refine ⟨_, h1, ?_⟩
        have h2 : byteCells (toBA s) = s.map (Value.int .u8) := by
          unfold byteCells toBA
          simp only [List.map_map]
          apply List.map_congr_left
          intro x hx
          have := hs.1 x hx
          simp only [Function.comp, UInt8.toNat_ofNat']
          congr 1
          omega
        rw [h2]
        have key : ∀ l : List Int, bytesOK l → Flat w γ.S (.int .u8) l (l.map (Value.int .u8)) := by
          intro l
          induction l with
          | nil => intro _; rfl
          | cons x l ih =>
            intro hl
            exact ⟨[.int .u8 x], _, rfl, ⟨rfl, u8_has.2 (hl x (by simp))⟩, ih fun y hy => hl y (by simp [hy])⟩
        exact key s hs.1
      · simp at ht
      · cases ht
    · cases h
  · rename_i hns
    have hrow := listOf_ok hm hv h
    obtain ⟨A, len, cap, rfl, h1, h2, h3, h4⟩ := hrow
    have hkind : ∃ e', E.P.underlying tx = some (.slice e') := by
      split at ht
      · split at ht
        · exact absurd rfl (hns _)
        · cases ht
      · rename_i hti
        obtain ⟨i, d, z, a1, a2, a3, a4, a5, a6, a7, _⟩ := ti_spec hti
        have hd := mkTD_sl a7.symm
        exact ⟨_, by rw [a2, hd]⟩
      · cases ht
    obtain ⟨e', hk⟩ := hkind
    rcases h4 with rfl | ⟨b, off, ns, rfl, h5, h6⟩
    · simp at h1
      subst h1
      refine ⟨[], ?_, rfl⟩
      cases A with
      | none => exact Src.ofNil w hk cap
      | some a => exact Src.ofSlice w hk a 0 cap [] (by simp) (fun j u hu => by simp at hu) (fun u hu => by cases hu)
    · subst h1
      refine ⟨ns, Src.ofSlice w hk ⟨b, off, none⟩ _ cap ns h5.len (fun j u hu => by rw [add_none]; exact h6 j u hu) h5.one, h5⟩

/-- 'append' onto a row of the call's own (or none) -/
theorem append_ok {t tx ty u : Nat} {i : TypeInfo} {z : Value} {e : K} {A : Option Addr} {len cap : Nat} {xs ys : List e.T} {ns : List Value} {src : Value}
    (ht : E.P.underlying t = some (.slice u)) (hi : E.P.info? u = some i) (hz : i.zero = some z) (hsz : i.size = e.cells) (hby : i.bytes ≤ 16384) (hzl : z.cells.size = e.cells)
    (hm : Mem w0 R0 S0 γ ob w) (hx : ArrOK w γ A len cap e xs) (hs : Src E.P e.cells tx src ys.length ns w) (hf : Flat w γ.S e ys ns) (hl : xs.length + ys.length ≤ lim)
    (n g : Nat) (hg : ∀ ent, get ob n = some ent → ent.g < g) (hR : ∀ b q, reg (.hdr A len cap) (.arr e xs) b q → RG γ ob n b q) :
    ∃ v w' γ', (Builtin.append_ #[t, tx] ty #[.slice A len cap, src]).run E.P w = .ok v w' ∧ V w' γ' (.own n g) v ∧ Mem w0 R0 S0 γ' (upd ob n ⟨g, .arr e (xs ++ ys)⟩) w' ∧ Le γ w γ' w' := by
  have hx' := hx
  obtain ⟨h1, h2, h3, h4, h5⟩ := hx'
  have hfl := hf.len
  rw [lim_eq] at hl
  subst h1
  by_cases hroom : xs.length + ys.length ≤ cap
  · -- there is room
    cases A with
    | none =>
      have hc0 := h4 rfl
      have hx0 : xs = [] := List.eq_nil_of_length_eq_zero (by omega)
      have hy0 : ys = [] := List.eq_nil_of_length_eq_zero (by omega)
      subst hx0
      subst hy0
      subst hc0
      have hrun : (Builtin.append_ #[t, tx] ty #[.slice none 0 0, src]).run E.P w = .ok (.slice none 0 0) w := by
        have hc : (Builtin.firstCells e.cells 0 src).run E.P w = .ok ns.toArray w := hs.cells
        have hl0 : ∀ w' : World, (Builtin.lenOf src).run E.P w' = .ok 0 w' := hs.len
        rcases hs.kind with ⟨e', hk⟩ | hk <;> simp [Builtin.append_, run_underlying ht, run_underlying hk, sizeOf, typeInfo, hi, hl0, hsz, hc]
      obtain ⟨hm', hle⟩ := hm.step (n := n) (g' := g) (o' := .arr e []) (l' := .hdr none 0 0) (M := fun _ _ => False) (D := fun _ _ => False) (Ev.refl _ _) (fun _ _ h => h.elim) (fun ent he => .inl (hg ent he))
        (fun _ => ⟨_, _, _, rfl, rfl, Nat.le_refl _, by simp [lim_eq], by simp, fun a ha => by cases ha⟩) (fun b q hr => hr.elim) (fun _ _ h => h.elim)
      exact ⟨_, _, _, hrun, V_own_new _ _ _ _ _ _ _, by simpa using hm', hle⟩
    | some a =>
      obtain ⟨h6, h7, h8⟩ := h5 a rfl
      obtain ⟨b, o, sp⟩ := a
      simp only at h6
      subst h6
      have hin : ∀ j, j < ns.length → (w.cell? ⟨b, o + xs.length * e.cells + j, none⟩).isSome = true ∧ w.frozen? ⟨b, o + xs.length * e.cells + j, none⟩ = false := fun j hj => by
        have h9 : (xs.length + ys.length) * e.cells ≤ cap * e.cells := Nat.mul_le_mul_right _ hroom
        rw [Nat.add_mul] at h9
        have := h7 (xs.length * e.cells + j) (by omega)
        rwa [← Nat.add_assoc] at this
      have hcap : (xs.length + ys.length) * e.cells ≤ cap * e.cells := Nat.mul_le_mul_right _ hroom
      rw [Nat.add_mul] at hcap
      have hrun := run_append_room_src w t tx ty u i ht hi b o xs.length cap src ys.length ns (by rw [hsz]; exact hs) hroom (by rw [hsz]; exact fun j hj => (hin j hj).1) (by rw [hsz]; exact fun j hj => (hin j hj).2)
      rw [hsz] at hrun
      obtain ⟨hm', hle⟩ := hm.step (n := n) (g' := g) (o' := .arr e (xs ++ ys)) (l' := .hdr (some ⟨b, o, none⟩) (xs.length + ys.length) cap) (w' := w.setCells b (o + xs.length * e.cells) ns)
        (M := fun b' q => b' = b ∧ o + xs.length * e.cells ≤ q ∧ q < o + xs.length * e.cells + ns.length) (D := fun _ _ => False)
        (Ev.setCells b _ _ _ fun j hj => ⟨rfl, by omega, by omega⟩)
        (fun b' q hq => hR b' q ⟨hq.1, by show o ≤ q; omega, by show q < o + cap * e.cells; omega⟩)
        (fun ent he => .inl (hg ent he))
        (fun hle => by
          refine ⟨_, _, _, rfl, by simp, hroom, by simp [lim_eq]; omega, by simp, fun a ha => ?_⟩
          cases ha
          refine ⟨rfl, setCells_there h7 (fun j hj => (hin j hj).1), fun j hj => ?_⟩
          rcases Nat.lt_or_ge j xs.length with hjx | hjx
          · obtain ⟨cs, h10, h11⟩ := h8 j hjx
            have hcl := h10.len
            refine ⟨cs, ?_, fun m v hv => ?_⟩
            · rw [List.getElem_append_left hjx]
              exact h10.mono hle.S hle.keeps
            · have hmm : m < cs.length := (List.getElem?_eq_some_iff.1 hv).1
              rw [World.cell?_setCells_out b ns _ w ⟨b, o + j * e.cells + m, none⟩ (fun _ _ => .inl ?_)]
              · exact h11 m v hv
              · show o + j * e.cells + m < o + xs.length * e.cells
                have := sub_lt (i := j) (len := xs.length) (cap := xs.length) hjx (Nat.le_refl _) (by omega : m < e.cells)
                omega
          · have hnew : (w.setCells b (o + xs.length * e.cells) ns).rangeAt b (o + xs.length * e.cells) ns := fun m v hv => by
              have hmm : m < ns.length := (List.getElem?_eq_some_iff.1 hv).1
              rw [World.cell?_setCells_in b ns _ w (fun q hq => (hin q hq).1) m hmm]
              rw [← hv, List.getElem?_eq_getElem hmm]
            obtain ⟨cs, h10, h11⟩ := (hf.mono hle.S hle.keeps).rows hnew (j - xs.length) (by simp at hj; omega)
            refine ⟨cs, ?_, ?_⟩
            · rw [List.getElem_append_right hjx]
              exact h10
            · have e1 : o + j * e.cells = o + xs.length * e.cells + (j - xs.length) * e.cells := by
                have : j * e.cells = xs.length * e.cells + (j - xs.length) * e.cells := by rw [← Nat.add_mul]; congr 1; omega
                omega
              show World.rangeAt _ b (o + j * e.cells) cs
              rw [e1]
              exact h11)
        (fun b' q hr => by
          have hrg := hR b' q hr
          exact ⟨.inl hrg, Nat.lt_of_lt_of_le (hm.live n b' q hrg).2 (Ev.setCells (R := fun _ _ => True) b _ _ _ (fun _ _ => trivial)).size⟩)
        (fun _ _ hf => hf.elim)
      exact ⟨_, _, _, hrun, V_own_new _ _ _ _ _ _ _, hm', hle⟩
  · -- a new row
    have hgr : cap < xs.length + ys.length := by omega
    have hfit : Builtin.nextslicecap (xs.length + ys.length) cap * i.bytes ≤ 281474976710656 := by
      refine growslice_fits hgr ?_
      have : (xs.length + ys.length) * i.bytes ≤ 4294967296 * 16384 := Nat.mul_le_mul hl hby
      omega
    have hold : ∃ olds, Flat w γ.S e xs olds ∧ (Builtin.firstCells e.cells xs.length (.slice A xs.length cap)).run E.P w.drew = .ok olds.toArray w.drew := by
      cases A with
      | none =>
        have hc0 := h4 rfl
        have hx0 : xs = [] := List.eq_nil_of_length_eq_zero (by omega)
        subst hx0
        exact ⟨[], rfl, run_firstCells_none _ _ _ _ _⟩
      | some a =>
        obtain ⟨h6, h7, h8⟩ := h5 a rfl
        obtain ⟨b, o, sp⟩ := a
        simp only at h6
        subst h6
        obtain ⟨olds, h9, h10⟩ := flat_of_rows h8
        exact ⟨olds, h9, run_firstCells_some w.drew _ _ _ _ _ _ h9.len (fun j v hv => by rw [add_none, World.cell?_drew]; exact h10 j v hv)⟩
    obtain ⟨olds, hfo, hold⟩ := hold
    have hrun := run_append_grow_src w t tx ty u i z ht hi hz A xs.length cap olds (by rw [hsz]; exact hold) src ys.length ns (by rw [hsz]; exact hs) hgr (by omega) hfit
    have hall := hfo.append hf
    have hal := hall.len
    have hge := grownCap_ge w (xs.length + ys.length) cap u
    obtain ⟨hm', hle⟩ := hm.newArr (w' := w.drew.alloc (.cells ((olds ++ ns).toArray ++ Builtin.zeroCells z.cells (grownCap w (xs.length + ys.length) cap u - (xs.length + ys.length))) u))
      ((Ev.drew _ _).trans (Ev.alloc _ _ _)) (size_alloc w.drew _) (cap := grownCap w (xs.length + ys.length) cap u) hall
      (rangeAt_alloc w.drew _ _ _ _ (fun j v hv => by
        have hj : j < (olds ++ ns).length := (List.getElem?_eq_some_iff.1 hv).1
        rw [Array.getElem?_append_left (by simpa using hj)]
        simpa using hv))
      (there_alloc w.drew _ _ _ _ (by
        rw [Array.size_append, size_zeroCells, hzl]
        have h9 : (olds ++ ns).toArray.size = (xs.length + ys.length) * e.cells := by simpa using hal
        rw [h9, ← Nat.add_mul]
        exact Nat.mul_le_mul_right _ (by omega)) (.inl (by simp))) (by simp; omega) (by simp [lim_eq]; omega) n g hg
    refine ⟨_, _, _, hrun, ?_, hm', hle⟩
    have := V_own_new (γ := γ) n g (some ⟨w.heap.size, 0, none⟩) (xs ++ ys).length (grownCap w (xs.length + ys.length) cap u) (fun _ _ => False) (w.drew.alloc (.cells ((olds ++ ns).toArray ++ Builtin.zeroCells z.cells (grownCap w (xs.length + ys.length) cap u - (xs.length + ys.length))) u))
    simpa using this

theorem freezes_get : ∀ (rd : List Nat) {ob : Obs} {n g : Nat} {f : K} {xs : List f.T}, get (freezes ob rd) n = some ⟨g, .arr f xs⟩ → get ob n = some ⟨g, .arr f xs⟩
  | [], _, _, _, _, _, h => h
  | m :: rd, ob, n, g, f, xs, h => by
    simp only [freezes] at h
    split at h
    · have := freezes_get rd h
      rw [get_upd] at this
      split at this
      · cases this
      · exact this
    · exact freezes_get rd h

theorem xAppend_ok {d t tx ty : Nat} {x y : SV} {a b : Value} (hm : Mem w0 R0 S0 γ ob w) (h1 : V w γ x a) (h2 : V w γ y b) (ht : srcTy E tx y = true) (h : xAppend E d t x y ob k = some r) :
    Done E w0 R0 S0 γ w (Builtin.append_ #[t, tx] ty #[a, b]) k r := by
  unfold xAppend at h
  split at h
  · rename_i tu e hel
    obtain ⟨u, i, z, a1, a2, a3, a4, a5, a6, a7, a8, a9, a10, a11⟩ := el_spec hel
    have hzl : z.cells.size = e.cells := by simpa using a9
    split at h
    · cases h
    · rename_i ys rd hsrc
      obtain ⟨ns, hs, hf⟩ := srcOf_ok hm h2 ht hsrc
      have hfr : ∃ γ1, Mem w0 R0 S0 γ1 (if e.deep then freezes ob rd else ob) w ∧ Le γ w γ1 w := by
        split
        · exact freezes_ok rd hm
        · exact ⟨γ, hm, Le.refl _ _⟩
      obtain ⟨γ1, m1, le1⟩ := hfr
      have hf1 := hf.mono le1.S le1.keeps
      simp only at h
      generalize (if e.deep then freezes ob rd else ob) = ob1 at h m1
      split at h
      · split at h
        · rename_i hl
          simp only [V] at h1
          subst h1
          obtain ⟨v, w', γ', hr, hv, hm', hle⟩ := append_ok (ty := ty) (xs := []) (A := none) (len := 0) (cap := 0) a1 a3 a4 a5 a7 hzl m1 ⟨rfl, Nat.le_refl _, by simp, by simp, fun a ha => by cases ha⟩ hs hf1 (by simpa using hl)
            d (fresh ob1 d) (fun ent he => by simp [fresh, he]) (fun b q hr => hr.elim)
          exact ⟨_, _, v, w', γ', hr, h, hv, by unfold newAt; simpa using hm', le1.trans hle⟩
        · cases h
      · rename_i n g
        simp only [V] at h1
        obtain ⟨A, l, c, hb, rfl⟩ := h1
        split at h
        · rename_i g' e' xs hg
          split at h
          · rename_i hgg
            subst hgg
            split at h
            · rename_i he
              subst he
              split at h
              · rename_i hl
                rw [castL_self] at h
                obtain ⟨l', h3, A', ln, cp, rfl, h4⟩ := m1.objs n _ hg
                simp only at h3
                rw [le1.β _ _ _ hb] at h3
                cases h3
                obtain ⟨v, w', γ', hr, hv, hm', hle⟩ := append_ok (ty := ty) a1 a3 a4 a5 a7 hzl m1 h4 hs hf1 hl n (g + 1) (fun ent he => by rw [hg] at he; cases he; show g < g + 1; omega)
                  (fun b q hr => ⟨_, _, hg, le1.β _ _ _ hb, hr⟩)
                exact ⟨_, _, v, w', γ', hr, h, hv, hm', le1.trans hle⟩
              · cases h
            · cases h
          · cases h
        · cases h
      · cases h
  · cases h

end
end Go.Vm
