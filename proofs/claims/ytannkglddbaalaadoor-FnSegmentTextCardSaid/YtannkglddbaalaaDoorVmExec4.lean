/-
  Rows that are made, cut, appended to; conversions; iterators.
-/
import Derived.Test.YtannkglddbaalaaDoorVmExec3
set_option linter.unusedSimpArgs false
set_option linter.unusedVariables false
namespace Go.Vm

section
variable {E : Env} {w0 : World} {R0 S0 : Nat → Nat → Prop} {γ : Gh} {w : World} {ob : Obs} {R : Type} {k : SV → Obs → Option R} {r : R}

/-! #### Slices that are read -/
/-- a slice's list, in memory -/
def Row (w : World) (S : Nat → Nat → Prop) (e : K) (xs : List e.T) (u : Value) : Prop :=
  ∃ A len cap, u = .slice A len cap ∧ xs.length = len ∧ len ≤ cap ∧ xs.length ≤ 9223372036854775807 ∧
    (xs = [] ∨ ∃ b off ns, A = some ⟨b, off, none⟩ ∧ Flat w S e xs ns ∧ w.rangeAt b off ns)

theorem Row.of_rd {S : Nat → Nat → Prop} {e : K} {xs : List e.T} {u : Value} (h : Rd w S (.sl e) xs [u]) : Row w S e xs u := by
  obtain ⟨A, len, cap, hu, h1, h2, h3, h4⟩ := h
  simp at hu
  refine ⟨A, len, cap, hu, h1, h2, h3, ?_⟩
  by_cases hne : xs = []
  · exact .inl hne
  · obtain ⟨b, off, hA, h5⟩ := h4 hne
    obtain ⟨ns, h6, h7⟩ := flat_of_rows (w := w) (w' := w) (S := S) (xs := xs) (b := b) (off := off) (fun i hi => by obtain ⟨cs, h8, h9, _⟩ := h5 i hi; exact ⟨cs, h8, h9⟩)
    exact .inr ⟨b, off, ns, hA, h6, h7⟩

theorem Row.of_arr {A : Option Addr} {len cap : Nat} {e : K} {xs : List e.T} (h : ArrOK w γ A len cap e xs) : Row w γ.S e xs (.slice A len cap) := by
  obtain ⟨h1, h2, h3, h4, h5⟩ := h
  have hlim : lim = 4294967296 := rfl
  refine ⟨A, len, cap, rfl, h1, h2, by omega, ?_⟩
  by_cases hne : xs = []
  · exact .inl hne
  · right
    have hpos : 0 < xs.length := List.length_pos_iff.2 hne
    cases A with
    | none => have := h4 rfl; omega
    | some a =>
      obtain ⟨h6, _, h7⟩ := h5 a rfl
      obtain ⟨b, o, sp⟩ := a
      simp only at h6
      subst h6
      obtain ⟨ns, h8, h9⟩ := flat_of_rows h7
      exact ⟨b, o, ns, rfl, h8, h9⟩

theorem listOf_ok {e : K} {v : SV} {u : Value} {xs : List e.T} {rd : List Nat} (hm : Mem w0 R0 S0 γ ob w) (hv : V w γ v u) (h : listOf ob e v = some (xs, rd)) : Row w γ.S e xs u := by
  unfold listOf at h
  split at h
  · split at h
    · rename_i he
      cases h
      subst he
      simp only [V] at hv
      exact Row.of_rd hv
    · cases h
  · cases h
    simp only [V] at hv
    subst hv
    exact ⟨none, 0, 0, rfl, rfl, Nat.le_refl _, by simp, .inl rfl⟩
  · rename_i n g
    simp only [V] at hv
    obtain ⟨A, l, c, hb, rfl⟩ := hv
    split at h
    · rename_i g' e' ys hg
      split at h
      · rename_i hgg
        subst hgg
        split at h
        · rename_i he
          cases h
          subst he
          obtain ⟨l', h1, A', ln, cp, rfl, h2⟩ := hm.objs n _ hg
          simp only at h1
          rw [hb] at h1
          cases h1
          exact Row.of_arr h2
        · cases h
      · cases h
    · rename_i g' e' ys hg
      split at h
      · rename_i hgg
        subst hgg
        split at h
        · rename_i he
          cases h
          subst he
          obtain ⟨l', h1, A', ln, cp, rfl, h2⟩ := hm.objs n _ hg
          simp only at h1
          rw [hb] at h1
          cases h1
          exact Row.of_rd h2
        · cases h
      · cases h
    · cases h
  · cases h

/-- its length -/
theorem lenOf_ok {v : SV} {u : Value} {n : Int} (hm : Mem w0 R0 S0 γ ob w) (hv : V w γ v u) (h : lenOf ob v = some n) :
    (∃ s, v = .str s ∧ n = s.length) ∨ ∃ A l c : _, ∃ len : Nat, u = .slice A l c ∧ n = len ∧ l = len ∧ len ≤ 9223372036854775807 := by
  have hlim : lim = 4294967296 := rfl
  unfold lenOf at h
  split at h
  · cases h
    exact .inl ⟨_, rfl, rfl⟩
  · cases h
    simp only [V] at hv
    obtain ⟨A, l, c, hu, h1, h2, h3, _⟩ := hv
    simp at hu
    exact .inr ⟨A, l, c, _, hu, rfl, h1.symm, h3⟩
  · cases h
    simp only [V] at hv
    exact .inr ⟨none, 0, 0, 0, hv, rfl, rfl, by omega⟩
  · rename_i m g
    simp only [V] at hv
    obtain ⟨A, l, c, hb, rfl⟩ := hv
    split at h
    · rename_i g' e' ys hg
      split at h
      · rename_i hgg
        cases h
        subst hgg
        obtain ⟨l', h1, A', ln, cp, rfl, h2⟩ := hm.objs m _ hg
        simp only at h1
        rw [hb] at h1
        cases h1
        obtain ⟨h3, h4, h5, _⟩ := h2
        exact .inr ⟨_, _, _, ys.length, rfl, rfl, h3.symm, by omega⟩
      · cases h
    · rename_i g' e' ys hg
      split at h
      · rename_i hgg
        cases h
        subst hgg
        obtain ⟨l', h1, A', ln, cp, rfl, h2⟩ := hm.objs m _ hg
        simp only at h1
        rw [hb] at h1
        cases h1
        obtain ⟨A'', l'', c'', hu, h3, h4, h5, _⟩ := h2
        simp at hu
        obtain ⟨rfl, rfl, rfl⟩ := hu
        exact .inr ⟨_, _, _, ys.length, rfl, rfl, h3.symm, h5⟩
      · cases h
    · cases h
  · cases h

/-! #### A new row -/
theorem Mem.newArr (hm : Mem w0 R0 S0 γ ob w) {w' : World} (hev : Ev (fun _ _ => False) w w') (hsz : w.heap.size < w'.heap.size) {e : K} {xs : List e.T} {ns : List Value} {cap : Nat}
    (hf : Flat w γ.S e xs ns) (hr : w'.rangeAt w.heap.size 0 ns) (ht : w'.there w.heap.size 0 (cap * e.cells)) (hc : xs.length ≤ cap) (hl : xs.length ≤ lim)
    (n g : Nat) (hg : ∀ ent, get ob n = some ent → ent.g < g) :
    Mem w0 R0 S0 (γ.set n g (.hdr (some ⟨w.heap.size, 0, none⟩) xs.length cap) fun _ _ => False) (upd ob n ⟨g, .arr e xs⟩) w' ∧
    Le γ w (γ.set n g (.hdr (some ⟨w.heap.size, 0, none⟩) xs.length cap) fun _ _ => False) w' := by
  refine hm.step (M := fun _ _ => False) hev (fun _ _ h => h.elim) (fun ent he => .inl (hg ent he)) (fun hle => ⟨_, _, _, rfl, rfl, hc, hl, by simp, fun a ha => ?_⟩) (fun b i hr => ?_) (fun _ _ h => h.elim)
  · cases ha
    refine ⟨rfl, ht, ?_⟩
    exact (hf.mono hle.S hle.keeps).rows (w' := w') (b := w.heap.size) (off := 0) hr
  · obtain ⟨e1, _, _⟩ := hr
    simp only at e1
    rw [e1]
    exact ⟨.inr (Nat.le_refl _), hsz⟩

theorem V_own_new (n g : Nat) (A : Option Addr) (l c : Nat) (D : Nat → Nat → Prop) (w' : World) : V w' (γ.set n g (.hdr A l c) D) (.own n g) (.slice A l c) := by
  simp only [V]
  exact ⟨A, l, c, by simp [Gh.set], rfl⟩

theorem rangeAt_alloc (w : World) (C : Array Value) (t : TypeId) (fz : Nat × Nat) (ns : List Value) (h : ∀ (j : Nat) (v : Value), ns[j]? = some v → C[j]? = some v) : (w.alloc (.cells C t fz)).rangeAt w.heap.size 0 ns := by
  intro j v hv
  rw [Nat.zero_add]
  obtain ⟨lo, hi⟩ := fz
  rw [World.cell?_alloc_mark]
  exact h j v hv

theorem there_alloc (w : World) (C : Array Value) (t : TypeId) (fz : Nat × Nat) (n : Nat) (h : n ≤ C.size) (hz : fz.2 ≤ fz.1 ∨ n ≤ fz.1) : (w.alloc (.cells C t fz)).there w.heap.size 0 n := by
  intro j hj
  rw [Nat.zero_add]
  obtain ⟨lo, hi⟩ := fz
  rw [World.cell?_alloc_mark, World.frozen?_alloc_mark]
  have : j < C.size := by omega
  simp only at hz
  refine ⟨by simp [this], ?_⟩
  simp
  omega

theorem size_alloc (w : World) (o : Obj) : w.heap.size < (w.alloc o).heap.size := by
  show w.heap.size < (w.heap.push o).size
  simp

/-! #### Literals -/
theorem foldl_set (off : Nat) : ∀ (vs : List Value) (s : Nat) (cs : Array Value), off + s + vs.length ≤ cs.size →
    ((vs.zipIdx s).foldl (fun (cs : Array Value) (p : Value × Nat) => cs.setIfInBounds (off + p.2) p.1) cs).toList = cs.toList.take (off + s) ++ vs ++ cs.toList.drop (off + s + vs.length)
  | [], s, cs, h => by simp
  | v :: vs, s, cs, h => by
    simp only [List.zipIdx_cons, List.foldl_cons]
    rw [foldl_set off vs (s + 1) (cs.setIfInBounds (off + s) v) (by simp at h ⊢; omega)]
    simp only [Array.toList_setIfInBounds, List.length_cons] at h ⊢
    have h1 : (cs.toList.set (off + s) v).take (off + (s + 1)) = cs.toList.take (off + s) ++ [v] := by
      rw [show off + (s + 1) = off + s + 1 by omega, List.take_succ_eq_append_getElem (by simp; omega)]
      simp [List.take_set_of_le]
    have h2 : (cs.toList.set (off + s) v).drop (off + (s + 1) + vs.length) = cs.toList.drop (off + s + (vs.length + 1)) := by
      rw [List.drop_set_of_lt (by omega)]
      congr 1
      omega
    rw [h1, h2]
    simp [List.append_assoc]

theorem fill_step {place : Nat → Option (Nat × Nat)} {cells : Array Value} {i off size : Nat} {v : Value} {rest : List (Nat × Value)} (hp : place i = some (off, size)) (hs : v.cells.size = size) (hl : off + size ≤ cells.size) :
    Instr.fill place cells ((i, v) :: rest) = Instr.fill place (cells.toList.take off ++ v.cells.toList ++ cells.toList.drop (off + size)).toArray rest := by
  have h := foldl_set off v.cells.toList 0 cells (by simp; omega)
  have e : (v.cells.zipIdx.foldl (fun (cs : Array Value) (p : Value × Nat) => cs.setIfInBounds (off + p.2) p.1) cells) = (cells.toList.take off ++ v.cells.toList ++ cells.toList.drop (off + size)).toArray := by
    apply Array.ext'
    rw [← Array.foldl_toList, Array.toList_zipIdx, h]
    simp [hs]
  simp only [Instr.fill, hp]
  rw [if_neg (by simp; omega)]
  rw [← e]

theorem fill_all (size : Nat) : ∀ (us : List Value) (m : Nat) (cells : Array Value), (∀ u ∈ us, u.cells.size = size) → cells.size = (m + us.length) * size →
    ∃ cs, Instr.fill (fun i => some (i * size, size)) cells ((us.zipIdx m).map fun p => (p.2, p.1)) = some cs ∧ cs.toList = cells.toList.take (m * size) ++ us.flatMap (·.cells.toList)
  | [], m, cells, _, hc => ⟨cells, rfl, by simp at hc ⊢; rw [List.take_of_length_le (by simp; omega)]⟩
  | u :: us, m, cells, hu, hc => by
    have h1 := hu u (by simp)
    have hmul : (m + (us.length + 1)) * size = m * size + size + us.length * size := by rw [Nat.add_mul, Nat.add_mul]; omega
    simp only [List.length_cons] at hc
    rw [hmul] at hc
    simp only [List.zipIdx_cons, List.map_cons]
    rw [fill_step (off := m * size) (size := size) rfl h1 (by omega)]
    obtain ⟨cs, h2, h3⟩ := fill_all size us (m + 1) (cells.toList.take (m * size) ++ u.cells.toList ++ cells.toList.drop (m * size + size)).toArray (fun x hx => hu x (by simp [hx])) (by
      simp
      rw [Nat.min_eq_left (by omega)]
      rw [Nat.add_mul, Nat.add_mul]
      omega)
    refine ⟨cs, h2, ?_⟩
    rw [h3]
    have h4 : (m + 1) * size = (cells.toList.take (m * size) ++ u.cells.toList).length := by
      simp
      rw [Nat.min_eq_left (by omega), Nat.add_mul]
      omega
    show List.take ((m + 1) * size) (cells.toList.take (m * size) ++ u.cells.toList ++ cells.toList.drop (m * size + size)) ++ _ = _
    rw [h4, List.take_left]
    simp [List.append_assoc]

theorem fillSl_ok {e : K} : ∀ {vs : List SV} {us : List Value} {γ : Gh} {ob ob' : Obs} {xs : List e.T}, Mem w0 R0 S0 γ ob w → VL w γ vs us → fillSl e ob vs = some (xs, ob') →
    ∃ γ', Mem w0 R0 S0 γ' ob' w ∧ Le γ w γ' w ∧ Flat w γ'.S e xs (us.flatMap (·.cells.toList)) ∧ xs.length = us.length ∧ ∀ u ∈ us, u.cells.size = e.cells
  | [], us, γ, ob, ob', xs, hm, hv, h => by
    simp only [fillSl] at h
    cases h
    simp only [VL] at hv
    subst hv
    exact ⟨γ, hm, Le.refl _ _, rfl, rfl, fun _ h => by cases h⟩
  | v :: vs, [], γ, ob, ob', xs, hm, hv, h => by simp only [VL] at hv
  | v :: vs, u :: us, γ, ob, ob', xs, hm, hv, h => by
    simp only [VL] at hv
    simp only [fillSl] at h
    split at h
    · rename_i cs hcs
      split at h
      · rename_i x ob1 h1
        split at h
        · rename_i ys ob2 h2
          cases h
          obtain ⟨h3, h4⟩ := cellsOf_ok hv.1 hcs
          obtain ⟨γ1, m1, le1, rd1⟩ := toK1_ok hm h3 h1
          obtain ⟨γ2, m2, le2, f2, hl, hs⟩ := fillSl_ok m1 (VL.mono le1 hv.2) h2
          refine ⟨γ2, m2, le1.trans le2, ⟨u.cells.toList, us.flatMap (·.cells.toList), by simp, rd1.mono le2.S le2.keeps, f2⟩, by simp [hl], fun z hz => ?_⟩
          rcases List.mem_cons.1 hz with rfl | hz
          · have := rd1.len; simpa using this
          · exact hs z hz
        · cases h
      · cases h
    · cases h

theorem xBuildSlice_ok {d t len : Nat} {ps : List (Nat × SV)} {qs : List (Nat × Value)} (hm : Mem w0 R0 S0 γ ob w) (hi : qs.map (·.1) = ps.map (·.1)) (hv : VL w γ (ps.map (·.2)) (qs.map (·.2))) (h : xBuildSlice E d t len ps ob k = some r) :
    Done E w0 R0 S0 γ w (Instr.buildSlice t len qs.toArray) k r := by
  unfold xBuildSlice at h
  split at h
  · rename_i tu e hel
    obtain ⟨u, i, z, a1, a2, a3, a4, a5, a6, a7, a8, a9, a10, a11⟩ := el_spec hel
    split at h
    · rename_i hc
      obtain ⟨hc1, hc3, hc2⟩ := hc
      split at h
      · rename_i xs ob1 hf
        obtain ⟨γ1, m1, le1, f1, hl, hs⟩ := fillSl_ok hm hv hf
        have hqs : qs = ((qs.map (·.2)).zipIdx 0).map fun p => (p.2, p.1) := by
          apply List.ext_getElem?
          intro j
          rw [List.getElem?_map, List.getElem?_zipIdx, List.getElem?_map]
          rcases Nat.lt_or_ge j qs.length with hj | hj
          · have h1 : (qs.map (·.1))[j]? = (List.range len)[j]? := by rw [hi, hc2]
            have hlen : qs.length = len := by have := congrArg List.length hi; rw [hc2] at this; simpa using this
            rw [List.getElem?_map, List.getElem?_eq_getElem hj, List.getElem?_range (by omega)] at h1
            rw [List.getElem?_eq_getElem hj]
            have h2 : qs[j].1 = j := by simpa using h1
            show some qs[j] = some (0 + j, qs[j].2)
            rw [Nat.zero_add]
            exact congrArg some (Prod.ext h2 rfl)
          · rw [List.getElem?_eq_none hj]; rfl
        have hlen : (qs.map (·.2)).length = len := by have := congrArg List.length hi; rw [hc2] at this; simpa using this
        have hlim : lim = 4294967296 := rfl
        have hsize := run_size (E := E) a2 w
        rw [a6] at hsize
        let zs : Array Value := if len * e.cells = 0 then #[] else z.cells
        let zc : Array Value := (Array.range (len * e.cells)).map fun i => zs[i % zs.size]!
        obtain ⟨cs, h2, h3⟩ := fill_all e.cells (qs.map (·.2)) 0 zc hs (by simp [zc, hlen])
        rw [← hqs] at h2
        simp only [Nat.zero_mul, List.take_zero, List.nil_append] at h3
        have hfl := f1.len
        rw [← h3] at f1 hfl
        have hcap : xs.length = len := by omega
        obtain ⟨hm', hle⟩ := m1.newArr (w' := w.alloc (.cells cs u)) (Ev.alloc _ _ _) (size_alloc _ _) (cap := len) f1 (rangeAt_alloc _ _ _ _ _ (fun j v hv => by simpa using hv))
          (there_alloc _ _ _ _ _ (by rw [hcap] at hfl; simp at hfl; omega) (.inl (by simp))) (by omega) (by
            rw [hcap]
            exact hc3) d (fresh ob1 d) (fun ent he => by simp [fresh, he])
        refine ⟨_, _, .slice (some ⟨w.heap.size, 0, none⟩) len len, _, _, ?_, h, by rw [← hcap]; exact V_own_new _ _ _ _ _ _ _, hm', le1.trans hle⟩
        have hz := run_zero (E := E) a3 a4 w
        have h16 : ¬ (len * e.cells > 2 ^ 24) := by omega
        simp only [Instr.buildSlice, Sem.run_bind, run_underlying a1, Result.andThen_ok, hsize, Sem.run_ite, if_neg h16]
        by_cases h0 : len * e.cells = 0
        · rw [if_pos h0]
          simp only [zc, zs] at h2
          rw [if_pos h0] at h2
          simp only [Sem.run_pure, Result.andThen_ok, h2]
          rfl
        · rw [if_neg h0]
          simp only [zc, zs] at h2
          rw [if_neg h0] at h2
          simp only [hz, Sem.run_pure, Result.andThen_ok, h2]
          rfl
      · cases h
    · cases h
  · cases h

end
end Go.Vm
