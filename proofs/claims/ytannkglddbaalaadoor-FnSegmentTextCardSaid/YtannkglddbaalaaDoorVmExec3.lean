/-
  Rows: their cells; freezing; data out of cells; stores.
-/
import Derived.Test.YtannkglddbaalaaDoorVmExec2
import Derived.Laws.MakeOwn
import Derived.Laws.BytesString
import Derived.Laws.IdiomStrings
import Derived.Laws.OwnMore
set_option linter.unusedSimpArgs false
set_option linter.unusedVariables false
namespace Go.Vm

/-- the elements of a row, one behind the other, as cells -/
def Flat (w : World) (S : Nat → Nat → Prop) (e : K) : List e.T → List Value → Prop
  | [], ns => ns = []
  | x :: xs, ns => ∃ cs r, ns = cs ++ r ∧ Rd w S e x cs ∧ Flat w S e xs r

section
variable {w w' : World} {S S' : Nat → Nat → Prop}

theorem Flat.len {e : K} : ∀ {xs : List e.T} {ns : List Value}, Flat w S e xs ns → ns.length = xs.length * e.cells
  | [], ns, h => by simp only [Flat] at h; rw [h]; simp
  | x :: xs, ns, h => by
    obtain ⟨cs, r, rfl, h1, h2⟩ := h
    rw [List.length_append, h1.len, Flat.len h2, List.length_cons, Nat.add_mul]; omega

theorem Flat.one {e : K} : ∀ {xs : List e.T} {ns : List Value}, Flat w S e xs ns → ∀ v ∈ ns, v.oneCell' = true
  | [], ns, h, v, hv => by simp only [Flat] at h; rw [h] at hv; cases hv
  | x :: xs, ns, h, v, hv => by
    obtain ⟨cs, r, rfl, h1, h2⟩ := h
    rcases List.mem_append.1 hv with hv | hv
    · exact h1.one v hv
    · exact Flat.one h2 v hv

theorem Flat.mono (hS : ∀ b o, S b o → S' b o) (hk : Keeps S w w') {e : K} : ∀ {xs : List e.T} {ns : List Value}, Flat w S e xs ns → Flat w' S' e xs ns
  | [], ns, h => h
  | x :: xs, ns, h => by
    obtain ⟨cs, r, h0, h1, h2⟩ := h
    exact ⟨cs, r, h0, h1.mono hS hk, Flat.mono hS hk h2⟩

theorem Flat.append {e : K} : ∀ {xs ys : List e.T} {ns ms : List Value}, Flat w S e xs ns → Flat w S e ys ms → Flat w S e (xs ++ ys) (ns ++ ms)
  | [], ys, ns, ms, h, h' => by simp only [Flat] at h; rw [h]; exact h'
  | x :: xs, ys, ns, ms, h, h' => by
    obtain ⟨cs, r, rfl, h1, h2⟩ := h
    exact ⟨cs, r ++ ms, by rw [List.append_assoc], h1, Flat.append h2 h'⟩

theorem Flat.drop {e : K} : ∀ {xs : List e.T} {ns : List Value} (n : Nat), Flat w S e xs ns → Flat w S e (xs.drop n) (ns.drop (n * e.cells))
  | xs, ns, 0, h => by simpa using h
  | [], ns, n + 1, h => by simp only [Flat] at h; rw [h]; simp [Flat]
  | x :: xs, ns, n + 1, h => by
    obtain ⟨cs, r, rfl, h1, h2⟩ := h
    have hl := h1.len
    have : (n + 1) * e.cells = cs.length + n * e.cells := by rw [Nat.add_mul, hl]; omega
    rw [this, List.drop_length_add_append]
    exact Flat.drop n h2

theorem Flat.take {e : K} : ∀ {xs : List e.T} {ns : List Value} (n : Nat), Flat w S e xs ns → Flat w S e (xs.take n) (ns.take (n * e.cells))
  | xs, ns, 0, _ => by simp [Flat]
  | [], ns, n + 1, h => by simp only [Flat] at h; rw [h]; simp [Flat]
  | x :: xs, ns, n + 1, h => by
    obtain ⟨cs, r, rfl, h1, h2⟩ := h
    have hl := h1.len
    have : (n + 1) * e.cells = cs.length + n * e.cells := by rw [Nat.add_mul, hl]; omega
    rw [this, List.take_length_add_append]
    exact ⟨cs, _, rfl, h1, Flat.take n h2⟩

theorem Flat.rows {e : K} {b : Nat} : ∀ {xs : List e.T} {ns : List Value} {off : Nat}, Flat w S e xs ns → w'.rangeAt b off ns → ∀ i (h : i < xs.length), ∃ cs, Rd w S e xs[i] cs ∧ w'.rangeAt b (off + i * e.cells) cs
  | [], _, _, _, _, i, h => by simp at h
  | x :: xs, ns, off, hf, hr, 0, _ => by
    obtain ⟨cs, r, rfl, h1, h2⟩ := hf
    refine ⟨cs, h1, fun j v hv => ?_⟩
    have hj : j < cs.length := (List.getElem?_eq_some_iff.1 hv).1
    have := hr j v (by rw [List.getElem?_append_left hj]; exact hv)
    simpa using this
  | x :: xs, ns, off, hf, hr, i + 1, h => by
    obtain ⟨cs, r, rfl, h1, h2⟩ := hf
    have hl := h1.len
    obtain ⟨ds, h3, h4⟩ := Flat.rows (off := off + e.cells) h2 (fun j v hv => by
      have := hr (cs.length + j) v (by rw [List.getElem?_append_right (by omega)]; simpa using hv)
      rw [← Nat.add_assoc, hl] at this
      exact this) i (by simpa using h)
    refine ⟨ds, h3, ?_⟩
    have : off + (i + 1) * e.cells = off + e.cells + i * e.cells := by rw [Nat.add_mul]; omega
    rw [this]
    exact h4

theorem flat_of_rows {e : K} {b : Nat} : ∀ {xs : List e.T} {off : Nat}, (∀ i (h : i < xs.length), ∃ cs, Rd w S e xs[i] cs ∧ w'.rangeAt b (off + i * e.cells) cs) → ∃ ns, Flat w S e xs ns ∧ w'.rangeAt b off ns
  | [], _, _ => ⟨[], rfl, fun j v hv => by simp at hv⟩
  | x :: xs, off, h => by
    obtain ⟨cs, h1, h2⟩ := h 0 (by simp)
    have hl := h1.len
    obtain ⟨r, h3, h4⟩ := flat_of_rows (xs := xs) (off := off + e.cells) (fun i hi => by
      obtain ⟨ds, h5, h6⟩ := h (i + 1) (by simpa using hi)
      refine ⟨ds, h5, ?_⟩
      have : off + (i + 1) * e.cells = off + e.cells + i * e.cells := by rw [Nat.add_mul]; omega
      rw [← this]
      exact h6)
    refine ⟨cs ++ r, ⟨cs, r, rfl, h1, h3⟩, fun j v hv => ?_⟩
    rcases Nat.lt_or_ge j cs.length with hj | hj
    · rw [List.getElem?_append_left hj] at hv
      have := h2 j v hv
      simpa using this
    · rw [List.getElem?_append_right hj] at hv
      have := h4 _ v hv
      have e1 : off + e.cells + (j - cs.length) = off + j := by omega
      rw [e1] at this
      exact this

theorem Flat.set {e : K} : ∀ {xs : List e.T} {ns : List Value} {i : Nat} {x : e.T} {cs : List Value}, Flat w S e xs ns → Rd w S e x cs → Flat w S e (xs.set i x) (if i < xs.length then ns.take (i * e.cells) ++ cs ++ ns.drop ((i + 1) * e.cells) else ns)
  | [], ns, i, x, cs, h, _ => by simpa using h
  | y :: xs, ns, 0, x, cs, h, hx => by
    obtain ⟨ds, r, rfl, h1, h2⟩ := h
    have hl := h1.len
    simp only [List.set_cons_zero, List.length_cons, Nat.zero_lt_succ, if_true, Nat.zero_mul, List.take_zero, List.nil_append, Nat.zero_add, Nat.one_mul]
    refine ⟨cs, r, ?_, hx, h2⟩
    rw [List.drop_append, List.drop_eq_nil_of_le (by omega), show e.cells - ds.length = 0 by omega]
    simp
  | y :: xs, ns, i + 1, x, cs, h, hx => by
    obtain ⟨ds, r, rfl, h1, h2⟩ := h
    have hl := h1.len
    have ih := Flat.set (i := i) h2 hx
    simp only [List.set_cons_succ, List.length_cons]
    by_cases hi : i < xs.length
    · rw [if_pos hi] at ih
      rw [if_pos (by omega)]
      refine ⟨ds, _, ?_, h1, ih⟩
      have e1 : (i + 1) * e.cells = ds.length + i * e.cells := by rw [Nat.add_mul, hl]; omega
      have e2 : (i + 1 + 1) * e.cells = ds.length + (i + 1) * e.cells := by rw [Nat.add_mul (i + 1), hl]; omega
      rw [e1, e2, List.take_length_add_append, List.drop_length_add_append, ← e1]
      simp [List.append_assoc]
    · rw [if_neg hi] at ih
      rw [if_neg (by omega)]
      exact ⟨ds, r, rfl, h1, ih⟩
end

section
variable {E : Env} {w0 : World} {R0 S0 : Nat → Nat → Prop} {γ : Gh} {w : World} {ob : Obs} {R : Type} {k : SV → Obs → Option R} {r : R}

/-! #### Freezing -/
theorem sub_lt {i j len cap sz : Nat} (hi : i < len) (hc : len ≤ cap) (hj : j < sz) : i * sz + j < cap * sz := by
  have : (i + 1) * sz ≤ cap * sz := Nat.mul_le_mul_right _ (by omega)
  rw [Nat.add_mul] at this
  omega

theorem Mem.freeze (hm : Mem w0 R0 S0 γ ob w) {n g : Nat} {e : K} {xs : List e.T} (hg : get ob n = some ⟨g, .arr e xs⟩) :
    ∃ γ', Mem w0 R0 S0 γ' (upd ob n ⟨g, .roa e xs⟩) w ∧ Le γ w γ' w ∧ ∀ A l c, γ.β n g = some (.hdr A l c) → Rd w γ'.S (.sl e) xs [.slice A l c] := by
  obtain ⟨l, h1, A, len, cap, rfl, h2, h3, h4, h5, h6⟩ := hm.objs n _ hg
  simp only at h1
  have hlim : lim = 4294967296 := rfl
  have hrd : Le γ w (γ.set n g (.hdr A len cap) fun b i => RG γ ob n b i) w → Rd w (γ.set n g (.hdr A len cap) fun b i => RG γ ob n b i).S (.sl e) xs [.slice A len cap] := by
    intro hle
    refine ⟨A, len, cap, rfl, h2, h3, by omega, fun hne => ?_⟩
    have hpos : 0 < xs.length := List.length_pos_iff.2 hne
    cases A with
    | none => have := h5 rfl; omega
    | some a =>
      obtain ⟨h7, h8, h9⟩ := h6 a rfl
      obtain ⟨b, o, sp⟩ := a
      simp only at h7
      subst h7
      refine ⟨b, o, rfl, fun i hi => ?_⟩
      obtain ⟨cs, h10, h11⟩ := h9 i hi
      refine ⟨cs, h10.mono hle.S hle.keeps, h11, fun j hj => .inr ⟨_, _, hg, h1, rfl, ?_, ?_⟩⟩
      · simp only; omega
      · have := sub_lt (i := i) (len := len) (cap := cap) (by omega) h3 hj
        simp only; omega
  obtain ⟨hm', hle⟩ := hm.step (n := n) (g' := g) (o' := .roa e xs) (l' := .hdr A len cap) (M := fun _ _ => False) (D := fun b i => RG γ ob n b i) (Ev.refl _ _) (fun _ _ h => h.elim)
    (fun ent he => by rw [hg] at he; cases he; exact .inr ⟨rfl, h1⟩) (fun hle => ⟨A, len, cap, rfl, hrd hle⟩) (fun b i hr => by cases A <;> exact hr.elim) (fun b i hr => ⟨hr, by cases A <;> exact fun h => h⟩)
  exact ⟨_, hm', hle, fun A' l' c' hb => by rw [h1] at hb; cases hb; exact hrd hle⟩

/-- data out of cells; what they name is frozen -/
theorem toK_ok : ∀ {e : K} {l : List SV} {vs : List Value} {γ : Gh} {ob : Obs} {x : e.T} {rest : List SV} {ob' : Obs}, Mem w0 R0 S0 γ ob w → VL w γ l vs → toK e l ob = some (x, rest, ob') →
    ∃ γ' cs vs', vs = cs ++ vs' ∧ Mem w0 R0 S0 γ' ob' w ∧ Le γ w γ' w ∧ Rd w γ'.S e x cs ∧ VL w γ' rest vs'
  | .int kd, l, vs, γ, ob, x, rest, ob', hm, hv, h => by
    simp only [toK] at h
    split at h
    · split at h
      · rename_i hk
        cases h
        cases vs with
        | nil => simp only [VL] at hv
        | cons v vs =>
          simp only [VL, V] at hv
          obtain ⟨⟨rfl, h1⟩, h2⟩ := hv
          subst hk
          exact ⟨γ, [_], vs, rfl, hm, Le.refl _ _, ⟨rfl, h1⟩, h2⟩
      · cases h
    · cases h
  | .bool, l, vs, γ, ob, x, rest, ob', hm, hv, h => by
    simp only [toK] at h
    split at h
    · cases h
      cases vs with
      | nil => simp only [VL] at hv
      | cons v vs =>
        simp only [VL, V] at hv
        obtain ⟨rfl, h2⟩ := hv
        exact ⟨γ, [_], vs, rfl, hm, Le.refl _ _, rfl, h2⟩
    · cases h
  | .str, l, vs, γ, ob, x, rest, ob', hm, hv, h => by
    simp only [toK] at h
    split at h
    · cases h
      cases vs with
      | nil => simp only [VL] at hv
      | cons v vs =>
        simp only [VL, V] at hv
        obtain ⟨⟨rfl, h1⟩, h2⟩ := hv
        exact ⟨γ, [_], vs, rfl, hm, Le.refl _ _, ⟨rfl, h1⟩, h2⟩
    · cases h
  | .sl e, l, vs, γ, ob, x, rest, ob', hm, hv, h => by
    simp only [toK] at h
    split at h
    · rename_i e' xs rr
      split at h
      · rename_i he
        cases h
        subst he
        cases vs with
        | nil => simp only [VL] at hv
        | cons v vs =>
          simp only [VL, V] at hv
          exact ⟨γ, [v], vs, rfl, hm, Le.refl _ _, hv.1, hv.2⟩
      · cases h
    · cases h
      cases vs with
      | nil => simp only [VL] at hv
      | cons v vs =>
        simp only [VL, V] at hv
        obtain ⟨rfl, h2⟩ := hv
        exact ⟨γ, [_], vs, rfl, hm, Le.refl _ _, ⟨none, 0, 0, rfl, rfl, Nat.le_refl _, by simp, fun h => absurd rfl h⟩, h2⟩
    · rename_i n g rr
      cases vs with
      | nil => simp only [VL] at hv
      | cons v vs =>
        simp only [VL, V] at hv
        obtain ⟨⟨A, ln, cp, h1, rfl⟩, h2⟩ := hv
        split at h
        · rename_i g' e' xs hg
          split at h
          · rename_i hgg
            subst hgg
            split at h
            · rename_i he
              cases h
              subst he
              obtain ⟨γ', h3, h4, h5⟩ := hm.freeze hg
              exact ⟨γ', [_], vs, rfl, h3, h4, h5 _ _ _ h1, VL.mono h4 h2⟩
            · cases h
          · cases h
        · rename_i g' e' xs hg
          split at h
          · rename_i hgg
            subst hgg
            split at h
            · rename_i he
              cases h
              subst he
              obtain ⟨l', h3, A', ln', cp', rfl, h4⟩ := hm.objs n _ hg
              simp only at h3
              rw [h1] at h3
              cases h3
              exact ⟨γ, [_], vs, rfl, hm, Le.refl _ _, h4, h2⟩
            · cases h
          · cases h
        · cases h
    · cases h
  | .pair a b, l, vs, γ, ob, x, rest, ob', hm, hv, h => by
    simp only [toK] at h
    split at h
    · rename_i x1 r1 ob1 h1
      split at h
      · rename_i x2 r2 ob2 h2
        cases h
        obtain ⟨γ1, c1, v1, rfl, m1, le1, rd1, vl1⟩ := toK_ok hm hv h1
        obtain ⟨γ2, c2, v2, rfl, m2, le2, rd2, vl2⟩ := toK_ok m1 vl1 h2
        exact ⟨γ2, c1 ++ c2, v2, by rw [List.append_assoc], m2, le1.trans le2, ⟨c1, c2, rfl, rd1.mono le2.S le2.keeps, rd2⟩, vl2⟩
      · cases h
    · cases h
  | .unit, l, vs, γ, ob, x, rest, ob', hm, hv, h => by
    simp only [toK] at h
    cases h
    exact ⟨γ, [], vs, rfl, hm, Le.refl _ _, rfl, hv⟩

theorem toK1_ok {e : K} {l : List SV} {vs : List Value} {x : e.T} {ob' : Obs} (hm : Mem w0 R0 S0 γ ob w) (hv : VL w γ l vs) (h : toK1 e l ob = some (x, ob')) :
    ∃ γ', Mem w0 R0 S0 γ' ob' w ∧ Le γ w γ' w ∧ Rd w γ'.S e x vs := by
  unfold toK1 at h
  split at h
  · rename_i h1
    cases h
    obtain ⟨γ', cs, vs', rfl, h2, h3, h4, h5⟩ := toK_ok hm hv h1
    simp only [VL] at h5
    rw [h5, List.append_nil]
    exact ⟨γ', h2, h3, h4⟩
  · cases h

theorem toK_get : ∀ {e : K} {l : List SV} {ob : Obs} {x : e.T} {rest : List SV} {ob' : Obs}, toK e l ob = some (x, rest, ob') → ∀ {n g : Nat} {f : K} {xs : List f.T}, get ob' n = some ⟨g, .arr f xs⟩ → get ob n = some ⟨g, .arr f xs⟩
  | .int kd, l, ob, x, rest, ob', h, n, g, f, xs, hg => by
    simp only [toK] at h
    split at h
    · split at h
      · cases h; exact hg
      · cases h
    · cases h
  | .bool, l, ob, x, rest, ob', h, n, g, f, xs, hg => by
    simp only [toK] at h
    split at h
    · cases h; exact hg
    · cases h
  | .str, l, ob, x, rest, ob', h, n, g, f, xs, hg => by
    simp only [toK] at h
    split at h
    · cases h; exact hg
    · cases h
  | .sl e, l, ob, x, rest, ob', h, n, g, f, xs, hg => by
    simp only [toK] at h
    split at h
    · split at h
      · cases h; exact hg
      · cases h
    · cases h; exact hg
    · rename_i m g0 rr
      split at h
      · split at h
        · split at h
          · cases h
            rw [get_upd] at hg
            split at hg
            · cases hg
            · exact hg
          · cases h
        · cases h
      · split at h
        · split at h
          · cases h; exact hg
          · cases h
        · cases h
      · cases h
    · cases h
  | .pair a b, l, ob, x, rest, ob', h, n, g, f, xs, hg => by
    simp only [toK] at h
    split at h
    · rename_i h1
      split at h
      · rename_i h2
        cases h
        exact toK_get h1 (toK_get h2 hg)
      · cases h
    · cases h
  | .unit, l, ob, x, rest, ob', h, n, g, f, xs, hg => by
    simp only [toK] at h
    cases h; exact hg

theorem toK1_get {e : K} {l : List SV} {ob : Obs} {x : e.T} {ob' : Obs} (h : toK1 e l ob = some (x, ob')) {n g : Nat} {f : K} {xs : List f.T} (hg : get ob' n = some ⟨g, .arr f xs⟩) : get ob n = some ⟨g, .arr f xs⟩ := by
  unfold toK1 at h
  split at h
  · rename_i h1
    cases h
    exact toK_get h1 hg
  · cases h

/-! #### Stores -/
theorem splice_range {b o off : Nat} {vs us : List Value} (hr : w.rangeAt b o vs) (ht : w.there b o vs.length) (hl : off + us.length ≤ vs.length) :
    (w.setCells b (o + off) us).rangeAt b o (vs.take off ++ us ++ vs.drop (off + us.length)) := by
  intro j v hv
  rcases Nat.lt_or_ge j off with hj | hj
  · rw [List.append_assoc, List.getElem?_append_left (by simp; omega), List.getElem?_take] at hv
    rw [if_pos hj] at hv
    rw [World.cell?_setCells_out b us (o + off) w ⟨b, o + j, none⟩ (fun _ _ => .inl (by simp; omega))]
    exact hr j v hv
  · rcases Nat.lt_or_ge j (off + us.length) with hj2 | hj2
    · rw [List.append_assoc, List.getElem?_append_right (by simp; omega), List.getElem?_append_left (by simp; omega)] at hv
      have h1 : j - (vs.take off).length = j - off := by rw [List.length_take, Nat.min_eq_left (by omega)]
      rw [h1] at hv
      have h2 : o + j = o + off + (j - off) := by omega
      rw [h2, World.cell?_setCells_in b us (o + off) w (fun i hi => by have := (ht (off + i) (by omega)).1; rwa [← Nat.add_assoc] at this) (j - off) (by omega)]
      rw [List.getElem?_eq_getElem (by omega)] at hv
      exact hv
    · rw [List.append_assoc, List.getElem?_append_right (by simp; omega), List.getElem?_append_right (by simp; omega), List.getElem?_drop] at hv
      rw [World.cell?_setCells_out b us (o + off) w ⟨b, o + j, none⟩ (fun _ _ => .inr (by simp; omega))]
      refine hr j v ?_
      have : off + us.length + (j - (vs.take off).length - us.length) = j := by rw [List.length_take, Nat.min_eq_left (by omega)]; omega
      rw [this] at hv
      exact hv

theorem setCells_there {b o : Nat} {us : List Value} {b' o' n : Nat} (h : w.there b' o' n) (hc : ∀ j, j < us.length → (w.cell? ⟨b, o + j, none⟩).isSome = true) : (w.setCells b o us).there b' o' n := by
  intro j hj
  obtain ⟨h1, h2⟩ := h j hj
  refine ⟨?_, by rw [World.frozen?_setCells]; exact h2⟩
  by_cases hb : b' = b ∧ o ≤ o' + j ∧ o' + j < o + us.length
  · obtain ⟨rfl, h3, h4⟩ := hb
    have := World.cell?_setCells_in b' us o w hc (o' + j - o) (by omega)
    rw [show o + (o' + j - o) = o' + j by omega] at this
    rw [this]; rfl
  · rw [World.cell?_setCells_out b us o w ⟨b', o' + j, none⟩ (fun h5 _ => by simp only at h5 ⊢; omega)]
    exact h1

theorem run_storeAt {t : Nat} {ti : TI} (hti : E.ti t = some ti) {b o : Nat} {u : Value} (h1 : ∀ v ∈ u.cells.toList, v.oneCell' = true) (hl : u.cells.toList.length = ti.cells) (ht : w.there b o ti.cells) :
    (Instr.storeAt t (.pointer (some ⟨b, o, none⟩)) u).run E.P w = .ok () (w.setCells b o u.cells.toList) := by
  have hs := run_size (E := E) hti w
  have hst := run_storeCells_cells (P := E.P) b o u.cells.toList 0 w (fun j hj => by simpa using (ht j (by omega)).1) (fun j hj => by simpa using (ht j (by omega)).2) h1
  simp only [Nat.add_zero] at hst
  have hsz : u.cells.size = ti.cells := by simpa using hl
  simp only [Instr.storeAt, Instr.sureAddr, Sem.run_bind, Sem.run_pure, Result.andThen_ok, storeVar, hs]
  rw [if_neg (by omega)]
  exact hst

/-- a store's end -/
def DoneU (E : Env) (w0 : World) (R0 S0 : Nat → Nat → Prop) (γ : Gh) (w : World) (s : Sem Unit) {R : Type} (k : SV → Obs → Option R) (r : R) : Prop :=
  ∃ ob' w' γ', s.run E.P w = .ok () w' ∧ k .undef ob' = some r ∧ Mem w0 R0 S0 γ' ob' w' ∧ Le γ w γ' w'

theorem VL.splice {cs ds : List SV} {vs us : List Value} {off : Nat} (h : VL w γ cs vs) (h' : VL w γ ds us) : VL w γ (Vm.splice cs off ds) (vs.take off ++ us ++ vs.drop (off + us.length)) := by
  unfold Vm.splice
  rw [h'.len]
  exact ((h.take off).append h').append (h.drop _)

theorem xStore_ok {t : Nat} {p v : SV} {a u : Value} (hm : Mem w0 R0 S0 γ ob w) (h1 : V w γ p a) (h2 : V w γ v u) (h : xStore E t p v ob k = some r) : DoneU E w0 R0 S0 γ w (Instr.storeAt t a u) k r := by
  unfold xStore at h
  split at h
  · rename_i ti vs hti hcs
    obtain ⟨hvl, hone⟩ := cellsOf_ok h2 hcs
    have hlen := hvl.len
    split at h
    · rename_i hl
      split at h
      · rename_i n g off
        simp only [V] at h1
        obtain ⟨b, o, hb, rfl⟩ := h1
        split at h
        · rename_i g' cs hg
          split at h
          · rename_i hc
            obtain ⟨rfl, hoff⟩ := hc
            obtain ⟨l, h3, h4⟩ := hm.objs n _ hg
            simp only at h3
            rw [hb] at h3
            cases h3
            obtain ⟨b', o', e, us, h5, h6, h7, h8⟩ := h4
            cases e
            have hcl := h5.len
            have hin : ∀ j, j < u.cells.toList.length → (w.cell? ⟨b, o + off + j, none⟩).isSome = true := fun j hj => by
              have := (h8 (off + j) (by omega)).1
              rwa [← Nat.add_assoc] at this
            have hrun := run_storeAt (w := w) hti (b := b) (o := o + off) hone (by omega) (fun j hj => by have := h8 (off + j) (by omega); rwa [← Nat.add_assoc] at this)
            obtain ⟨hm', hle⟩ := hm.step (n := n) (g' := g) (o' := .box (splice cs off vs)) (l' := .blk b o) (w' := w.setCells b (o + off) u.cells.toList)
              (M := fun b' i => b' = b ∧ o + off ≤ i ∧ i < o + off + ti.cells) (D := fun _ _ => False)
              (Ev.setCells b _ _ _ fun j hj => ⟨rfl, by omega, by omega⟩)
              (fun b' i hi => ⟨_, _, hg, hb, hi.1, by omega, by omega⟩)
              (fun ent he => by rw [hg] at he; cases he; exact .inr ⟨rfl, hb⟩)
              (fun hle => by
                refine ⟨b, o, rfl, _, VL.mono hle (h5.splice (off := off) hvl), fun x hx => ?_, splice_range h7 (by rw [hcl]; exact h8) (by omega), ?_⟩
                · simp only [List.mem_append] at hx
                  rcases hx with (hx | hx) | hx
                  · exact h6 x (List.mem_of_mem_take hx)
                  · exact hone x hx
                  · exact h6 x (List.mem_of_mem_drop hx)
                · have : (splice cs off vs).length = cs.length := by simp [splice]; omega
                  rw [this]
                  exact setCells_there h8 hin)
              (fun b' i hr => by
                obtain ⟨rfl, h9, h10⟩ := hr
                have : (splice cs off vs).length = cs.length := by simp [splice]; omega
                have hrg : RG γ ob n b' i := ⟨_, _, hg, hb, rfl, h9, by show i < o + cs.length; omega⟩
                exact ⟨.inl hrg, by
                  have := (hm.live n b' i hrg).2
                  exact Nat.lt_of_lt_of_le this (Ev.setCells (R := fun _ _ => True) b' _ _ _ (fun _ _ => trivial)).size⟩)
              (fun _ _ hf => hf.elim)
            exact ⟨_, _, _, hrun, h, hm', hle⟩
          · cases h
        · cases h
      · rename_i e n g i off
        simp only [V] at h1
        obtain ⟨b, o, l, c, hb, hi0, hi1, rfl⟩ := h1
        split at h
        · rename_i g' e' xs hg
          split at h
          · rename_i hc
            obtain ⟨rfl, hoff⟩ := hc
            split at h
            · rename_i he
              subst he
              rw [castL_self] at h
              split at h
              · rename_i x ob1 hk1
                split at h
                · rename_i g2 e2 xs2 hg2
                  split at h
                  · rename_i hgg
                    subst hgg
                    obtain ⟨l', h3, h4⟩ := hm.objs n _ hg
                    simp only at h3
                    rw [hb] at h3
                    cases h3
                    obtain ⟨A, len, cap, e, h5, h6, h7, h8, h9⟩ := h4
                    cases e
                    obtain ⟨_, h11, h12⟩ := h9 _ rfl
                    obtain ⟨hi, hget⟩ := arr_get (e := e') (xs := xs) hi0 (by omega)
                    rw [hget] at hk1
                    obtain ⟨cs0, h13, h14⟩ := h12 _ hi
                    have hl0 := h13.len
                    obtain ⟨γ1, hm1, hle1, hrd⟩ := toK1_ok hm (h13.ofK.splice (off := off) hvl) hk1
                    have hsame := toK1_get hk1 hg2
                    rw [hg] at hsame
                    cases hsame
                    have hb1 := hle1.β _ _ _ hb
                    have hcell : i.toNat * e'.cells + e'.cells ≤ c * e'.cells := by
                      have : (i.toNat + 1) * e'.cells ≤ c * e'.cells := Nat.mul_le_mul_right _ (by omega)
                      rwa [Nat.add_mul, Nat.one_mul] at this
                    have hin : ∀ j, j < u.cells.toList.length → (w.cell? ⟨b, o + i.toNat * e'.cells + off + j, none⟩).isSome = true ∧ w.frozen? ⟨b, o + i.toNat * e'.cells + off + j, none⟩ = false := fun j hj => by
                      have := h11 (i.toNat * e'.cells + off + j) (by omega)
                      rwa [← Nat.add_assoc, ← Nat.add_assoc] at this
                    have hrun := run_storeAt (w := w) hti (b := b) (o := o + i.toNat * e'.cells + off) hone (by omega) (fun j hj => hin j (by omega))
                    obtain ⟨hm', hle⟩ := hm1.step (n := n) (g' := g) (o' := .arr e' (xs.set i.toNat x)) (l' := .hdr (some ⟨b, o, none⟩) l c) (w' := w.setCells b (o + i.toNat * e'.cells + off) u.cells.toList)
                      (M := fun b' q => b' = b ∧ o + i.toNat * e'.cells + off ≤ q ∧ q < o + i.toNat * e'.cells + off + ti.cells) (D := fun _ _ => False)
                      (Ev.setCells b _ _ _ fun j hj => ⟨rfl, by omega, by omega⟩)
                      (fun b' q hq => ⟨_, _, hg2, hb1, hq.1, by show o ≤ q; omega, by show q < o + c * e'.cells; omega⟩)
                      (fun ent he => by rw [hg2] at he; cases he; exact .inr ⟨rfl, hb1⟩)
                      (fun hle => by
                        refine ⟨_, _, _, rfl, by simpa using h5, h6, by simpa using h7, h8, fun a ha => ?_⟩
                        cases ha
                        refine ⟨rfl, setCells_there h11 (fun j hj => (hin j hj).1), fun j hj => ?_⟩
                        by_cases hji : j = i.toNat
                        · subst hji
                          refine ⟨cs0.take off ++ u.cells.toList ++ cs0.drop (off + u.cells.toList.length), ?_, ?_⟩
                          · rw [List.getElem_set_self]
                            exact hrd.mono hle.S hle.keeps
                          · exact splice_range (o := o + i.toNat * e'.cells) h14 (fun m hm' => by
                              have := h11 (i.toNat * e'.cells + m) (by omega)
                              rwa [← Nat.add_assoc] at this) (by omega)
                        · obtain ⟨cs, h15, h16⟩ := h12 j (by simpa using hj)
                          have hl1 := h15.len
                          refine ⟨cs, ?_, fun m v hv => ?_⟩
                          · rw [List.getElem_set_ne (Ne.symm hji)]
                            exact (h15.mono hle1.S hle1.keeps).mono hle.S hle.keeps
                          · have hmm : m < cs.length := (List.getElem?_eq_some_iff.1 hv).1
                            rw [World.cell?_setCells_out b _ _ w ⟨b, o + j * e'.cells + m, none⟩ (fun _ _ => ?_)]
                            · exact h16 m v hv
                            · show o + j * e'.cells + m < _ ∨ _ ≤ o + j * e'.cells + m
                              rcases Nat.lt_or_gt_of_ne hji with hlt | hgt
                              · left
                                have : (j + 1) * e'.cells ≤ i.toNat * e'.cells := Nat.mul_le_mul_right _ (by omega)
                                rw [Nat.add_mul, Nat.one_mul] at this
                                omega
                              · right
                                have : (i.toNat + 1) * e'.cells ≤ j * e'.cells := Nat.mul_le_mul_right _ (by omega)
                                rw [Nat.add_mul, Nat.one_mul] at this
                                omega)
                      (fun b' q hr => by
                        have hrg : RG γ1 ob1 n b' q := ⟨_, _, hg2, hb1, hr⟩
                        exact ⟨.inl hrg, Nat.lt_of_lt_of_le (hm1.live n b' q hrg).2 (Ev.setCells (R := fun _ _ => True) b _ _ _ (fun _ _ => trivial)).size⟩)
                      (fun _ _ hf => hf.elim)
                    exact ⟨_, _, _, hrun, h, hm', hle1.trans hle⟩
                  · cases h
                · cases h
              · cases h
            · cases h
          · cases h
        · cases h
      · cases h
    · cases h
  · cases h

end
end Go.Vm
