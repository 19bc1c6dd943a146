/-
  Loads, stores, addresses, fields.
-/
import Derived.Test.YtannkglddbaalaaDoorVmExec
set_option linter.unusedSimpArgs false
set_option linter.unusedVariables false
namespace Go.Vm

section
variable {E : Env} {w0 : World} {R0 S0 : Nat → Nat → Prop} {γ : Gh} {w : World} {ob : Obs} {R : Type} {k : SV → Obs → Option R} {r : R}

theorem rangeAt_drop {b o : Nat} {vs : List Value} (h : w.rangeAt b o vs) (n : Nat) : w.rangeAt b (o + n) (vs.drop n) := by
  intro j v hv
  rw [List.getElem?_drop] at hv
  have := h _ _ hv
  rw [← Nat.add_assoc] at this
  exact this

theorem rangeAt_take {b o : Nat} {vs : List Value} (h : w.rangeAt b o vs) (n : Nat) : w.rangeAt b o (vs.take n) := by
  intro j v hv
  rw [List.getElem?_take] at hv
  split at hv
  · exact h _ _ hv
  · cases hv

theorem xUn_ok {op : UnOp} {x : SV} {a : Value} (hm : Mem w0 R0 S0 γ ob w) (h1 : V w γ x a) (h : xUn op x ob k = some r) : Done E w0 R0 S0 γ w (Op.unary op a) k r := by
  unfold xUn at h
  split at h
  · simp only [V] at h1; subst h1
    exact .same hm (by simp [Op.unary]; rfl) h (by simp only [V])
  · simp only [V] at h1; obtain ⟨rfl, h1⟩ := h1
    exact .same hm (by simp only [Op.unary, Op.intArith]; rfl) h (by simp only [V]; exact ⟨by trivial, wrap_has _ _⟩)
  · simp only [V] at h1; obtain ⟨rfl, h1⟩ := h1
    obtain ⟨v, hv, hk⟩ := ret1_some h
    simp only [intBin] at hv
    cases hv
    refine .same hm ?_ hk (by simp only [V]; exact ⟨by trivial, wrap_has _ _⟩)
    simp only [Op.unary, Op.intBits]
    rfl
  · cases h

/-! #### Loads -/
theorem loadVar_ok {t : Nat} {ti : TI} (hti : E.ti t = some ti) {b o : Nat} {cs : List SV} {vs : List Value} (hv : VL w γ cs vs) (h1 : ∀ v ∈ vs, v.oneCell' = true) (hr : w.rangeAt b o vs) {x : SV} (hx : mkv ti.agg ti.cells cs = some x) :
    ∃ u, (Instr.loadAt t (.pointer (some ⟨b, o, none⟩))).run E.P w = .ok u w ∧ V w γ x u := by
  obtain ⟨i, d, z, a1, a2, a3, a4, a5, a6, _⟩ := ti_spec hti
  have hl := hv.len
  unfold mkv at hx
  split at hx
  · rename_i ha
    split at hx
    · rename_i hc
      cases hx
      refine ⟨.agg vs.toArray, run_loadAt_mid w b o t vs d hr a2 (by rw [← a6]; exact ha) (by simp [a1]; omega), ?_⟩
      simp only [V]
      exact ⟨vs, rfl, hv, h1⟩
    · cases hx
  · rename_i ha
    split at hx
    · cases hx
      cases vs with
      | nil => simp at hl
      | cons v vs =>
        cases vs with
        | cons v' vs => simp at hl
        | nil =>
          simp only [VL] at hv
          refine ⟨v, ?_, hv.1⟩
          have hc : w.cell? ⟨b, o, none⟩ = some v := by simpa using hr 0 v rfl
          have hagg : (isAgg t).run E.P w = .ok false w := by
            unfold isAgg
            rw [Sem.run_bind, run_underlying a2 w]
            rw [a6] at ha
            cases d <;> simp_all [TypeDesc.isRow]
          simp [Instr.loadAt, Instr.sureAddr, loadVar, hagg, hc]
    · cases hx

theorem castL_self {e : K} (h : e = e) (xs : List e.T) : castL h xs = xs := rfl

theorem arr_get {e : K} {xs : List e.T} {i : Int} (h0 : 0 ≤ i) (h1 : i < xs.length) : ∃ hi : i.toNat < xs.length, xs.getD i.toNat e.dflt = xs[i.toNat] := by
  have hi : i.toNat < xs.length := by omega
  exact ⟨hi, by simp [List.getD, hi]⟩

theorem xLoad_ok {t : Nat} {p : SV} {a : Value} (hm : Mem w0 R0 S0 γ ob w) (h1 : V w γ p a) (h : xLoad E t p ob k = some r) : Done E w0 R0 S0 γ w (Instr.loadAt t a) k r := by
  unfold xLoad at h
  split at h
  · cases h
  · rename_i ti hti
    split at h
    · -- a box
      rename_i n g off
      simp only [V] at h1
      obtain ⟨b, o, hb, rfl⟩ := h1
      split at h
      · rename_i g' cs hg
        split at h
        · rename_i e
          subst e
          obtain ⟨x, hx, hk⟩ := ret1_some h
          obtain ⟨l, h2, h3⟩ := hm.objs n _ hg
          simp only at h2
          rw [hb] at h2
          cases h2
          obtain ⟨b', o', e, vs, h4, h5, h6, h7⟩ := h3
          cases e
          obtain ⟨u, h8, h9⟩ := loadVar_ok hti ((h4.drop off).take ti.cells) (fun v hv => h5 v (List.mem_of_mem_drop (List.mem_of_mem_take hv))) (rangeAt_take (rangeAt_drop h6 off) _) hx
          exact .same hm h8 hk h9
        · cases h
      · cases h
    · -- an element of an array of the call's own
      rename_i e n g i off
      simp only [V] at h1
      obtain ⟨b, o, l, c, hb, hi0, hi1, rfl⟩ := h1
      split at h
      · rename_i g' e' xs hg
        split at h
        · rename_i e1
          subst e1
          split at h
          · rename_i e2
            subst e2
            obtain ⟨x, hx, hk⟩ := ret1_some h
            obtain ⟨l', h2, h3⟩ := hm.objs n _ hg
            simp only at h2
            rw [hb] at h2
            cases h2
            obtain ⟨A, len, cap, e, h4, h5, h6, h7, h8⟩ := h3
            cases e
            obtain ⟨h9, h10, h11⟩ := h8 _ rfl
            obtain ⟨hi, hget⟩ := arr_get (e := e') (xs := xs) hi0 (by omega)
            obtain ⟨cs, h12, h13⟩ := h11 _ hi
            rw [castL_self, hget] at hx
            obtain ⟨u, h14, h15⟩ := loadVar_ok hti ((h12.ofK.drop off).take ti.cells) (fun v hv => h12.one v (List.mem_of_mem_drop (List.mem_of_mem_take hv))) (rangeAt_take (rangeAt_drop h13 off) _) hx
            exact .same hm h14 hk h15
          · cases h
        · cases h
      · cases h
    · -- an element of a row that is only read
      rename_i e y off
      simp only [V] at h1
      obtain ⟨b, o, cs, rfl, h2, h3, h4⟩ := h1
      obtain ⟨x, hx, hk⟩ := ret1_some h
      obtain ⟨u, h14, h15⟩ := loadVar_ok hti ((h2.ofK.drop off).take ti.cells) (fun v hv => h2.one v (List.mem_of_mem_drop (List.mem_of_mem_take hv))) (rangeAt_take (rangeAt_drop h3 off) _) hx
      exact .same hm h14 hk h15
    · cases h

/-! #### Addresses and fields -/
theorem addOff_ok {p q : SV} {a : Value} {n : Nat} (h1 : V w γ p a) (h : addOff p n = some q) : ∃ b o, a = .pointer (some ⟨b, o, none⟩) ∧ V w γ q (.pointer (some ⟨b, o + n, none⟩)) := by
  unfold addOff at h
  split at h <;> cases h <;> simp only [V] at h1
  · obtain ⟨b, o, h2, rfl⟩ := h1
    exact ⟨b, _, rfl, by simp only [V]; exact ⟨b, o, h2, by rw [Nat.add_assoc]⟩⟩
  · obtain ⟨b, o, l, c, h2, h3, h4, rfl⟩ := h1
    exact ⟨b, _, rfl, by simp only [V]; exact ⟨b, o, l, c, h2, h3, h4, by rw [Nat.add_assoc]⟩⟩
  · obtain ⟨b, o, cs, rfl, h2⟩ := h1
    exact ⟨b, _, rfl, by simp only [V]; exact ⟨b, o, cs, by rw [Nat.add_assoc], h2⟩⟩

theorem add_none (b o n : Nat) : (⟨b, o, none⟩ : Addr).add n = ⟨b, o + n, none⟩ := Addr.add_mid b o n

theorem field_at {fs : List (Nat × Nat)} {gs : Array Field} (h : fs = gs.toList.map fun f => (f.offset, f.type)) {f off u : Nat} (hf : fs[f]? = some (off, u)) : ∃ F, gs[f]? = some F ∧ F.offset = off ∧ F.type = u := by
  subst h
  rw [List.getElem?_map] at hf
  cases hg : gs.toList[f]? with
  | none => rw [hg] at hf; simp at hf
  | some F =>
    rw [hg] at hf
    simp at hf
    exact ⟨F, by simpa using hg, hf.1, hf.2⟩

theorem run_size {t : Nat} {ti : TI} (hti : E.ti t = some ti) (w : World) : (sizeOf t).run E.P w = .ok ti.cells w := by
  obtain ⟨i, d, z, a1, a2, a3, a4, _⟩ := ti_spec hti
  simp [sizeOf, typeInfo, a1, a4]

theorem xFieldAddr_ok {t f : Nat} {p : SV} {a : Value} (hm : Mem w0 R0 S0 γ ob w) (h1 : V w γ p a) (h : xFieldAddr E t p f ob k = some r) : Done E w0 R0 S0 γ w (Instr.fieldAt t a f) k r := by
  unfold xFieldAddr at h
  split at h
  · rename_i fs _ hti
    obtain ⟨i, d, z, a1, a2, a3, a4, a5, a6, a7, _⟩ := ti_spec hti
    obtain ⟨gs, rfl, hfs⟩ := mkTD_struct a7.symm
    split at h
    · rename_i off u hf
      obtain ⟨F, hF, h2, h3⟩ := field_at hfs hf
      split at h
      · rename_i tu htu
        split at h
        · cases h
        · rename_i hz
          obtain ⟨q, hq, hk⟩ := ret1_some h
          obtain ⟨b, o, rfl, h4⟩ := addOff_ok h1 hq
          refine .same hm ?_ hk h4
          have hs := run_size (E := E) htu w
          subst h2
          subst h3
          simp [Instr.fieldAt, run_underlying a2, hF, Instr.sureAddr, fieldPlace, hs, hz, add_none]
      · cases h
    · cases h
  · cases h

/-- a part of a struct's cells -/
theorem part_ok {t : Nat} {ti : TI} (hti : E.ti t = some ti) {cs : List SV} {vs : List Value} {off : Nat} (hv : VL w γ cs vs) (h1 : ∀ v ∈ vs, v.oneCell' = true) {x : SV} (hx : mkv ti.agg ti.cells ((cs.drop off).take ti.cells) = some x) :
    ∃ u, (part t vs.toArray off).run E.P w = .ok u w ∧ V w γ x u := by
  obtain ⟨i, d, z, a1, a2, a3, a4, a5, a6, _⟩ := ti_spec hti
  have hv' := (hv.drop off).take ti.cells
  have hl := hv'.len
  have hs := run_size (E := E) hti w
  unfold mkv at hx
  split at hx
  · rename_i ha
    have hagg : (isAgg t).run E.P w = .ok true w := by
      unfold isAgg
      rw [Sem.run_bind, run_underlying a2 w]
      rw [a6] at ha
      cases d <;> simp_all [TypeDesc.isRow]
    split at hx
    · rename_i hc
      cases hx
      refine ⟨.agg (vs.toArray.extract off (off + ti.cells)), by simp [part, hagg, hs], ?_⟩
      simp only [V]
      refine ⟨(vs.drop off).take ti.cells, ?_, hv', fun v hv => h1 v (List.mem_of_mem_drop (List.mem_of_mem_take hv))⟩
      congr 1
      apply Array.ext'
      simp [List.extract_eq_take_drop]
    · cases hx
  · rename_i ha
    have hagg : (isAgg t).run E.P w = .ok false w := by
      unfold isAgg
      rw [Sem.run_bind, run_underlying a2 w]
      rw [a6] at ha
      cases d <;> simp_all [TypeDesc.isRow]
    split at hx
    · rename_i c hc
      cases hx
      rw [hc] at hv' hl
      cases hu : (vs.drop off).take ti.cells with
      | nil => rw [hu] at hl; simp at hl
      | cons v r =>
        rw [hu] at hv'
        simp only [VL] at hv'
        refine ⟨v, ?_, hv'.1⟩
        have h0 : vs[off]? = some v := by
          have : ((vs.drop off).take ti.cells)[0]? = some v := by rw [hu]; rfl
          rw [List.getElem?_take] at this
          split at this
          · rw [List.getElem?_drop] at this; simpa using this
          · cases this
        simp [part, hagg, h0]
    · cases hx

theorem xField_ok {t f : Nat} {p : SV} {a : Value} (hm : Mem w0 R0 S0 γ ob w) (h1 : V w γ p a) (h : xField E t p f ob k = some r) : Done E w0 R0 S0 γ w (Instr.field t a f) k r := by
  unfold xField at h
  split at h
  · rename_i fs _ hti
    obtain ⟨i, d, z, a1, a2, a3, a4, a5, a6, a7, _⟩ := ti_spec hti
    obtain ⟨gs, rfl, hfs⟩ := mkTD_struct a7.symm
    split at h
    · rename_i off u cs hf
      obtain ⟨F, hF, h2, h3⟩ := field_at hfs hf
      split at h
      · rename_i tu htu
        obtain ⟨x, hx, hk⟩ := ret1_some h
        simp only [V] at h1
        obtain ⟨vs, rfl, h4, h5⟩ := h1
        obtain ⟨v, h6, h7⟩ := part_ok htu h4 h5 hx
        refine .same hm ?_ hk h7
        subst h2
        subst h3
        simp [Instr.field, run_underlying a2, hF, asAgg, h6]
      · cases h
    · cases h
  · cases h

theorem xIndex_ok {t : Nat} {x i : SV} {a c : Value} (hm : Mem w0 R0 S0 γ ob w) (h1 : V w γ x a) (h2 : V w γ i c) (h : xIndex E t x i ob k = some r) : Done E w0 R0 S0 γ w (Instr.index t a c) k r := by
  unfold xIndex at h
  split at h
  · rename_i hti
    obtain ⟨ii, d, z, a1, a2, a3, a4, a5, a6, a7, _⟩ := ti_spec hti
    have hd := mkTD_str a7.symm
    subst hd
    split at h
    · rename_i s kd n
      simp only [V] at h1 h2
      obtain ⟨rfl, h1⟩ := h1
      obtain ⟨rfl, h2⟩ := h2
      split at h
      · rename_i hb
        have hi : n.toNat < s.length := by omega
        have hget : s.getD n.toNat 0 = s[n.toNat] := by simp [List.getD, hi]
        have hrng := h1.1 _ (List.getElem_mem hi)
        refine .same hm (u := .int .u8 s[n.toNat]) ?_ h (by simp only [V]; rw [hget]; exact ⟨by trivial, u8_has.2 hrng⟩)
        have hsz : n.toNat < (toBA s).size := by rw [toBA_size]; exact hi
        have hby : (toBA s)[n.toNat]? = some (UInt8.ofNat s[n.toNat].toNat) := by
          rw [getElem?_pos (toBA s) n.toNat hsz]
          congr 1
          show (toBA s).data[n.toNat] = _
          simp [toBA]
        have hto : ((UInt8.ofNat s[n.toNat].toNat).toNat : Int) = s[n.toNat] := by
          simp only [UInt8.toNat_ofNat']
          omega
        simp only [Instr.index, asIntOf, Sem.run_bind, Sem.run_pure, Result.andThen_ok, run_underlying a2, hb.1, if_true, hby, hto]
      · cases h
    · cases h
  · rename_i len u _ hti
    obtain ⟨ii, d, z, a1, a2, a3, a4, a5, a6, a7, _⟩ := ti_spec hti
    have hd := mkTD_arr a7.symm
    subst hd
    split at h
    · rename_i cs kd n tu htu
      simp only [V] at h1 h2
      obtain ⟨vs, rfl, h4, h5⟩ := h1
      obtain ⟨rfl, h2⟩ := h2
      split at h
      · rename_i hb
        obtain ⟨x, hx, hk⟩ := ret1_some h
        obtain ⟨v, h6, h7⟩ := part_ok htu h4 h5 hx
        refine .same hm ?_ hk h7
        have hs := run_size (E := E) htu w
        simp only [Instr.index, asIntOf, Sem.run_bind, Sem.run_pure, Result.andThen_ok, run_underlying a2, hb, hs, if_true, and_self, h6]
      · cases h
    · cases h
  · cases h

theorem xIndexAddr_ok {t : Nat} {x i : SV} {a c : Value} (hm : Mem w0 R0 S0 γ ob w) (h1 : V w γ x a) (h2 : V w γ i c) (h : xIndexAddr E t x i ob k = some r) : Done E w0 R0 S0 γ w (Instr.indexAt t a c) k r := by
  unfold xIndexAddr at h
  split at h
  · rename_i kd n
    simp only [V] at h2
    obtain ⟨rfl, h2⟩ := h2
    split at h
    · rename_i u _ hti
      obtain ⟨ii, d, z, a1, a2, a3, a4, a5, a6, a7, _⟩ := ti_spec hti
      have hd := mkTD_sl a7.symm
      subst hd
      split at h
      · rename_i tu htu
        have hs := run_size (E := E) htu w
        have run : ∀ (b o len cap : Nat), 0 ≤ n → n < len → (Instr.indexAt t (.slice (some ⟨b, o, none⟩) len cap) (.int kd n)).run E.P w = .ok (.pointer (some ⟨b, o + n.toNat * tu.cells, none⟩)) w := by
          intro b o len cap h0 h3
          simp [Instr.indexAt, asIntOf, run_underlying a2, h0, h3, hs, add_none]
        have reads : ∀ {e : K} {xs : List e.T} {a : Value}, Rd w γ.S (.sl e) xs [a] → e.cells = tu.cells → 0 ≤ n → n < xs.length → k (.relt e (xs.getD n.toNat e.dflt) 0) ob = some r → Done E w0 R0 S0 γ w (Instr.indexAt t a (.int kd n)) k r := by
          intro e xs a hr he h0 h3 hk
          obtain ⟨A, len, cap, ha, hl, hc, hb, hne⟩ := hr
          simp at ha
          subst ha
          obtain ⟨hi, hget⟩ := arr_get (e := e) h0 h3
          obtain ⟨b, off, rfl, hx⟩ := hne (by intro e; subst e; simp at h3; omega)
          obtain ⟨cs, h4, h5, h6⟩ := hx _ hi
          refine .same hm (run b off len cap h0 (by omega)) hk ?_
          rw [hget]
          simp only [V]
          exact ⟨b, off + n.toNat * e.cells, cs, by rw [he]; rfl, h4, h5, h6⟩
        split at h
        · rename_i e xs
          simp only [V] at h1
          split at h
          · rename_i he
            split at h
            · rename_i hb
              exact reads h1 he hb.1 hb.2 h
            · cases h
          · cases h
        · rename_i m g
          simp only [V] at h1
          obtain ⟨A, l, cp, hb1, rfl⟩ := h1
          split at h
          · rename_i g' e xs hg
            split at h
            · rename_i hc
              obtain ⟨rfl, he⟩ := hc
              split at h
              · rename_i hb
                obtain ⟨l', h2', h3⟩ := hm.objs m _ hg
                simp only at h2'
                rw [hb1] at h2'
                cases h2'
                obtain ⟨A', len, cap, e', h4, h5, h6, h7, h8⟩ := h3
                cases e'
                cases A with
                | none => have := h7 rfl; omega
                | some ad =>
                  obtain ⟨h9, _, _⟩ := h8 ad rfl
                  obtain ⟨b, o, sp⟩ := ad
                  simp only at h9
                  subst h9
                  refine .same hm (run b o _ _ hb.1 (by omega)) h ?_
                  simp only [V]
                  exact ⟨b, o, _, _, hb1, hb.1, by omega, by rw [he]; rfl⟩
              · cases h
            · cases h
          · rename_i g' e xs hg
            split at h
            · rename_i hc
              obtain ⟨rfl, he⟩ := hc
              split at h
              · rename_i hb
                obtain ⟨l', h2', h3⟩ := hm.objs m _ hg
                simp only at h2'
                rw [hb1] at h2'
                cases h2'
                obtain ⟨A', len, cap, e', h4⟩ := h3
                cases e'
                exact reads h4 he hb.1 hb.2 h
              · cases h
            · cases h
          · cases h
        · cases h
      · cases h
    · rename_i len u _ hti
      obtain ⟨ii, d, z, a1, a2, a3, a4, a5, a6, a7, _⟩ := ti_spec hti
      have hd := mkTD_arr a7.symm
      subst hd
      split at h
      · rename_i tu htu
        have hs := run_size (E := E) htu w
        split at h
        · rename_i hb
          obtain ⟨q, hq, hk⟩ := ret1_some h
          obtain ⟨b, o, rfl, h4⟩ := addOff_ok h1 hq
          refine .same hm ?_ hk h4
          simp [Instr.indexAt, asIntOf, run_underlying a2, Instr.sureAddr, hb, hs, add_none]
        · cases h
      · cases h
    · cases h
  · cases h

end
end Go.Vm
