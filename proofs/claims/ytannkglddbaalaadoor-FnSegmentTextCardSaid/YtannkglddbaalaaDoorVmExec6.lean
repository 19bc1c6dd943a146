/-
  Slicing, conversions, iterators, the small built-in functions.
-/
import Derived.Test.YtannkglddbaalaaDoorVmExec5
set_option linter.unusedSimpArgs false
set_option linter.unusedVariables false
namespace Go.Vm

section
variable {E : Env} {w0 : World} {R0 S0 : Nat → Nat → Prop} {γ : Gh} {w : World} {ob : Obs} {R : Type} {k : SV → Obs → Option R} {r : R}

/-- two optional operands -/
def OV (w : World) (γ : Gh) : Option SV → Option Value → Prop
  | none, none => True
  | some v, some u => V w γ v u
  | _, _ => False

theorem run_sliceBound {kd : IntKind} {i : Int} {y : Nat} (code : BoundsCode) (h0 : 0 ≤ i) (h1 : i ≤ y) (w : World) : (Instr.sliceBound (.int kd i) y code).run E.P w = .ok i.toNat w := by
  simp [Instr.sliceBound, asIntOf, h0, h1]

theorem bounds_ok {isSlice : Bool} {len cap : Nat} {lo hi : Option SV} {a b : Option Value} {l h : Int} (hlo : OV w γ lo a) (hhi : OV w γ hi b) (hl : bnd lo 0 = some l) (hh : bnd hi len = some h) (h0 : 0 ≤ l) (h1 : l ≤ h) (h2 : h ≤ len) (h3 : len ≤ cap) :
    (Instr.sliceBounds isSlice len cap a b none).run E.P w = .ok (l.toNat, h.toNat, cap) w := by
  have ha : a = none ∧ l = 0 ∨ ∃ kd, a = some (.int kd l) := by
    cases lo with
    | none =>
      simp only [bnd] at hl
      cases a with
      | none => exact .inl ⟨rfl, (Option.some.inj hl).symm⟩
      | some x => exact hlo.elim
    | some v =>
      cases a with
      | none => exact hlo.elim
      | some x =>
        simp only [OV] at hlo
        cases v <;> simp only [bnd] at hl <;> cases hl
        simp only [V] at hlo
        exact .inr ⟨_, by rw [hlo.1]⟩
  have hb : b = none ∧ h = len ∨ ∃ kd, b = some (.int kd h) := by
    cases hi with
    | none =>
      simp only [bnd] at hh
      cases b with
      | none => exact .inl ⟨rfl, (Option.some.inj hh).symm⟩
      | some x => exact hhi.elim
    | some v =>
      cases b with
      | none => exact hhi.elim
      | some x =>
        simp only [OV] at hhi
        cases v <;> simp only [bnd] at hh <;> cases hh
        simp only [V] at hhi
        exact .inr ⟨_, by rw [hhi.1]⟩
  have hhc : h ≤ cap := by omega
  have hhn : (h.toNat : Int) = h := by omega
  rcases ha with ⟨rfl, rfl⟩ | ⟨kd, rfl⟩ <;> rcases hb with ⟨rfl, rfl⟩ | ⟨kd', rfl⟩
  · simp [Instr.sliceBounds]
  · simp only [Instr.sliceBounds, Sem.run_bind, Sem.run_pure, Result.andThen_ok, run_sliceBound _ (show 0 ≤ h by omega) hhc]
    rfl
  · simp only [Instr.sliceBounds, Sem.run_bind, Sem.run_pure, Result.andThen_ok, run_sliceBound _ h0 h1]
    rfl
  · have h1' : l ≤ (h.toNat : Int) := by omega
    simp only [Instr.sliceBounds, Sem.run_bind, Sem.run_pure, Result.andThen_ok, run_sliceBound _ (show 0 ≤ h by omega) hhc, run_sliceBound _ h0 h1']

theorem toBA_cut (s : List Int) (l h : Nat) : (toBA s).extract l h = toBA ((s.drop l).take (h - l)) := by
  apply ByteArray.ext
  rw [ByteArray.data_extract]
  apply Array.ext'
  simp [toBA, List.extract_eq_take_drop, List.map_take, List.map_drop]

theorem strOK_cut {s : List Int} (h : strOK s) (l n : Nat) : strOK ((s.drop l).take n) :=
  ⟨fun x hx => h.1 x (List.mem_of_mem_drop (List.mem_of_mem_take hx)), by
    have := h.2
    rw [List.length_take, List.length_drop]
    omega⟩

/-- where a slice of a slice lies -/
def cutA (A : Option Addr) (cap l sz : Nat) : Option Addr := if cap = l then A else A.map (·.add (l * sz))

theorem Rd.cut {S : Nat → Nat → Prop} {e : K} {xs : List e.T} {A : Option Addr} {len cap l h : Nat} (hr : Rd w S (.sl e) xs [.slice A len cap]) (h1 : l ≤ h) (h2 : h ≤ len) :
    Rd w S (.sl e) ((xs.drop l).take (h - l)) [.slice (cutA A cap l e.cells) (h - l) (cap - l)] := by
  obtain ⟨A', len', cap', hu, h3, h4, h5, h6⟩ := hr
  simp at hu
  obtain ⟨rfl, rfl, rfl⟩ := hu
  refine ⟨_, _, _, rfl, by simp; omega, by omega, by simp; omega, fun hne => ?_⟩
  have hpos : 0 < ((xs.drop l).take (h - l)).length := List.length_pos_iff.2 hne
  simp at hpos
  obtain ⟨b, off, rfl, h7⟩ := h6 (by intro e; subst e; simp at hpos)
  refine ⟨b, off + l * e.cells, by rw [cutA, if_neg (by omega)]; simp [add_none], fun i hi => ?_⟩
  simp at hi
  obtain ⟨cs, h8, h9, h10⟩ := h7 (l + i) (by omega)
  have e1 : off + (l + i) * e.cells = off + l * e.cells + i * e.cells := by rw [Nat.add_mul]; omega
  rw [e1] at h9 h10
  refine ⟨cs, ?_, h9, h10⟩
  simpa using h8

theorem cut_nat {α : Type} {xs : List α} {l h : Int} (h0 : 0 ≤ l) (h1 : l ≤ h) : cutL xs l h = (xs.drop l.toNat).take (h.toNat - l.toNat) := by
  unfold cutL
  congr 1
  omega

theorem run_slice {t u : Nat} {A : Option Addr} {len cap sz : Nat} {lo hi : Option SV} {a b : Option Value} {l h : Int} (ht : E.P.underlying t = some (.slice u)) (hs : (sizeOf u).run E.P w = .ok sz w)
    (hlo : OV w γ lo a) (hhi : OV w γ hi b) (hl : bnd lo 0 = some l) (hh : bnd hi len = some h) (h0 : 0 ≤ l) (h1 : l ≤ h) (h2 : h ≤ len) (h3 : len ≤ cap) :
    (Instr.sliceAt t (.slice A len cap) a b none).run E.P w = .ok (.slice (cutA A cap l.toNat sz) (h.toNat - l.toNat) (cap - l.toNat)) w := by
  have hb := bounds_ok (E := E) (isSlice := true) hlo hhi hl hh h0 h1 h2 h3
  simp [Instr.sliceAt, run_underlying ht, Instr.slice, hb, hs, cutA]

theorem xSlice_ok {d t : Nat} {x : SV} {lo hi mx : Option SV} {a : Value} {p q m : Option Value} (hm : Mem w0 R0 S0 γ ob w) (h1 : V w γ x a) (hlo : OV w γ lo p) (hhi : OV w γ hi q) (hmx : OV w γ mx m) (h : xSlice E d t x lo hi mx ob k = some r) :
    Done E w0 R0 S0 γ w (Instr.sliceAt t a p q m) k r := by
  unfold xSlice at h
  split at h
  · cases h
  · have hm0 : m = none := by cases m with | none => rfl | some _ => exact hmx.elim
    subst hm0
    split at h
    · cases h
    · rename_i n hn
      split at h
      · rename_i l hh hbl hbh
        split at h
        · rename_i hc
          obtain ⟨h0, hle, hhn⟩ := hc
          split at h
          · -- a text
            rename_i s
            split at h
            · rename_i hti
              obtain ⟨i, dd, z, a1, a2, a3, a4, a5, a6, a7, _⟩ := ti_spec hti
              have hd := mkTD_str a7.symm
              subst hd
              simp only [V] at h1
              obtain ⟨rfl, hs⟩ := h1
              simp only [lenOf] at hn
              cases hn
              have hb := bounds_ok (E := E) (isSlice := false) (len := (toBA s).size) (cap := (toBA s).size) hlo hhi hbl (by rw [toBA_size]; exact hbh) h0 hle (by rw [toBA_size]; exact hhn) (Nat.le_refl _)
              refine .same hm (u := .string (toBA (cutL s l hh))) ?_ h (by simp only [V]; rw [cut_nat h0 hle]; exact ⟨by trivial, strOK_cut hs _ _⟩)
              rw [cut_nat h0 hle, ← toBA_cut]
              simp [Instr.sliceAt, run_underlying a2, Instr.slice, hb]
            · cases h
          · rename_i hns
            split at h
            · cases h
            · rename_i tu e0 hel
              obtain ⟨u, i, z, a1, a2, a3, a4, a5, a6, a7, a8, a9, a10, a11⟩ := el_spec hel
              have hsz := run_size (E := E) a2 w
              have reads : ∀ {e : K} {xs : List e.T} {γ' : Gh} {ob' : Obs} {A : Option Addr} {len cap : Nat}, a = .slice A len cap → n = len → Mem w0 R0 S0 γ' ob' w → Le γ w γ' w → Rd w γ'.S (.sl e) xs [.slice A len cap] → e.cells = tu.cells →
                  k (.ro e (cutL xs l hh)) ob' = some r → Done E w0 R0 S0 γ w (Instr.sliceAt t a p q none) k r := by
                intro e xs γ' ob' A len cap ha hnl m1 le1 hrd he hk
                subst ha
                subst hnl
                have hcap : len ≤ cap := by obtain ⟨_, _, _, hu, _, hc, _⟩ := hrd; simp at hu; obtain ⟨_, rfl, rfl⟩ := hu; exact hc
                refine ⟨_, _, _, w, γ', run_slice a1 hsz hlo hhi hbl hbh h0 hle hhn hcap, hk, ?_, m1, le1⟩
                simp only [V]
                rw [cut_nat h0 hle, ← he]
                exact hrd.cut (by omega) (by omega)
              have hlen := lenOf_ok hm h1 hn
              rcases hlen with ⟨s, hs, _⟩ | ⟨A, l1, c1, len, ha, hnl, hl1, hmax⟩
              · exact absurd hs (hns s)
              subst hl1
              split at h
              · rename_i e xs
                split at h
                · rename_i he
                  simp only [V] at h1
                  exact reads ha hnl hm (Le.refl _ _) (by rw [ha] at h1; exact h1) he h
                · cases h
              · simp only [V] at h1
                rw [h1] at ha
                cases ha
                have hh0 : hh = 0 := by omega
                have hl0 : l = 0 := by omega
                subst hh0
                subst hl0
                subst h1
                refine .same hm (run_slice a1 hsz hlo hhi hbl (by rw [hnl] at hbh; exact hbh) (by omega) (by omega) (by omega) (Nat.le_refl _)) h (by simp only [V, cutA]; rfl)
              · rename_i mm g
                simp only [V] at h1
                obtain ⟨A', l', c', hb, h1⟩ := h1
                rw [h1] at ha
                cases ha
                split at h
                · rename_i g' e xs hg
                  -- the header is the current one
                  have hgg : g = g' := by
                    simp only [lenOf, hg] at hn
                    split at hn
                    · assumption
                    · cases hn
                  subst hgg
                  split at h
                  · rename_i he
                    obtain ⟨lc, h3, A2, ln, cp, rfl, h4⟩ := hm.objs mm _ hg
                    simp only at h3
                    rw [hb] at h3
                    cases h3
                    split at h
                    · -- the call's own goes on
                      obtain ⟨h5, h6, h7, h8, h9⟩ := h4
                      subst h1
                      subst hnl
                      have hrun := run_slice (E := E) (A := A) a1 hsz hlo hhi hbl hbh h0 hle hhn h6
                      rw [← he] at hrun
                      rw [cut_nat h0 hle] at h
                      have hsub : (c1 - l.toNat) * e.cells + l.toNat * e.cells = c1 * e.cells := by rw [← Nat.add_mul]; congr 1; omega
                      obtain ⟨hm', hle'⟩ := hm.step (n := mm) (g' := g + 1) (o' := .arr e ((xs.drop l.toNat).take (hh.toNat - l.toNat))) (l' := .hdr (cutA A c1 l.toNat e.cells) (hh.toNat - l.toNat) (c1 - l.toNat)) (M := fun _ _ => False) (D := fun _ _ => False)
                        (Ev.refl _ _) (fun _ _ h => h.elim) (fun ent he => by rw [hg] at he; cases he; left; show g < g + 1; omega)
                        (fun hle' => by
                          refine ⟨_, _, _, rfl, by simp; omega, by omega, by simp; omega, fun hA => ?_, fun ad had => ?_⟩
                          · unfold cutA at hA
                            split at hA
                            · omega
                            · cases A with
                              | none => have := h8 rfl; omega
                              | some _ => cases hA
                          · unfold cutA at had
                            split at had
                            · rename_i hcl
                              obtain ⟨h10, h11, h12⟩ := h9 ad had
                              refine ⟨h10, fun j hj => by rw [hcl] at hj; simp at hj, fun j hj => ?_⟩
                              simp at hj
                              omega
                            · cases A with
                              | none => cases had
                              | some ad0 =>
                                obtain ⟨h10, h11, h12⟩ := h9 ad0 rfl
                                obtain ⟨b, o, sp⟩ := ad0
                                simp only at h10
                                subst h10
                                simp only [Option.map_some, add_none, Option.some.injEq] at had
                                subst had
                                refine ⟨rfl, fun j hj => ?_, fun j hj => ?_⟩
                                · have := h11 (l.toNat * e.cells + j) (by omega)
                                  rwa [← Nat.add_assoc] at this
                                · simp at hj
                                  obtain ⟨cs, h13, h14⟩ := h12 (l.toNat + j) (by omega)
                                  have e1 : o + (l.toNat + j) * e.cells = o + l.toNat * e.cells + j * e.cells := by rw [Nat.add_mul]; omega
                                  simp only at h14
                                  rw [e1] at h14
                                  refine ⟨cs, ?_, h14⟩
                                  have := h13.mono hle'.S hle'.keeps
                                  simpa using this)
                        (fun b q hr => by
                          unfold cutA at hr
                          have hrg : RG γ ob mm b q := by
                            split at hr
                            · rename_i hcl
                              cases A with
                              | none => exact hr.elim
                              | some ad0 =>
                                obtain ⟨h10, h11, h12⟩ := hr
                                rw [hcl] at h12
                                simp at h12
                                omega
                            · cases A with
                              | none => exact hr.elim
                              | some ad0 =>
                                obtain ⟨h10, _, _⟩ := h9 ad0 rfl
                                obtain ⟨b0, o, sp⟩ := ad0
                                simp only at h10
                                subst h10
                                simp only [Option.map_some, add_none] at hr
                                obtain ⟨h13, h14, h15⟩ := hr
                                simp only at h13 h14 h15
                                exact ⟨_, _, hg, hb, h13, by show o ≤ q; omega, by show q < o + c1 * e.cells; omega⟩
                          exact ⟨.inl hrg, (hm.live mm b q hrg).2⟩)
                        (fun _ _ hf => hf.elim)
                      exact ⟨_, _, _, w, _, hrun, h, V_own_new _ _ _ _ _ _ _, hm', hle'⟩
                    · obtain ⟨γ1, m1, le1, hrd⟩ := hm.freeze hg
                      exact reads h1 hnl m1 le1 (hrd _ _ _ hb) he h
                  · cases h
                · rename_i g' e xs hg
                  have hgg : g = g' := by
                    simp only [lenOf, hg] at hn
                    split at hn
                    · assumption
                    · cases hn
                  subst hgg
                  split at h
                  · rename_i he
                    obtain ⟨lc, h3, A2, ln, cp, rfl, h4⟩ := hm.objs mm _ hg
                    simp only at h3
                    rw [hb] at h3
                    cases h3
                    exact reads h1 hnl hm (Le.refl _ _) h4 he h
                  · cases h
                · cases h
              · cases h
        · cases h
      · cases h

end
end Go.Vm
