/-
  Each operation of the machine is what the model does.
-/
import Derived.Test.YtannkglddbaalaaDoorVmMem
set_option linter.unusedSimpArgs false
set_option linter.unusedVariables false
namespace Go.Vm

def Done (E : Env) (w0 : World) (R0 S0 : Nat → Nat → Prop) (γ : Gh) (w : World) (s : Sem Value) {R : Type} (k : SV → Obs → Option R) (r : R) : Prop :=
  ∃ v ob' u w' γ', s.run E.P w = .ok u w' ∧ k v ob' = some r ∧ V w' γ' v u ∧ Mem w0 R0 S0 γ' ob' w' ∧ Le γ w γ' w'

section
variable {E : Env} {w0 : World} {R0 S0 : Nat → Nat → Prop} {γ : Gh} {w : World} {ob : Obs} {R : Type} {k : SV → Obs → Option R} {r : R}

theorem Done.same {s : Sem Value} {v : SV} {u : Value} (hm : Mem w0 R0 S0 γ ob w) (hs : s.run E.P w = .ok u w) (hk : k v ob = some r) (hv : V w γ v u) : Done E w0 R0 S0 γ w s k r :=
  ⟨v, ob, u, w, γ, hs, hk, hv, hm, Le.refl γ w⟩

/-! #### Types -/
theorem ti_spec {t : Nat} {ti : TI} (h : E.ti t = some ti) : ∃ i d z, E.P.info? t = some i ∧ E.P.underlying t = some d ∧ i.zero = some z ∧ i.size = ti.cells ∧ i.bytes = ti.bytes ∧
    ti.agg = d.isRow ∧ ti.td = mkTD d ∧ ti.kd = kindOf E.P 60 t ∧ ti.zero = z.cells.toList.map ofConst ∧ z.cells.toList.length = i.size ∧ ∀ v ∈ z.cells.toList, v.oneCell' = true := by
  unfold Env.ti mkTI at h
  cases hi : E.P.info? t with
  | none => rw [hi] at h; simp at h
  | some i =>
    cases hd : E.P.underlying t with
    | none => rw [hi, hd] at h; simp at h
    | some d =>
      rw [hi, hd] at h
      simp only at h
      cases hz : i.zero with
      | none => rw [hz] at h; simp at h
      | some z =>
        rw [hz] at h
        simp only at h
        split at h
        · rename_i hc
          cases h
          refine ⟨i, d, z, rfl, rfl, hz, rfl, rfl, ?_, rfl, rfl, rfl, hc.1, fun v hv => ?_⟩
          · cases d <;> rfl
          · exact (List.all_eq_true.1 hc.2) v hv
        · cases h

theorem mkTD_int {d : TypeDesc} {k : IntKind} (h : mkTD d = .int k) : d = .int k := by cases d <;> simp_all [mkTD]
theorem mkTD_bool {d : TypeDesc} (h : mkTD d = .bool) : d = .bool := by cases d <;> simp_all [mkTD]
theorem mkTD_str {d : TypeDesc} (h : mkTD d = .str) : d = .string := by cases d <;> simp_all [mkTD]
theorem mkTD_sl {d : TypeDesc} {e : Nat} (h : mkTD d = .sl e) : d = .slice e := by cases d <;> simp_all [mkTD]
theorem mkTD_ptr {d : TypeDesc} {e : Nat} (h : mkTD d = .ptr e) : d = .pointer e := by cases d <;> simp_all [mkTD]
theorem mkTD_arr {d : TypeDesc} {n e : Nat} (h : mkTD d = .arr n e) : d = .array n e := by cases d <;> simp_all [mkTD]
theorem mkTD_iface {d : TypeDesc} (h : mkTD d = .iface) : ∃ ms, d = .interface ms := by cases d <;> simp_all [mkTD]
theorem mkTD_struct {d : TypeDesc} {fs : List (Nat × Nat)} (h : mkTD d = .struct fs) : ∃ gs : Array Field, d = .struct gs ∧ fs = gs.toList.map fun f => (f.offset, f.type) := by
  cases d <;> simp_all [mkTD]

theorem repK_ne {a : K} {n : Nat} {k : IntKind} : repK a n ≠ .int k := by cases n <;> simp [repK]
theorem kindsOf_ne {P : Program} : ∀ {f : Nat} {ts : List Nat} {k : IntKind}, kindsOf P f ts ≠ some (.int k)
  | 0, _, _ => by simp [kindsOf]
  | f + 1, [], _ => by simp [kindsOf]
  | f + 1, t :: r, k => by
    simp only [kindsOf]
    split <;> simp

theorem kindOf_int {P : Program} {f t : Nat} {k : IntKind} (h : kindOf P f t = some (.int k)) : P.underlying t = some (.int k) := by
  cases f with
  | zero => simp [kindOf] at h
  | succ f =>
    simp only [kindOf] at h
    split at h
    · rename_i k' hu; cases h; exact hu
    · cases h
    · cases h
    · split at h <;> cases h
    · split at h
      · exact absurd (Option.some.inj h) repK_ne
      · cases h
    · exact absurd h kindsOf_ne
    · cases h

theorem kindOf_sl {P : Program} {f t u : Nat} {e : K} (h : kindOf P f t = some (.sl e)) (hu : P.underlying t = some (.slice u)) : ∃ f', kindOf P f' u = some e := by
  cases f with
  | zero => simp [kindOf] at h
  | succ f =>
    simp only [kindOf, hu] at h
    split at h
    · rename_i k hk; cases h; exact ⟨f, hk⟩
    · cases h

/-- of a slice type -/
theorem el_spec {t : Nat} {tu : TI} {e : K} (h : E.el t = some (tu, e)) : ∃ u i z, E.P.underlying t = some (.slice u) ∧ E.ti u = some tu ∧ E.P.info? u = some i ∧ i.zero = some z ∧ i.size = e.cells ∧ tu.cells = e.cells ∧
    i.bytes ≤ 16384 ∧ tu.zero = z.cells.toList.map ofConst ∧ z.cells.toList.length = e.cells ∧ (∀ v ∈ z.cells.toList, v.oneCell' = true) ∧ ∃ f, kindOf E.P f u = some e := by
  unfold Env.el at h
  split at h
  · rename_i ti hti
    split at h
    · rename_i u e' h1 h2
      split at h
      · rename_i tu' htu
        split at h
        · rename_i hc
          cases h
          obtain ⟨i, d, z, a1, a2, a3, a4, a5, a6, a7, a8, a9, a10, a11⟩ := ti_spec hti
          have hd := mkTD_sl (a7.symm.trans h1)
          subst hd
          obtain ⟨i', d', z', b1, b2, b3, b4, b5, b6, b7, b8, b9, b10, b11⟩ := ti_spec htu
          have hk := kindOf_sl (a8.symm.trans h2) a2
          exact ⟨u, i', z', a2, htu, b1, b3, by omega, hc.1, by omega, b9, by omega, b11, hk⟩
        · cases h
      · cases h
    · cases h
  · cases h

/-! #### Operands -/
theorem byte_of (b : UInt8) : UInt8.ofNat ((b.toNat : Int)).toNat = b := by simp

theorem toBA_of (s : ByteArray) : toBA (s.data.toList.map fun b => (b.toNat : Int)) = s := by
  unfold toBA
  rw [List.map_map]
  have : ((fun n : Int => UInt8.ofNat n.toNat) ∘ fun b : UInt8 => (b.toNat : Int)) = id := by funext b; simp
  rw [this]
  simp

theorem ofConst_ok (v : Value) : V w γ (ofConst v) v := by
  cases v with
  | int k n =>
    simp only [ofConst]
    split
    · rename_i h
      simp only [V]
      exact ⟨trivial, by rw [← h]; exact wrap_has k n⟩
    · simp only [V]
  | bool b => simp only [ofConst, V]
  | string s =>
    simp only [ofConst]
    split
    · rename_i h
      simp only [V]
      refine ⟨by rw [toBA_of], fun x hx => ?_, by simp only [List.length_map]; omega⟩
      obtain ⟨b, _, rfl⟩ := List.mem_map.1 hx
      have := b.toNat_lt
      omega
    · simp only [V]
  | slice a n c =>
    unfold ofConst
    split <;> simp_all [V]
  | pointer a =>
    unfold ofConst
    split <;> simp_all [V]
  | nilIface => simp only [ofConst, V, if_true]
  | _ => simp only [ofConst, V]

theorem ofConsts_ok : ∀ vs : List Value, VL w γ (vs.map ofConst) vs
  | [] => by simp only [List.map_nil, VL]
  | v :: r => by simp only [List.map_cons, VL]; exact ⟨ofConst_ok v, ofConsts_ok r⟩

/-- what the slots hold -/
def Sl (w : World) (γ : Gh) (sl : List SV) (a : Act) : Prop := sl.length ≤ a.tmps.size ∧ ∀ i, V w γ (sl.getD i .undef) (a.tmps.getD i undef)

theorem opd_ok {sl : List SV} {a : Act} (h : Sl w γ sl a) (x : Operand) : V w γ (opd sl x) (a.eval x) := by
  cases x with
  | tmp t => exact h.2 t
  | const v => exact ofConst_ok v
  | func f => simp only [opd, Act.eval, V]; exact ⟨[], rfl, by simp only [VL]⟩
  | global g => simp only [opd, V]

theorem Sl.mono {γ' : Gh} {w' : World} {sl : List SV} {a : Act} (hle : Le γ w γ' w') (h : Sl w γ sl a) : Sl w' γ' sl a := ⟨h.1, fun i => V.mono hle (h.2 i)⟩

theorem Sl.put {sl : List SV} {a : Act} (h : Sl w γ sl a) (d : Option Nat) {v : SV} {u : Value} (hv : V w γ v u) : Sl w γ (putD sl d v) (a.put d u) := by
  cases d with
  | none => exact h
  | some i =>
    refine ⟨by simp [putD, setAt, Act.put]; exact h.1, fun j => ?_⟩
    by_cases e : i = j
    · subst e
      by_cases hi : i < sl.length
      · have h2 : i < a.tmps.size := Nat.lt_of_lt_of_le hi h.1
        simp [putD, setAt, Act.put, List.getD, Array.getD, hi, h2]
        exact hv
      · have : (putD sl (some i) v).getD i .undef = .undef := by
          simp only [putD, setAt, List.getD]
          rw [List.getElem?_eq_none (by simp; omega)]
          rfl
        rw [this]
        simp only [V]
    · have h1 := h.2 j
      have e1 : (putD sl (some i) v).getD j .undef = sl.getD j .undef := by simp [putD, setAt, List.getD, List.getElem?_set_ne e]
      have e2 : (a.put (some i) u).tmps.getD j undef = a.tmps.getD j undef := by
        simp [Act.put, Array.getD_eq_getD_getElem?, Array.getElem?_setIfInBounds_ne e]
      rw [e1, e2]
      exact h1

/-! #### A new block -/
theorem fresh_ok {d : Nat} {l : Loc} : ∀ ent, get ob d = some ent → ent.g < fresh ob d ∨ (ent.g = fresh ob d ∧ γ.β d (fresh ob d) = some l) := by
  intro ent h
  left
  simp [fresh, h]

theorem alloc_range (w : World) (vs : List Value) (t : TypeId) : (w.alloc (.cells vs.toArray t)).rangeAt w.heap.size 0 vs := by
  intro j v hv
  rw [Nat.zero_add, World.cell?_alloc_new]
  simpa using hv

theorem alloc_there (w : World) (c : Array Value) (t : TypeId) (n : Nat) (hn : n ≤ c.size) : (w.alloc (.cells c t)).there w.heap.size 0 n := by
  intro j hj
  rw [Nat.zero_add, World.cell?_alloc_new, World.frozen?_alloc_new]
  have : j < c.size := by omega
  simp [this]

theorem Mem.newBox (hm : Mem w0 R0 S0 γ ob w) (d : Nat) (t : TypeId) {cs : List SV} {vs : List Value} (hv : VL w γ cs vs) (h1 : ∀ v ∈ vs, v.oneCell' = true) :
    Mem w0 R0 S0 (γ.set d (fresh ob d) (.blk w.heap.size 0) fun _ _ => False) (newAt d (.box cs) ob) (w.alloc (.cells vs.toArray t)) ∧
    Le γ w (γ.set d (fresh ob d) (.blk w.heap.size 0) fun _ _ => False) (w.alloc (.cells vs.toArray t)) := by
  have hl := hv.len
  refine hm.step (M := fun _ _ => False) (Ev.alloc _ _ _) (fun _ _ h => h.elim) fresh_ok (fun hle => ⟨_, _, rfl, vs, VL.mono hle hv, h1, alloc_range w vs t, ?_⟩) (fun b i hr => ?_) (fun _ _ h => h.elim)
  · exact alloc_there w _ t _ (by simp; omega)
  · obtain ⟨e1, _, _⟩ := hr
    rw [e1]
    exact ⟨.inr (Nat.le_refl _), by show w.heap.size < (w.heap.push _).size; simp⟩

theorem V_ptr_new (d g b o : Nat) (D : Nat → Nat → Prop) (w' : World) : V w' (γ.set d g (.blk b o) D) (.ptr d g 0) (.pointer (some ⟨b, o, none⟩)) := by
  simp only [V]
  exact ⟨b, o, by simp [Gh.set], rfl⟩

theorem run_zero {t : Nat} {i : TypeInfo} {z : Value} (hi : E.P.info? t = some i) (hz : i.zero = some z) (w : World) : (zeroValue t).run E.P w = .ok z w := by
  simp [zeroValue, typeInfo, hi, hz]

theorem alloc_ok {d t : Nat} {ti : TI} (hm : Mem w0 R0 S0 γ ob w) (hti : E.ti t = some ti) (hk : k (.ptr d (fresh ob d) 0) (newAt d (.box ti.zero) ob) = some r) :
    Done E w0 R0 S0 γ w (Instr.alloc t true (.tuple #[])) k r := by
  obtain ⟨i, dd, z, a1, a2, a3, a4, a5, a6, a7, a8, a9, a10, a11⟩ := ti_spec hti
  obtain ⟨hm', hle⟩ := hm.newBox d t (cs := ti.zero) (vs := z.cells.toList) (by rw [a9]; exact ofConsts_ok _) a11
  refine ⟨_, _, .pointer (some ⟨w.heap.size, 0, none⟩), _, _, ?_, hk, V_ptr_new _ _ _ _ _ _, hm', hle⟩
  simp [Instr.alloc, run_zero a1 a3, newVar, newRow]

/-- a value's cells -/
theorem cellsOf_ok {v : SV} {u : Value} {cs : List SV} (h : V w γ v u) (hc : cellsOf v = some cs) : VL w γ cs u.cells.toList ∧ ∀ x ∈ u.cells.toList, x.oneCell' = true := by
  have one : ∀ {v : SV} {u : Value}, V w γ v u → u.oneCell' = true → VL w γ [v] u.cells.toList ∧ ∀ x ∈ u.cells.toList, x.oneCell' = true := by
    intro v u h h1
    have : u.cells = #[u] := by cases u <;> first | rfl | simp [Value.oneCell'] at h1
    rw [this]
    exact ⟨by simp only [VL]; exact ⟨h, trivial⟩, by simpa using h1⟩
  cases v with
  | agg ds =>
    cases hc
    simp only [V] at h
    obtain ⟨vs, rfl, h1, h2⟩ := h
    simpa [Value.cells] using ⟨h1, h2⟩
  | tup ds => cases hc
  | undef => cases hc
  | skip => cases hc
  | int kd n => cases hc; exact one h (by simp only [V] at h; rw [h.1]; rfl)
  | bool b => cases hc; exact one h (by simp only [V] at h; rw [h]; rfl)
  | str s => cases hc; exact one h (by simp only [V] at h; rw [h.1]; rfl)
  | ro e xs => cases hc; exact one h (by simp only [V] at h; exact h.one u (by simp))
  | own n g => cases hc; exact one h (by simp only [V] at h; obtain ⟨_, _, _, _, rfl⟩ := h; rfl)
  | nilsl => cases hc; exact one h (by simp only [V] at h; rw [h]; rfl)
  | ptr n g off => cases hc; exact one h (by simp only [V] at h; obtain ⟨_, _, _, rfl⟩ := h; rfl)
  | elt e n g i off => cases hc; exact one h (by simp only [V] at h; obtain ⟨_, _, _, _, _, _, _, rfl⟩ := h; rfl)
  | relt e x off => cases hc; exact one h (by simp only [V] at h; obtain ⟨_, _, _, rfl, _⟩ := h; rfl)
  | nilptr => cases hc; exact one h (by simp only [V] at h; rw [h]; rfl)
  | err b => cases hc; exact one h (by cases b <;> simp [V] at h; (obtain ⟨_, _, rfl⟩ := h; rfl); (rw [h]; rfl))
  | iter n g => cases hc; exact one h (by simp only [V] at h; obtain ⟨_, _, rfl⟩ := h; rfl)
  | fn f caps => cases hc; exact one h (by simp only [V] at h; obtain ⟨_, rfl, _⟩ := h; rfl)

theorem box_ok {d t : Nat} {v : SV} {u : Value} {cs : List SV} (hm : Mem w0 R0 S0 γ ob w) (hv : V w γ v u) (hc : cellsOf v = some cs) (hk : k (.ptr d (fresh ob d) 0) (newAt d (.box cs) ob) = some r) :
    Done E w0 R0 S0 γ w (Instr.box t u) k r := by
  obtain ⟨h1, h2⟩ := cellsOf_ok hv hc
  obtain ⟨hm', hle⟩ := hm.newBox d t h1 h2
  refine ⟨_, _, .pointer (some ⟨w.heap.size, 0, none⟩), _, _, ?_, hk, V_ptr_new _ _ _ _ _ _, hm', hle⟩
  simp [Instr.box, newVar, newRow]

/-! #### Whole numbers, texts, bools -/
theorem intBin_ok {op : BinOp} {ty : Nat} {kd : IntKind} {a b : Int} {v : SV} (h : intBin op kd a b = some v) (w : World) : ∃ u, (binOp op ty (.int kd a) (.int kd b)).run E.P w = .ok u w ∧ V w γ v u := by
  cases op <;> simp only [intBin] at h <;> cases h <;> simp [Go.binOp, Op.intArith, Op.intBits, Op.intCmp, V, wrap_has]

theorem eqGuard_plain {op : BinOp} {ty : Nat} {x y : Operand} {a b : Value} (h : ∀ as bs, ¬ (a = .agg as ∧ b = .agg bs)) (h' : ¬ (a = .nilIface ∧ b = .nilIface)) (w : World) : (eqGuard op ty x y a b).run E.P w = .ok () w := by
  cases op <;> simp only [eqGuard, Bool.not_true, Bool.not_false, if_true, Bool.false_eq_true, if_false] <;> first
    | rfl
    | (split
       · exact absurd ⟨rfl, rfl⟩ h'
       · exact absurd ⟨rfl, rfl⟩ (h _ _)
       · rfl)

theorem eq_bool' {P : Program} {ty : Nat} (h : P.underlying ty = some .bool) (p q : Bool) (w : World) (d : Nat) : (Op.equalIn (d + 1) ty (.bool p) (.bool q)).run P w = .ok (p == q) w := by
  simp only [Op.equalIn, Sem.run_bind, run_underlying h, Result.andThen_ok]
  rfl
theorem eq_bool {P : Program} {ty : Nat} (h : P.underlying ty = some .bool) (p q : Bool) (w : World) : (Op.equal ty (.bool p) (.bool q)).run P w = .ok (p == q) w := eq_bool' h p q w 9999

theorem eq_nil_nil' {P : Program} {ty : Nat} {ms : Array (String × TypeId)} (h : P.underlying ty = some (.interface ms)) (w : World) (d : Nat) : (Op.equalIn (d + 1) ty .nilIface .nilIface).run P w = .ok true w := by
  simp only [Op.equalIn, Sem.run_bind, run_underlying h, Result.andThen_ok]
  rfl
theorem eq_nil_nil {P : Program} {ty : Nat} {ms : Array (String × TypeId)} (h : P.underlying ty = some (.interface ms)) (w : World) : (Op.equal ty .nilIface .nilIface).run P w = .ok true w := eq_nil_nil' h w 9999

theorem eq_iface_nil' {P : Program} {ty : Nat} {ms : Array (String × TypeId)} (h : P.underlying ty = some (.interface ms)) (t : TypeId) (v : Value) (w : World) (d : Nat) : (Op.equalIn (d + 1) ty (.iface t v) .nilIface).run P w = .ok false w := by
  simp only [Op.equalIn, Sem.run_bind, run_underlying h, Result.andThen_ok]
  rfl
theorem eq_iface_nil {P : Program} {ty : Nat} {ms : Array (String × TypeId)} (h : P.underlying ty = some (.interface ms)) (t : TypeId) (v : Value) (w : World) : (Op.equal ty (.iface t v) .nilIface).run P w = .ok false w := eq_iface_nil' h t v w 9999

theorem eq_ptr_nil' {P : Program} {ty e : Nat} (h : P.underlying ty = some (.pointer e)) (a : Option Addr) (w : World) (d : Nat) : (Op.equalIn (d + 1) ty (.pointer a) (.pointer none)).run P w = .ok a.isNone w := by
  simp only [Op.equalIn, Sem.run_bind, run_underlying h, Result.andThen_ok]
  cases a <;> rfl
theorem eq_ptr_nil {P : Program} {ty e : Nat} (h : P.underlying ty = some (.pointer e)) (a : Option Addr) (w : World) : (Op.equal ty (.pointer a) (.pointer none)).run P w = .ok a.isNone w := eq_ptr_nil' h a w 9999

theorem toBA_inj {a b : List Int} (ha : bytesOK a) (hb : bytesOK b) (h : toBA a = toBA b) : a = b := by
  have h1 : a.map (fun n => UInt8.ofNat n.toNat) = b.map fun n => UInt8.ofNat n.toNat := by
    have h2 : (toBA a).data = (toBA b).data := by rw [h]
    simpa [toBA] using h2
  have key : ∀ l : List Int, bytesOK l → (l.map fun n => UInt8.ofNat n.toNat).map (fun b => (b.toNat : Int)) = l := by
    intro l hl
    rw [List.map_map]
    conv => rhs; rw [← List.map_id l]
    apply List.map_congr_left
    intro x hx
    have := hl x hx
    simp only [Function.comp, UInt8.toNat_ofNat', id]
    omega
  rw [← key a ha, ← key b hb, h1]

theorem toBA_toList (a : List Int) : (toBA a).toList = a.map fun n => UInt8.ofNat n.toNat := by
  rw [ByteArray.toList_eq]
  simp [toBA]

theorem str_beq {a b : List Int} (ha : strOK a) (hb : strOK b) : ((toBA a).toList == (toBA b).toList) = (a == b) := by
  rw [Bool.eq_iff_iff, beq_iff_eq, beq_iff_eq]
  constructor
  · intro h
    rw [toBA_toList, toBA_toList] at h
    exact toBA_inj ha.1 hb.1 (by unfold toBA; rw [h])
  · intro h; rw [h]

theorem toBA_append (a b : List Int) : toBA a ++ toBA b = toBA (a ++ b) := by
  apply ByteArray.ext
  rw [ByteArray.data_append]
  simp [toBA]

theorem strOK_append {a b : List Int} (ha : strOK a) (hb : strOK b) (h : a.length + b.length ≤ lim) : strOK (a ++ b) := by
  refine ⟨fun x hx => ?_, ?_⟩
  · rcases List.mem_append.1 hx with h | h
    · exact ha.1 x h
    · exact hb.1 x h
  · have : lim = 4294967296 := rfl
    simp; omega

theorem ret1_some {o : Option SV} (h : ret1 o ob k = some r) : ∃ v, o = some v ∧ k v ob = some r := by
  cases o with
  | none => simp [ret1] at h
  | some v => exact ⟨v, rfl, h⟩

theorem nilOf_ok {x : SV} {u : Value} {b : Bool} (hv : V w γ x u) (h : nilOf x = some b) : (b = true ∧ u = .pointer none) ∨ (b = false ∧ ∃ a, u = .pointer (some a)) := by
  cases x <;> simp [nilOf] at h <;> subst h <;> simp only [V] at hv
  · obtain ⟨_, _, _, rfl⟩ := hv; right; exact ⟨rfl, _, rfl⟩
  · obtain ⟨_, _, _, _, _, _, _, rfl⟩ := hv; right; exact ⟨rfl, _, rfl⟩
  · obtain ⟨_, _, _, rfl, _⟩ := hv; right; exact ⟨rfl, _, rfl⟩
  · subst hv; left; exact ⟨rfl, rfl⟩

end
end Go.Vm
