/-
  Conversions, copy, iterators, the small built-in functions.
-/
import Derived.Test.YtannkglddbaalaaDoorVmExec6
set_option linter.unusedSimpArgs false
set_option linter.unusedVariables false
namespace Go.Vm

section
variable {E : Env} {w0 : World} {R0 S0 : Nat → Nat → Prop} {γ : Gh} {w : World} {ob : Obs} {R : Type} {k : SV → Obs → Option R} {r : R}

theorem flat_bytes {S : Nat → Nat → Prop} : ∀ {xs : List Int} {ns : List Value}, Flat w S (.int .u8) xs ns → ns = xs.map (Value.int .u8) ∧ bytesOK xs
  | [], ns, h => ⟨h, fun x hx => by cases hx⟩
  | x :: xs, ns, h => by
    obtain ⟨cs, r, rfl, h1, h2⟩ := h
    obtain ⟨rfl, h3⟩ := flat_bytes h2
    obtain ⟨h4, h5⟩ := h1
    subst h4
    refine ⟨rfl, fun y hy => ?_⟩
    rcases List.mem_cons.1 hy with rfl | hy
    · exact u8_has.1 h5
    · exact h3 y hy

theorem foldl_push : ∀ (l : List Int) (r : ByteArray), (l.foldl (fun r n => r.push (UInt8.ofNat n.toNat)) r).data.toList = r.data.toList ++ l.map fun n => UInt8.ofNat n.toNat
  | [], r => by simp
  | x :: l, r => by
    simp only [List.foldl_cons, List.map_cons]
    rw [foldl_push l]
    simp

theorem foldl_toBA (l : List Int) : l.foldl (fun r n => r.push (UInt8.ofNat n.toNat)) ByteArray.empty = toBA l := by
  apply ByteArray.ext
  apply Array.ext'
  rw [foldl_push]
  simp [toBA]

theorem bytesRow_get (s : List Int) (c j : Nat) (hj : j < s.length) (hs : bytesOK s) : (bytesRow (toBA s) c)[j]? = some (.int .u8 s[j]) := by
  have hb := hs _ (List.getElem_mem hj)
  unfold bytesRow
  rw [Array.getElem?_append_left (by simp [toBA]; exact hj)]
  simp [toBA, hj]
  omega

theorem enc_ok (n : Int) : Value.string (Utf8.encode n) = .string (toBA (enc n)) ∧ strOK (enc n) := by
  refine ⟨?_, fun x hx => ?_, ?_⟩
  · congr 1
    apply ByteArray.ext
    simp [toBA, enc, Function.comp_def]
  · simp only [enc, List.mem_map] at hx
    obtain ⟨b, _, rfl⟩ := hx
    have := b.toNat_lt
    omega
  · have : (Utf8.encode n).data.size ≤ 4 := by
      unfold Utf8.encode
      simp only
      repeat' split
      all_goals simp
    simp only [enc, List.length_map, Array.length_toList]
    omega

theorem xConvert_ok {d src dst : Nat} {x : SV} {a : Value} (hm : Mem w0 R0 S0 γ ob w) (h1 : V w γ x a) (h : xConvert E d src dst x ob k = some r) : Done E w0 R0 S0 γ w (convert src dst a) k r := by
  unfold xConvert at h
  split at h
  · rename_i ts ti hts hti
    obtain ⟨is, ds, zs, b1, b2, b3, b4, b5, b6, b7, b8, _⟩ := ti_spec hts
    obtain ⟨i, dd, z, a1, a2, a3, a4, a5, a6, a7, a8, _⟩ := ti_spec hti
    split at h
    · rename_i kd kk n htd
      have hd := mkTD_int (a7.symm.trans htd)
      subst hd
      simp only [V] at h1
      obtain ⟨rfl, _⟩ := h1
      refine .same hm (u := .int kd (kd.wrap n)) ?_ h (by simp only [V]; exact ⟨by trivial, wrap_has _ _⟩)
      simp [convert, run_underlying b2, run_underlying a2, Conv.intToInt]
    · rename_i s htd
      have hd := mkTD_str (a7.symm.trans htd)
      subst hd
      simp only [V] at h1
      obtain ⟨rfl, hs⟩ := h1
      refine .same hm (u := .string (toBA s)) ?_ h (by simp only [V]; exact ⟨by trivial, hs⟩)
      simp [convert, run_underlying b2, run_underlying a2]
    · rename_i kk n htd
      have hd := mkTD_str (a7.symm.trans htd)
      subst hd
      simp only [V] at h1
      obtain ⟨rfl, _⟩ := h1
      refine .same hm (u := .string (Utf8.encode n)) ?_ h (by simp only [V]; exact enc_ok n)
      simp [convert, run_underlying b2, run_underlying a2, Conv.intToString]
    · rename_i htd hn1 hn2
      have hd := mkTD_str (a7.symm.trans htd)
      subst hd
      split at h
      · rename_i u htd2 hkd
        have hds := mkTD_sl (b7.symm.trans htd2)
        subst hds
        obtain ⟨f, hk⟩ := kindOf_sl (b8.symm.trans hkd) b2
        have hu := kindOf_int hk
        split at h
        · rename_i xs rd hl
          obtain ⟨A, len, cap, rfl, h2, h3, h4, h5⟩ := listOf_ok hm h1 hl
          have hfin : ∃ A', A = A' ∧ ((Conv.bytesToString (.slice A len cap)).run E.P w = .ok (.string (toBA xs)) w ∧ bytesOK xs) := by
            refine ⟨A, rfl, ?_⟩
            cases A with
            | none =>
              have hx : xs = [] := by
                rcases h5 with h5 | ⟨b, off, ns, hA, _⟩
                · exact h5
                · cases hA
              subst hx
              refine ⟨?_, fun x hx => by cases hx⟩
              simp [Conv.bytesToString]
              rfl
            | some ad =>
              have hload : (loadCells ad len).run E.P w = .ok (xs.map (Value.int .u8)).toArray w ∧ bytesOK xs := by
                rcases h5 with rfl | ⟨b, off, ns, hA, h6, h7⟩
                · have hl0 : len = 0 := h2.symm
                  subst hl0
                  exact ⟨by simp [loadCells, loadCellsFrom], fun x hx => by cases hx⟩
                · cases hA
                  obtain ⟨rfl, h8⟩ := flat_bytes h6
                  have := run_loadCells_list (P := E.P) w ⟨b, off, none⟩ (xs.map (Value.int .u8)) (fun j v hv => by rw [add_none]; exact h7 j v hv)
                  rw [List.length_map, h2] at this
                  exact ⟨this, h8⟩
              have := run_bytesToString (P := E.P) w ad len cap xs hload.1
              rw [foldl_toBA] at this
              exact ⟨this, hload.2⟩
          obtain ⟨_, _, hrun, hb⟩ := hfin
          refine .same hm (u := .string (toBA xs)) ?_ h (by simp only [V]; exact ⟨by trivial, hb, h4⟩)
          simp only [convert, Sem.run_bind, run_underlying b2, run_underlying a2, Result.andThen_ok, run_underlying hu]
          exact hrun
        · cases h
      · cases h
    · rename_i u s htd
      have hd := mkTD_sl (a7.symm.trans htd)
      subst hd
      split at h
      · rename_i htd2 hkd
        have hds := mkTD_str (b7.symm.trans htd2)
        subst hds
        obtain ⟨f, hk⟩ := kindOf_sl (a8.symm.trans hkd) a2
        have hu := kindOf_int hk
        split at h
        · rename_i hl
          simp only [V] at h1
          obtain ⟨rfl, hs⟩ := h1
          have hrun := run_bytes_of_string w src dst u (toBA s) b2 a2 hu
          rw [toBA_size] at hrun
          have hge := grownCap_ge w s.length 0 u
          have hsize : (bytesRow (toBA s) (grownCap w s.length 0 u)).size = grownCap w s.length 0 u := by
            unfold bytesRow
            have : (toBA s).data.size = s.length := by simp [toBA]
            simp [this, toBA_size]
            omega
          have hfl : Flat w γ.S (.int .u8) s (s.map (Value.int .u8)) := by
            have key : ∀ l : List Int, bytesOK l → Flat w γ.S (.int .u8) l (l.map (Value.int .u8)) := by
              intro l
              induction l with
              | nil => intro _; rfl
              | cons x l ih =>
                intro hl
                exact ⟨[.int .u8 x], _, rfl, ⟨rfl, u8_has.2 (hl x (by simp))⟩, ih fun y hy => hl y (by simp [hy])⟩
            exact key s hs.1
          obtain ⟨hm', hle⟩ := hm.newArr (w' := w.drew.alloc (.cells (bytesRow (toBA s) (grownCap w s.length 0 u)) u ((bytesRow (toBA s) (grownCap w s.length 0 u)).size, (bytesRow (toBA s) (grownCap w s.length 0 u)).size + 1)))
            ((Ev.drew _ _).trans (Ev.alloc _ _ _)) (size_alloc w.drew _) (e := .int .u8) (cap := grownCap w s.length 0 u) hfl
            (rangeAt_alloc w.drew _ _ _ _ (fun j v hv => by
              have hj : j < s.length := by have := (List.getElem?_eq_some_iff.1 hv).1; simpa using this
              rw [bytesRow_get s _ j hj hs.1]
              rw [List.getElem?_map, List.getElem?_eq_getElem hj] at hv
              exact hv))
            (there_alloc w.drew _ _ _ _ (by rw [hsize]; simp [K.cells]) (.inr (by rw [hsize]; simp [K.cells]))) hge hl d (fresh ob d) (fun ent he => by simp [fresh, he])
          exact ⟨_, _, _, _, _, hrun, h, V_own_new _ _ _ _ _ _ _, hm', hle⟩
        · cases h
      · cases h
    · cases h
  · cases h

/-! #### Iterators -/
theorem range_ok {d t : Nat} {ti : TI} {s : List Int} {a : Value} (hm : Mem w0 R0 S0 γ ob w) (hti : E.ti t = some ti) (htd : ti.td = .str) (h1 : V w γ (.str s) a) (hk : k (.iter d (fresh ob d)) (newAt d (.iter s 0) ob) = some r) :
    Done E w0 R0 S0 γ w (Instr.range t a) k r := by
  obtain ⟨i, dd, z, a1, a2, a3, a4, a5, a6, a7, _⟩ := ti_spec hti
  have hd := mkTD_str (a7.symm.trans htd)
  subst hd
  simp only [V] at h1
  obtain ⟨rfl, hs⟩ := h1
  obtain ⟨hm', hle⟩ := hm.step (n := d) (g' := fresh ob d) (o' := .iter s 0) (l' := .blk w.heap.size 0) (w' := w.alloc (.stringIter (toBA s) 0)) (M := fun _ _ => False) (D := fun _ _ => False) (Ev.alloc _ _ _) (fun _ _ h => h.elim) fresh_ok
    (fun hle => ⟨_, rfl, by show (w.heap.push _)[w.heap.size]? = _; simp, hs⟩) (fun b q hr => by
      have hr : b = w.heap.size := hr
      subst hr
      exact ⟨.inr (Nat.le_refl _), size_alloc _ _⟩) (fun _ _ h => h.elim)
  refine ⟨_, _, .pointer (some ⟨w.heap.size, 0, none⟩), _, _, ?_, hk, by simp only [V]; exact ⟨_, by simp [Gh.set], rfl⟩, hm', hle⟩
  simp [Instr.range, run_underlying a2]

theorem decode_lt (s : ByteArray) (i : Nat) : (Utf8.decode s i).1 < 2147483648 := by
  unfold Utf8.decode
  have hb : ∀ j, (s.get! j).toNat < 256 := fun j => UInt8.toNat_lt _
  simp only []
  have h0 := hb (i + 0)
  have h1 := hb (i + 1)
  have h2 := hb (i + 2)
  have h3 := hb (i + 3)
  simp only [Utf8.runeError]
  (repeat' split) <;> simp only [] <;> omega

theorem next_ok {t n g : Nat} {s : List Int} {p : Nat} {a : Value} (hm : Mem w0 R0 S0 γ ob w) (h1 : V w γ (.iter n g) a) (hg : get ob n = some ⟨g, .iter s p⟩)
    (h : (if p < s.length then k (.tup [.bool true, .int .i64 p, .int .i32 (dec s p).1]) (upd ob n ⟨g, .iter s (p + (dec s p).2)⟩) else k (.tup [.bool false]) ob) = some r) :
    Done E w0 R0 S0 γ w (Instr.next a true t) k r := by
  simp only [V] at h1
  obtain ⟨b, hb, rfl⟩ := h1
  obtain ⟨l, h2, b', rfl, h3, h4⟩ := hm.objs n _ hg
  simp only at h2
  rw [hb] at h2
  cases h2
  have hget : (getObj b).run E.P w = .ok (.stringIter (toBA s) p) w := by
    simp [getObj, Sem.run, h3]
  split at h
  · rename_i hp
    have hset : ∀ o, (setObj b o).run E.P w = .ok () { w with heap := w.heap.setIfInBounds b o } := by
      intro o
      simp [setObj, Sem.run, h3]
    have hbl : b < w.heap.size := (Array.getElem?_eq_some_iff.1 h3).1
    have hsz : p < (toBA s).size := by rw [toBA_size]; exact hp
    obtain ⟨hm', hle⟩ := hm.step (n := n) (g' := g) (o' := .iter s (p + (dec s p).2)) (l' := .blk b 0) (w' := { w with heap := w.heap.setIfInBounds b (.stringIter (toBA s) (p + (dec s p).2)) })
      (M := fun b' _ => b' = b) (D := fun _ _ => False) (Ev.setObj _ fun _ => rfl) (fun b' q hq => ⟨_, _, hg, hb, hq⟩) (fun ent he => by rw [hg] at he; cases he; exact .inr ⟨rfl, hb⟩)
      (fun _ => ⟨b, rfl, by simp [hbl], h4⟩) (fun b' q hr => by
        have hrg : RG γ ob n b' q := ⟨_, _, hg, hb, hr⟩
        exact ⟨.inl hrg, by simpa using (hm.live n b' q hrg).2⟩) (fun _ _ h => h.elim)
    refine ⟨_, _, .tuple #[.bool true, goInt p, .int .i32 (dec s p).1], _, _, ?_, h, ?_, hm', hle⟩
    · simp only [Instr.next, Sem.run_bind, hget, Result.andThen_ok]
      rw [if_pos hsz]
      simp only [Sem.run_bind, hset, Result.andThen_ok, Sem.run_pure]
      rfl
    · simp only [V]
      refine ⟨[.bool true, goInt p, .int .i32 (dec s p).1], rfl, ?_⟩
      simp only [VL, V]
      have := decode_lt (toBA s) p
      have hmax := h4.2
      refine ⟨trivial, ⟨rfl, i64_of_le (by omega) (by omega)⟩, ⟨by trivial, ?_⟩, trivial⟩
      unfold has IntKind.min IntKind.max
      simp [IntKind.bits, IntKind.signed]
      unfold dec
      show -2147483648 ≤ (((Utf8.decode (toBA s) p).1 : Nat) : Int) ∧ (((Utf8.decode (toBA s) p).1 : Nat) : Int) ≤ _
      omega
  · rename_i hp
    have hsz : ¬ p < (toBA s).size := by rw [toBA_size]; exact hp
    refine .same hm (u := .tuple #[.bool false]) ?_ h (by simp only [V]; exact ⟨[.bool false], rfl, by simp only [VL, V, and_self]⟩)
    simp only [Instr.next, Sem.run_bind, hget, Result.andThen_ok]
    rw [if_neg hsz]
    rfl

end
end Go.Vm
