/-
  spec.ReadSegment, put together.
-/
import Derived.Test.YtannkglddbaalaaDoorR1ReadS
set_option linter.unusedSimpArgs false
set_option linter.unusedVariables false
namespace Go.Vm

/-! the flags' word -/
def fl1 (i : Int) (w : List Int) (acc : Int) : Int :=
  w.foldl (fun a c => if (c == (([83, 70, 82, 80, 65, 85] : List Int).getD (Int.toNat i) 0)) then ior .i64 a (([2, 1, 4, 8, 16, 32] : List Int).getD (Int.toNat i) 0) else a) acc
def flagsF (w : List Int) : Int := fl1 5 w (fl1 4 w (fl1 3 w (fl1 2 w (fl1 1 w (fl1 0 w 0)))))
theorem flagsF_fin : ∀ f : Fin 64, flagsF (flagW (f.val : Int)) = (f.val : Int) := by decide +kernel
theorem flagsF_flag {f : Int} (h : rg f 0 63 = true) : flagsF (flagW f) = f := by
  obtain ⟨g, rfl⟩ := fin64 h
  exact flagsF_fin g

theorem fl1Loop_eq (n : Nat) (i : Int) (hi : 0 ≤ i ∧ i < 6) : ∀ (rest pre : List Int) (m : Nat) (acc k : Int), k = pre.length → (pre ++ rest).length ≤ 2000000 → rest.length < m →
    l_spec_l11Flags_1 n m (pre ++ rest) acc i k = some ((pre ++ rest, fl1 i rest acc, i, ()), ()) := by
  intro rest
  induction rest with
  | nil =>
    intro pre m acc k hk hb hm
    obtain ⟨m, rfl⟩ : ∃ k, m = k + 1 := ⟨m - 1, by simp at hm; omega⟩
    rw [l_spec_l11Flags_1, if_neg (by simp; omega)]
    rfl
  | cons c r ih =>
    intro pre m acc k hk hb hm
    obtain ⟨m, rfl⟩ : ∃ k, m = k + 1 := ⟨m - 1, by simp at hm; omega⟩
    have hb' : pre.length + (r.length + 1) ≤ 2000000 := by simpa using hb
    rw [l_spec_l11Flags_1, if_pos (by simp; omega), gd_pos (by simp; omega), gd_pos hi, getD_appI pre c r _ hk, wi64_id (by omega) (by omega)]
    have := fun acc => ih (pre ++ [c]) m acc (k + 1) (by simp; omega) (by simpa using hb) (by simp at hm; omega)
    simp only [List.append_assoc, List.singleton_append] at this
    rw [g_spec_l11Bit, gd_pos (by simp; omega)]
    simp only [bind_some', this]
    simp only [fl1, List.foldl_cons]
    split <;> rfl

theorem l11Flags_eq (n : Nat) (hn : 10000000 ≤ n) (w : List Int) (hw : w.length ≤ 2000000) : g_spec_l11Flags n w = some (flagsF w, ()) := by
  obtain ⟨m, rfl⟩ : ∃ k, n = k + 7 := ⟨n - 7, by omega⟩
  have st : ∀ (k : Nat) (acc i : Int), 0 ≤ i ∧ i < 6 → l_spec_l11Flags_0 (m + 7) (k + 1) w acc i = l_spec_l11Flags_0 (m + 7) k w (fl1 i w acc) (i + 1) := by
    intro k acc i hi
    have := fl1Loop_eq (m + 7) i hi w [] (m + 7) acc 0 rfl (by simpa using hw) (by omega)
    rw [List.nil_append] at this
    rw [l_spec_l11Flags_0, s_spec_l11Flags_0, if_pos (by simp; omega), this, bind_some']
    simp only
    rw [wi64_id (by omega) (by omega)]
  simp only [g_spec_l11Flags, t_spec_l11Flags]
  rw [st _ _ _ (by omega), st _ _ _ (by omega), st _ _ _ (by omega), st _ _ _ (by omega), st _ _ _ (by omega), st _ _ _ (by omega), l_spec_l11Flags_0, s_spec_l11Flags_0, if_neg (by simp), bind_some']
  rfl

/-! hex -/
theorem l02Hex_ret (n : Nat) (c : Int) : Ret (g_spec_l02Hex n c) fun _ => True := by
  simp only [g_spec_l02Hex]
  refine .bind (Q := fun _ => True) (.ite (fun _ => .some trivial) (fun _ => .some trivial)) fun x6 _ => .ite (fun _ => .some trivial) (fun _ => ?_)
  refine .bind (Q := fun _ => True) (.ite (fun _ => .some trivial) (fun _ => .some trivial)) fun x13 _ => .ite (fun _ => .some trivial) (fun _ => ?_)
  exact .bind (Q := fun _ => True) (.ite (fun _ => .some trivial) (fun _ => .some trivial)) fun x21 _ => .ite (fun _ => .some trivial) (fun _ => .some trivial)

theorem unhexLoop_ret (n : Nat) (w : List Int) (hw : w.length ≤ 2000000) : ∀ (m : Nat) (i : Int) (o : List Int), 0 ≤ i → i ≤ 3000000 → (w.length : Int) - i < m → o.length + (w.length : Int) - i ≤ 4000000 → bytesI o → 0 < m → o.length ≤ 4000000 →
    Ret (l_spec_l11Unhex_0 n m w i o) fun y => bytesI y.2.1
  | 0, i, o, h0, h1, h2, h3, hB, h4, _ => by omega
  | m + 1, i, o, h0, h1, h2, h3, hB, _, ho => by
    rw [l_spec_l11Unhex_0, wi64_id (n := i + 1) (by omega) (by omega)]
    refine .ite (fun h => ?_) (fun _ => .some hB)
    have h : i + 1 < w.length := by simpa using h
    refine .gd (by omega) (.bind (l02Hex_ret n _) fun y _ => .gd (by omega) (.bind (l02Hex_ret n _) fun y' _ => .gd (by simp [lim]; omega) ?_))
    rw [wi64_id (n := i + 2) (by omega) (by omega)]
    refine unhexLoop_ret n w hw m (i + 2) _ (by omega) (by omega) (by omega) (by simp; omega) ?_ (by omega) (by simp; omega)
    intro c hc
    rcases List.mem_append.1 hc with hc | hc
    · exact hB c hc
    · simp only [List.mem_cons, List.not_mem_nil, or_false] at hc
      subst hc; exact wu8_bd _

theorem l11Unhex_ret (n : Nat) (hn : 10000000 ≤ n) (w : List Int) (hw : w.length ≤ 2000000) : Ret (g_spec_l11Unhex n w) fun y => bytesI y.2.1 := by
  simp only [g_spec_l11Unhex, t_spec_l11Unhex]
  exact .bind (unhexLoop_ret n w hw n 0 [] (by omega) (by omega) (by omega) (by simp; omega) (by simp [bytesI]) (by omega) (by simp)) fun y hy => .some hy

theorem unhex_fin : ∀ c : Fin 256, ∃ p q a b, hexI [(c.val : Int)] = [p, q] ∧ g_spec_l02Hex 0 p = some (a, ()) ∧ g_spec_l02Hex 0 q = some (b, ()) ∧ wu8 (wi64 ((wi64 (a * 16)) + b)) = (c.val : Int) := by
  have h : ∀ c : Fin 256, (hexI [(c.val : Int)]).length = 2 ∧ ((g_spec_l02Hex 0 ((hexI [(c.val : Int)]).getD 0 0)).isSome = true ∧ (g_spec_l02Hex 0 ((hexI [(c.val : Int)]).getD 1 0)).isSome = true) ∧
      wu8 (wi64 ((wi64 (((g_spec_l02Hex 0 ((hexI [(c.val : Int)]).getD 0 0)).getD (0, ())).1 * 16)) + ((g_spec_l02Hex 0 ((hexI [(c.val : Int)]).getD 1 0)).getD (0, ())).1)) = (c.val : Int) := by decide +kernel
  intro c
  obtain ⟨h1, ⟨h2, h3⟩, h4⟩ := h c
  match e : hexI [(c.val : Int)] with
  | [] => rw [e] at h1; simp at h1
  | [p] => rw [e] at h1; simp at h1
  | p :: q :: x :: r => rw [e] at h1; simp at h1
  | [p, q] =>
    rw [e] at h2 h3 h4
    have e0 : ([p, q] : List Int).getD 0 0 = p := rfl
    have e1 : ([p, q] : List Int).getD 1 0 = q := rfl
    rw [e0] at h2 h4
    rw [e1] at h3 h4
    obtain ⟨a, ha⟩ := Option.isSome_iff_exists.1 h2
    obtain ⟨b, hb⟩ := Option.isSome_iff_exists.1 h3
    rw [ha, hb] at h4
    exact ⟨p, q, a.1, b.1, rfl, ha, hb, h4⟩
theorem l02Hex_n (n : Nat) (c : Int) : g_spec_l02Hex n c = g_spec_l02Hex 0 c := rfl

theorem unhexLoop_eq (n : Nat) : ∀ (rest pre o : List Int) (m : Nat) (i : Int), i = pre.length → (pre ++ hexI rest).length ≤ 2000000 → o.length + rest.length ≤ 1000000 → bytesI rest → rest.length < m →
    l_spec_l11Unhex_0 n m (pre ++ hexI rest) i o = some (((), ()), (o ++ rest, ())) := by
  intro rest
  induction rest with
  | nil =>
    intro pre o m i hi hb ho hB hm
    obtain ⟨m, rfl⟩ : ∃ k, m = k + 1 := ⟨m - 1, by simp at hm; omega⟩
    have hb' : pre.length ≤ 2000000 := by simpa [hexI_nil] using hb
    rw [l_spec_l11Unhex_0, wi64_id (by omega) (by omega), if_neg (by simp [hexI_nil]; omega), List.append_nil]
  | cons c r ih =>
    intro pre o m i hi hb ho hB hm
    obtain ⟨m, rfl⟩ : ∃ k, m = k + 1 := ⟨m - 1, by simp at hm; omega⟩
    have ho' : o.length + (r.length + 1) ≤ 1000000 := by simpa using ho
    have hc : isByte c := hB c (by simp)
    unfold isByte at hc
    obtain ⟨p, q, a, b, e1, e2, e3, e4⟩ := unhex_fin ⟨c.toNat, by omega⟩
    have e : (((⟨c.toNat, by omega⟩ : Fin 256).val : Nat) : Int) = c := by simp; omega
    rw [e] at e1 e4
    have eh : hexI (c :: r) = p :: q :: hexI r := by rw [hexI_cons, e1]; rfl
    have hL : pre.length + (2 * r.length + 2) ≤ 2000000 := by rw [eh] at hb; simp [hexI_len] at hb; omega
    rw [eh]
    have hq : (pre ++ p :: q :: hexI r).getD (Int.toNat (i + 1)) 0 = q := by
      have := getD_appI (pre ++ [p]) q (hexI r) 0 (i := i + 1) (by simp; omega)
      simpa only [List.append_assoc, List.singleton_append] using this
    rw [l_spec_l11Unhex_0, wi64_id (n := i + 1) (by omega) (by omega), if_pos (by simp [hexI_len]; omega), gd_pos (by simp [hexI_len]; omega), getD_appI pre p _ _ hi, l02Hex_n, e2, bind_some']
    simp only
    rw [gd_pos (by simp [hexI_len]; omega), hq, l02Hex_n, e3, bind_some']
    simp only
    rw [e4, gd_pos (by simp [lim]; omega), wi64_id (by omega) (by omega)]
    have := ih (pre ++ [p, q]) (o ++ [c]) m (i + 2) (by simp; omega) (by simp [hexI_len]; omega) (by simp; omega) (fun d hd => hB d (by simp [hd])) (by simp at hm; omega)
    simp only [List.append_assoc, List.cons_append, List.nil_append, List.singleton_append] at this
    exact this

theorem l11Unhex_eq (n : Nat) (hn : 10000000 ≤ n) {b : List Int} (hB : bytesI b) (hb : b.length ≤ 900000) : g_spec_l11Unhex n (hexI b) = some ((), (b, ())) := by
  have := unhexLoop_eq n b [] [] n 0 rfl (by simp [hexI_len]; omega) (by simp; omega) hB (by omega)
  simp only [List.nil_append] at this
  simp only [g_spec_l11Unhex, t_spec_l11Unhex]
  rw [this]; rfl

end Go.Vm
