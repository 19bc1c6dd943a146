/-
  Runes of the flags' word.
-/
import Derived.Test.YtannkglddbaalaaDoorR1Show3
import Derived.Laws.RangeAny
set_option linter.unusedSimpArgs false
set_option linter.unusedVariables false
namespace Go.Vm

def FSR : List Int := [70, 83, 82, 80, 65, 85]

theorem dec_asc {w : List Int} {p : Nat} (hp : p < w.length) (h : 0 ≤ w.getD p 0 ∧ w.getD p 0 < 128) : dec w p = (w.getD p 0, 1) := by
  have e : w.getD p 0 = w[p] := by simp [List.getD_eq_getElem?_getD, List.getElem?_eq_getElem hp]
  have hs : p < (⟨(w.map fun n => UInt8.ofNat n.toNat).toArray⟩ : ByteArray).size := by simp [ByteArray.size]; exact hp
  have hb : ((⟨(w.map fun n => UInt8.ofNat n.toNat).toArray⟩ : ByteArray)[p]'hs).toNat = w[p].toNat := by
    show ((w.map fun n => UInt8.ofNat n.toNat).toArray[p]'_).toNat = _
    simp
    rw [e] at h; omega
  have hd : Utf8.decode (⟨(w.map fun n => UInt8.ofNat n.toNat).toArray⟩ : ByteArray) p = (w[p].toNat, 1) := by
    rw [decode_ascii _ _ hs (by rw [hb]; rw [e] at h; omega), hb]
  simp only [dec, hd, e]
  rw [e] at h
  refine Prod.ext ?_ rfl
  simp; omega

theorem dec_pos {w : List Int} {p : Nat} (hp : p < w.length) : 1 ≤ (dec w p).2 := by
  have hs : p < (⟨(w.map fun n => UInt8.ofNat n.toNat).toArray⟩ : ByteArray).size := by simp [ByteArray.size]; exact hp
  show 1 ≤ (Utf8.decode _ p).2
  by_cases h : ((⟨(w.map fun n => UInt8.ofNat n.toNat).toArray⟩ : ByteArray)[p]'hs).toNat < 128
  · rw [decode_ascii _ _ hs h]; exact Nat.le_refl _
  · exact (decode_high _ _ hs (by omega)).2

theorem enc_hi {r : Int} (h0 : 128 ≤ r) (h1 : r < 55296 ∨ (57343 < r ∧ r ≤ 1114111)) : ∃ pre l, enc r = pre ++ [l] ∧ 1 ≤ pre.length ∧ pre.length ≤ 3 ∧ 128 ≤ l := by
  obtain ⟨k, rfl⟩ : ∃ k : Nat, r = (k : Int) := ⟨r.toNat, by omega⟩
  have hv : Utf8.valid (k : Int) = true := by simp [Utf8.valid]; omega
  have c1 : ¬ k < 128 := by omega
  by_cases c2 : k < 2048
  · have e : (Utf8.encode (k : Int)).data.toList = [UInt8.ofNat (192 + k / 64), UInt8.ofNat (128 + k % 64)] := by simp [Utf8.encode, hv, c1, c2]
    refine ⟨[((UInt8.ofNat (192 + k / 64)).toNat : Int)], ((UInt8.ofNat (128 + k % 64)).toNat : Int), by rw [enc, e]; rfl, by simp, by simp, ?_⟩
    simp; omega
  · by_cases c3 : k < 65536
    · have e : (Utf8.encode (k : Int)).data.toList = [UInt8.ofNat (224 + k / 4096), UInt8.ofNat (128 + k / 64 % 64), UInt8.ofNat (128 + k % 64)] := by simp [Utf8.encode, hv, c1, c2, c3]
      refine ⟨[((UInt8.ofNat (224 + k / 4096)).toNat : Int), ((UInt8.ofNat (128 + k / 64 % 64)).toNat : Int)], ((UInt8.ofNat (128 + k % 64)).toNat : Int), by rw [enc, e]; rfl, by simp, by simp, ?_⟩
      simp; omega
    · have e : (Utf8.encode (k : Int)).data.toList = [UInt8.ofNat (240 + k / 262144), UInt8.ofNat (128 + k / 4096 % 64), UInt8.ofNat (128 + k / 64 % 64), UInt8.ofNat (128 + k % 64)] := by
        simp [Utf8.encode, hv, c1, c2, c3]
      refine ⟨[((UInt8.ofNat (240 + k / 262144)).toNat : Int), ((UInt8.ofNat (128 + k / 4096 % 64)).toNat : Int), ((UInt8.ofNat (128 + k / 64 % 64)).toNat : Int)], ((UInt8.ofNat (128 + k % 64)).toNat : Int),
        by rw [enc, e]; rfl, by simp, by simp, ?_⟩
      simp; omega

def ixR (r : Int) : Int := if 0 ≤ r ∧ r < 128 then idxI r FSR else -1

theorem fsr_loop (n m : Nat) : l_strings_IndexRune_0 n (m + 7) FSR 0 = some (.inr ((), ())) := by
  have st : ∀ (m p : Nat), p < 6 → l_strings_IndexRune_0 n (m + 1) FSR p = l_strings_IndexRune_0 n m FSR (p + 1) := by
    intro m p hp
    have hd : dec FSR p = (FSR.getD p 0, 1) := dec_asc (by simpa [FSR] using hp) (by
      have : ∀ q : Fin 6, 0 ≤ FSR.getD q.val 0 ∧ FSR.getD q.val 0 < 128 := by decide
      exact this ⟨p, hp⟩)
    have hne : ∀ q : Fin 6, ((FSR.getD q.val 0) == (65533 : Int)) = false := by decide
    rw [l_strings_IndexRune_0, if_pos (by simpa [FSR] using hp), hd]
    simp only
    rw [hne ⟨p, hp⟩]
    simp
  rw [st _ _ (by omega), st _ _ (by omega), st _ _ (by omega), st _ _ (by omega), st _ _ (by omega), st _ _ (by omega), l_strings_IndexRune_0, if_neg (by simp [FSR])]

theorem idxI_none {c : Int} : ∀ {l : List Int}, (∀ x ∈ l, x ≠ c) → idxI c l = -1
  | [], _ => rfl
  | x :: r, h => by rw [idxI, if_neg (h x (by simp)), if_pos (idxI_none (fun y hy => h y (by simp [hy])))]

theorem mem_cutL {α : Type} {l : List α} {lo hi : Int} {x : α} (h : x ∈ cutL l lo hi) : x ∈ l := List.mem_of_mem_drop (List.mem_of_mem_take h)

theorem indexRune_eq (n : Nat) (hn : 1000 ≤ n) (r : Int) : g_strings_IndexRune n FSR r = some (ixR r, ()) := by
  obtain ⟨m, rfl⟩ : ∃ k, n = k + 7 := ⟨n - 7, by omega⟩
  simp only [g_strings_IndexRune, t_strings_IndexRune]
  by_cases h0 : 0 ≤ r
  · rw [if_pos (by simpa using h0), bind_some']
    by_cases h1 : r < 128
    · simp only [h1, decide_true, if_true, g_strings_IndexByte, bind_some', ixR, h0, and_self]
      rw [wu8_id h0 (by omega)]
    · simp only [h1, decide_false, Bool.false_eq_true, if_false, ixR, and_false]
      by_cases h2 : r = 65533
      · subst h2
        rw [if_pos (by simp), fsr_loop]; rfl
      · rw [if_neg (by simpa using h2)]
        have hv : g_unicode_utf8_ValidRune (m + 7) r = some (decide (r < 55296 ∨ (57343 < r ∧ r ≤ 1114111)), ()) := by
          simp only [g_unicode_utf8_ValidRune, h0, decide_true, if_true, bind_some']
          by_cases a : r < 55296
          · simp [a]
          · by_cases b : 57343 < r
            · by_cases c : r ≤ 1114111 <;> simp [a, b, c]
            · simp [a, b]
        rw [hv, bind_some']
        by_cases a : r < 55296 ∨ (57343 < r ∧ r ≤ 1114111)
        · simp only [a, decide_true, Bool.not_true, Bool.false_eq_true, if_false]
          obtain ⟨pre, l, e, l1, l2, l3⟩ := enc_hi (by omega) a
          rw [e]
          have el : wi64 (((pre ++ [l]).length : Int) - 1) = pre.length := by simp; exact wi64_id (by omega) (by omega)
          rw [el, l_strings_IndexRune_1, s_strings_IndexRune_1, if_pos (by simp [FSR]; omega), gd_pos (by simp [FSR]; omega), gd_pos (by simp; omega)]
          have eg : (pre ++ [l]).getD (Int.toNat (pre.length : Int)) 0 = l := getD_appI pre l [] 0 rfl
          have hq : ∀ q : Fin 6, (FSR.getD q.val 0) < 128 := by decide
          have hne : FSR.getD (Int.toNat (pre.length : Int)) 0 ≠ l := by
            have := hq ⟨pre.length, by omega⟩
            simp only at this; simp only [Int.toNat_natCast]; omega
          have hall : ∀ x ∈ FSR, x < 128 := by decide
          rw [eg, if_pos (by simpa using hne)]
          rw [wi64_id (by omega) (by omega), gd_pos (by simp [FSR]; omega), gd_pos (by simp; omega)]
          simp only [g_strings_IndexByte]
          rw [idxI_none (fun x hx => by have := hall x (mem_cutL hx); omega)]
          rfl
        · simp [a]
  · rw [if_neg (by simpa using h0)]
    simp only [bind_some', Bool.false_eq_true, if_false, ixR, h0, false_and]
    rw [if_neg (by simp; omega)]
    have hv : g_unicode_utf8_ValidRune (m + 7) r = some (false, ()) := by
      simp only [g_unicode_utf8_ValidRune, h0, decide_false, Bool.false_eq_true, if_false, bind_some']
      rw [if_neg (by simp; omega)]
    rw [hv]; rfl

end Go.Vm
