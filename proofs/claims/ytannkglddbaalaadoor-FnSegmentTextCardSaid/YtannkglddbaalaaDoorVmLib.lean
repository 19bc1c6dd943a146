/-
  The library's functions, by what the library of contracts says of them.
-/
import Derived.Test.YtannkglddbaalaaDoorVmUse
import Derived.Test.YtannkglddbaalaaDoorVmLibPure
import Derived.Lib.SplitLaws
import Derived.Lib.IndexBytes
import Derived.Lib.Join
import Derived.Lib.LaidTab
import Derived.Sort.Grow
import Derived.Deep.Draws
import Derived.Laws.AppendOwn
set_option linter.unusedSimpArgs false
set_option linter.unusedVariables false
namespace Go.Vm
open Go.RowKit

/-! #### Bytes -/
theorem by8_toBA (s : List Int) : (toBA s).data.toList = by8 s := by simp [toBA, by8]
theorem toBA_un8 (l : List UInt8) : toBA (un8 l) = ⟨l.toArray⟩ := by
  apply ByteArray.ext
  simp [toBA, un8, Function.comp_def]
theorem un8_by8 {s : List Int} (h : bytesOK s) : un8 (by8 s) = s := by
  simp only [un8, by8, List.map_map]
  conv => rhs; rw [← List.map_id s]
  apply List.map_congr_left
  intro x hx
  have := h x hx
  simp only [Function.comp, UInt8.toNat_ofNat', id]
  omega
theorem by8_un8 (l : List UInt8) : by8 (un8 l) = l := by
  simp only [un8, by8, List.map_map]
  conv => rhs; rw [← List.map_id l]
  apply List.map_congr_left
  intro x _
  simp
theorem un8_ok (l : List UInt8) : bytesOK (un8 l) := by
  intro x hx
  simp only [un8, List.mem_map] at hx
  obtain ⟨b, _, rfl⟩ := hx
  have := b.toNat_lt
  omega
theorem un8_length (l : List UInt8) : (un8 l).length = l.length := by simp [un8]
theorem by8_length (l : List Int) : (by8 l).length = l.length := by simp [by8]
theorem by8_append (a b : List Int) : by8 (a ++ b) = by8 a ++ by8 b := by simp [by8]
theorem un8_append (a b : List UInt8) : un8 (a ++ b) = un8 a ++ un8 b := by simp [un8]
theorem ofNat_eq {x c : Int} (hx : 0 ≤ x ∧ x < 256) (hc : 0 ≤ c ∧ c < 256) : UInt8.ofNat x.toNat = UInt8.ofNat c.toNat ↔ x = c := by
  constructor
  · intro h
    have := congrArg UInt8.toNat h
    simp only [UInt8.toNat_ofNat'] at this
    omega
  · rintro rfl; rfl

/-! #### Worlds -/
theorem Ev.of_below {w w' : World} (h : Below w.heap.size w w') : Ev (fun _ _ => False) w w' :=
  ⟨h.os, h.output, h.tape, h.size, fun b x hx => ⟨x, by rw [h.block b (Array.getElem?_eq_some_iff.1 hx).1]; exact hx, .inr (.inl rfl)⟩⟩
theorem Ev.of_grow {w : World} {k : Nat} {os : Array Obj} : Ev (fun _ _ => False) w (Sort.grow (w.drewN k) os) :=
  ⟨rfl, rfl, rfl, by simp [Sort.grow, World.drewN], fun b x hx => ⟨x, by
    have hb := (Array.getElem?_eq_some_iff.1 hx).1
    simp only [Sort.grow, World.drewN]
    rw [Array.getElem?_append_left hb]
    exact hx, .inr (.inl rfl)⟩⟩
theorem Ev.of_drewN {w : World} {k : Nat} : Ev (fun _ _ => False) w (w.drewN k) := ⟨rfl, rfl, rfl, Nat.le_refl _, fun b x hx => ⟨x, hx, .inr (.inl rfl)⟩⟩

section
variable {P : Program} {gl : List (Nat × Obj)} {f : Nat}

/-- a function that makes no object that is told -/
theorem sat_res {tin : Tm} {res : Lf} {g : Nat → tin.T → Option (res.T × ObTs [])} (he : Enters P f) (h0 : tin.ob = [])
    (h : ∀ n x y, g n x = some (y, ()) → ∀ (w : World) (args : Array Value) (γ : Gh), GlOK gl γ w → args.size = tin.ar →
      (∀ base : List SV, (∀ i, base.getD i .undef = .undef) → ∀ i, V w γ ((buildSl base tin.sl x.1).getD i .undef) (args.getD i undef)) → (∀ b i, γ.S b i → b < w.heap.size) →
      Calls P f args w fun e w' => ∃ v, e = .returned v ∧ V w' γ (res.build y) v ∧ Ev (fun _ _ => False) w w') : Sat P gl f ⟨tin, res, [], g⟩ := by
  refine ⟨he, fun n x y hy w args γ hgl har hargs hmem => ?_⟩
  obtain ⟨y, u⟩ := y
  refine (h n x y hy w args γ hgl har hargs hmem.sex).mono ?_
  rintro e w' ⟨v, rfl, hv, hev⟩
  obtain ⟨tsl, tob⟩ := tin
  simp only at h0
  subst h0
  exact ⟨v, γ, rfl, hv, (hmem.still hev).1, fun _ _ h => h, fun m hm => by simp [boxes] at hm⟩

/-- a function that makes one new row -/
theorem sat_arr {tin : Tm} {res : Lf} {e : K} {g : Nat → tin.T → Option (res.T × ObTs [(1, .arr e)])} (he : Enters P f) (h0 : tin.ob = [])
    (h : ∀ n x y xs, g n x = some (y, (xs, ())) → ∀ (w : World) (args : Array Value) (γ : Gh), GlOK gl γ w → args.size = tin.ar →
      (∀ base : List SV, (∀ i, base.getD i .undef = .undef) → ∀ i, V w γ ((buildSl base tin.sl x.1).getD i .undef) (args.getD i undef)) → (∀ b i, γ.S b i → b < w.heap.size) →
      Calls P f args w fun e' w' => ∃ v A len cap, e' = .returned v ∧ (∀ γ', γ'.β 1 0 = some (.hdr A len cap) → V w' γ' (res.build y) v) ∧ Ev (fun _ _ => False) w w' ∧
        (∀ γ' : Gh, ArrOK w' γ' A len cap e xs) ∧ (∀ a, A = some a → w.heap.size ≤ a.block ∧ a.block < w'.heap.size)) : Sat P gl f ⟨tin, res, [(1, .arr e)], g⟩ := by
  refine ⟨he, fun n x y hy w args γ hgl har hargs hmem => ?_⟩
  obtain ⟨y, xs, u⟩ := y
  refine (h n x y xs hy w args γ hgl har hargs hmem.sex).mono ?_
  rintro e' w' ⟨v, A, len, cap, rfl, hv, hev, harr, hblk⟩
  obtain ⟨tsl, tob⟩ := tin
  simp only at h0
  subst h0
  obtain ⟨hm, hle⟩ := hmem.still hev
  have hreg : ∀ b i, reg (.hdr A len cap) (.arr e xs) b i → w.heap.size ≤ b ∧ b < w'.heap.size := by
    intro b i hr
    cases A with
    | none => exact hr.elim
    | some a =>
      obtain ⟨h1, _⟩ := hr
      rw [h1]
      exact hblk a rfl
  obtain ⟨hm', hle'⟩ := hm.add (n := 1) (g' := 0) (o' := .arr e xs) (l' := .hdr A len cap) (fun ent h => by simp [buildObs, get] at h) ⟨A, len, cap, rfl, harr γ⟩
    (fun m hm b i hr hr2 => by obtain ⟨ent, _, h1, _⟩ := hr2; simp [buildObs, get] at h1)
    (fun b i hr hs => by have := hmem.sex b i hs; have := (hreg b i hr).1; omega)
    (fun b i hr => ⟨.inr (hreg b i hr).1, (hreg b i hr).2⟩)
  refine ⟨v, _, rfl, hv _ (by simp [Gh.set]), hm', fun b i hs => .inl hs, fun m hm => ?_⟩
  simp [boxes, isK] at hm

/-! #### Arguments -/
theorem args1 {args : Array Value} {a : Value} (h : args.size = 1) (h0 : args.getD 0 undef = a) : args = #[a] := by
  apply Array.ext
  · simpa using h
  · intro i hi1 hi2
    have : i = 0 := by simp at hi2; omega
    subst this
    simp [Array.getD, hi1] at h0
    simpa using h0
theorem args2 {args : Array Value} {a b : Value} (h : args.size = 2) (h0 : args.getD 0 undef = a) (h1 : args.getD 1 undef = b) : args = #[a, b] := by
  apply Array.ext
  · simpa using h
  · intro i hi1 hi2
    have : i = 0 ∨ i = 1 := by simp at hi2; omega
    rcases this with rfl | rfl
    · simp [Array.getD, hi1] at h0; simpa using h0
    · simp [Array.getD, hi1] at h1; simpa using h1

/-! #### strconv.FormatInt, base 10 -/
def c_strconv_FormatInt : Con := ⟨⟨[(0, .int .i64), (1, .int .i64)], []⟩, .str, [], fun n x => g_strconv_FormatInt n x.1.1 x.1.2.1⟩

theorem decDigits_len (u : Nat) : (Lib.decDigits u).length ≤ u + 1 := by
  induction u using Nat.strongRecOn with
  | _ u ih =>
    rw [Lib.decDigits]
    split
    · simp
    · have := ih (u / 10) (by omega)
      simp; omega

theorem itoa_len {n : Int} (h0 : -9223372036854775808 ≤ n) (h1 : n ≤ 9223372036854775807) : (Lib.itoa n).length ≤ 9223372036854775807 := by
  have key : ∀ (k u : Nat), u < 10 ^ (k + 1) → (Lib.decDigits u).length ≤ k + 1 := by
    intro k
    induction k with
    | zero => intro u hu; rw [Lib.decDigits, dif_pos (by omega)]; simp
    | succ k ih =>
      intro u hu
      rw [Lib.decDigits]
      split
      · simp
      · have := ih (u / 10) (by rw [Nat.pow_succ] at hu; omega)
        simp; omega
  unfold Lib.itoa
  split
  · have := key 18 n.natAbs (by show n.natAbs < 10000000000000000000; omega)
    simp; omega
  · have := key 18 n.toNat (by show n.toNat < 10000000000000000000; omega)
    omega

theorem sat_FormatInt (he : Enters P f) (ht : ∀ γ w, GlOK gl γ w → Lib.TabIs P w "internal/strconv.uint64pow10" .u64 Lib.pow10Tab)
    (hc : ∀ (n : Int), -9223372036854775808 ≤ n → n ≤ 9223372036854775807 → ∀ w : World, Lib.TabIs P w "internal/strconv.uint64pow10" .u64 Lib.pow10Tab →
      Calls P f #[.int .i64 n, .int .i64 10] w fun e w' => e = .returned (.string ⟨(Lib.itoa n).toArray⟩) ∧ ∃ k os, w' = Sort.grow (w.drewN k) os) : Sat P gl f c_strconv_FormatInt := by
  refine sat_res he rfl fun n x y hy w args γ hgl har hargs _ => ?_
  obtain ⟨⟨i, b, _⟩, _⟩ := x
  simp only [g_strconv_FormatInt] at hy
  split at hy
  · rename_i hb
    cases hy
    subst hb
    have h0 := hargs [.undef, .undef] (by intro i; rcases i with _ | _ | i <;> rfl) 0
    have h1 := hargs [.undef, .undef] (by intro i; rcases i with _ | _ | i <;> rfl) 1
    simp only [buildSl, setAt, Lf.build, List.set, List.getD, List.getElem?_cons_zero, List.getElem?_cons_succ, Option.getD, V] at h0 h1
    have ha := args2 (by simpa [Tm.ar] using har) h0.1 h1.1
    have hr := h0.2
    unfold has at hr
    simp [IntKind.min, IntKind.max, IntKind.bits, IntKind.signed] at hr
    rw [ha]
    refine (hc i (by omega) (by omega) w (ht γ w hgl)).mono ?_
    rintro e w' ⟨rfl, k, os, rfl⟩
    refine ⟨_, rfl, ?_, Ev.of_grow⟩
    simp only [Lf.build, V]
    exact ⟨by rw [toBA_un8], un8_ok _, by rw [un8_length]; exact itoa_len (by omega) (by omega)⟩
  · cases hy

/-! #### strings.IndexByte -/
def c_strings_IndexByte : Con := ⟨⟨[(0, .str), (1, .int .u8)], []⟩, .int .i64, [], fun n x => g_strings_IndexByte n x.1.1 x.1.2.1⟩

theorem indexByte_by8 {c : Int} (hc : 0 ≤ c ∧ c < 256) : ∀ {s : List Int}, bytesOK s → Lib.indexByte (by8 s) (UInt8.ofNat c.toNat) = idxI c s
  | [], _ => rfl
  | x :: s, h => by
    have ih := indexByte_by8 hc (s := s) fun y hy => h y (by simp [hy])
    have hx := h x (by simp)
    have e := ofNat_eq hx hc
    show Lib.indexByte (UInt8.ofNat x.toNat :: by8 s) _ = _
    unfold Lib.indexByte idxI
    by_cases hxc : x = c
    · rw [if_pos (by simpa using e.2 hxc), if_pos hxc]
    · rw [if_neg (by simpa using fun h => hxc (e.1 h)), if_neg hxc, ih]
      simp

theorem idxI_bd (c : Int) : ∀ s : List Int, -1 ≤ idxI c s ∧ idxI c s < s.length
  | [] => by simp [idxI]
  | x :: s => by
    have := idxI_bd c s
    unfold idxI
    simp only [List.length_cons]
    split
    · omega
    · split
      · omega
      · omega

theorem sat_IndexByte (he : Enters P f)
    (hc : ∀ (s : ByteArray) (c : Int) (w : World), Calls P f #[.string s, .int .u8 c] w fun e w' => e = .returned (.int .i64 (Lib.indexByte s.data.toList c.toNat.toUInt8)) ∧ w' = w) : Sat P gl f c_strings_IndexByte := by
  refine sat_res he rfl fun n x y hy w args γ hgl har hargs _ => ?_
  obtain ⟨⟨s, c, _⟩, _⟩ := x
  simp only [g_strings_IndexByte] at hy
  cases hy
  have h0 := hargs [.undef, .undef] (by intro i; rcases i with _ | _ | i <;> rfl) 0
  have h1 := hargs [.undef, .undef] (by intro i; rcases i with _ | _ | i <;> rfl) 1
  simp only [buildSl, setAt, Lf.build, List.set, List.getD, List.getElem?_cons_zero, List.getElem?_cons_succ, Option.getD, V] at h0 h1
  have ha := args2 (by simpa [Tm.ar] using har) h0.1 h1.1
  rw [ha]
  refine (hc _ c w).mono ?_
  rintro e w' ⟨rfl, rfl⟩
  refine ⟨_, rfl, ?_, Ev.refl _ _⟩
  simp only [Lf.build, V]
  have hcb := u8_has.1 h1.2
  have hb := idxI_bd c s
  have hl := h0.2.2
  refine ⟨?_, by unfold has; simp [IntKind.min, IntKind.max, IntKind.bits, IntKind.signed]; omega⟩
  rw [by8_toBA]
  show Value.int .i64 (Lib.indexByte (by8 s) (UInt8.ofNat c.toNat)) = _
  rw [indexByte_by8 hcb h0.2.1]

/-! #### strings.Split, Cut at one byte -/
def split8 (c : UInt8) : List UInt8 → List (List UInt8)
  | [] => [[]]
  | x :: r => if x = c then [] :: split8 c r else (match split8 c r with | [] => [[x]] | p :: ps => (x :: p) :: ps)

theorem split8_ne (c : UInt8) (l : List UInt8) : split8 c l ≠ [] := by
  cases l with
  | nil => simp [split8]
  | cons x r => unfold split8; split <;> (try simp); split <;> simp

theorem splitK_split8 (c : UInt8) : ∀ l : List UInt8, Lib.splitK [c] 0 (l.count c) l = split8 c l
  | [] => rfl
  | x :: r => by
    have ih := splitK_split8 c r
    by_cases hx : x = c
    · subst hx
      rw [List.count_cons_self]
      unfold Lib.splitK
      rw [Lib.index_one]
      unfold Lib.indexByte split8
      simp [ih]
    · have hcnt : (x :: r).count c = r.count c := by rw [List.count_cons]; simp [hx]
      rw [hcnt]
      have hi : Lib.index (x :: r) [c] = if Lib.indexByte r c == -1 then -1 else Lib.indexByte r c + 1 := by
        rw [Lib.index_one]
        conv => lhs; unfold Lib.indexByte
        rw [if_neg (by simpa using hx)]
      unfold split8
      rw [if_neg hx, ← ih]
      cases hk : r.count c with
      | zero => rfl
      | succ k =>
        unfold Lib.splitK
        rw [hi, Lib.index_one]
        by_cases hm : Lib.indexByte r c = -1
        · simp [hm]
        · have hge := Lib.indexByte_ge r c
          have h1 : ¬ (Lib.indexByte r c == -1) = true := by simpa using hm
          have h2 : ¬ ((if (Lib.indexByte r c == -1) = true then (-1 : Int) else Lib.indexByte r c + 1) == -1) = true := by
            rw [if_neg h1]
            simp
            omega
          rw [if_neg h2, if_neg h1, if_neg h1]
          have h3 : (Lib.indexByte r c + 1).toNat = (Lib.indexByte r c).toNat + 1 := by omega
          simp only [h3, Nat.add_zero, List.take_succ_cons, List.length_singleton, List.drop_succ_cons]

theorem split8_by8 {c : Int} (hc : 0 ≤ c ∧ c < 256) : ∀ {s : List Int}, bytesOK s → split8 (UInt8.ofNat c.toNat) (by8 s) = (splitI c s).map by8
  | [], _ => rfl
  | x :: s, h => by
    have ih := split8_by8 hc (s := s) fun y hy => h y (by simp [hy])
    have e := ofNat_eq (h x (by simp)) hc
    show split8 _ (UInt8.ofNat x.toNat :: by8 s) = _
    unfold split8 splitI
    by_cases hxc : x = c
    · rw [if_pos (e.2 hxc), if_pos hxc, ih]; rfl
    · rw [if_neg (fun h => hxc (e.1 h)), if_neg hxc, ih]
      cases splitI c s with
      | nil => rfl
      | cons p ps => rfl

theorem splitI_ok (c : Int) : ∀ {s : List Int}, bytesOK s → (∀ p ∈ splitI c s, bytesOK p ∧ p.length ≤ s.length) ∧ (splitI c s).length ≤ s.length + 1
  | [], _ => by simp [splitI, bytesOK]
  | x :: s, h => by
    obtain ⟨ih1, ih2⟩ := splitI_ok c (s := s) fun y hy => h y (by simp [hy])
    have hx := h x (by simp)
    unfold splitI
    split
    · refine ⟨fun p hp => ?_, by simp; omega⟩
      rcases List.mem_cons.1 hp with rfl | hp
      · exact ⟨(fun _ h => by cases h), by simp⟩
      · have := ih1 p hp; exact ⟨this.1, by simp; omega⟩
    · cases hs : splitI c s with
      | nil =>
        refine ⟨fun p hp => ?_, by simp⟩
        simp at hp
        subst hp
        exact ⟨(fun y hy => by simp at hy; subst hy; exact hx), by simp⟩
      | cons q qs =>
        rw [hs] at ih1 ih2
        refine ⟨fun p hp => ?_, by simp at ih2 ⊢; omega⟩
        rcases List.mem_cons.1 hp with rfl | hp
        · have := ih1 q (by simp)
          refine ⟨fun y hy => ?_, by simp; omega⟩
          rcases List.mem_cons.1 hy with rfl | hy
          · exact hx
          · exact this.1 y hy
        · have := ih1 p (by simp [hp]); exact ⟨this.1, by simp; omega⟩

def c_strings_Split : Con := ⟨⟨[(0, .str), (1, .str)], []⟩, .own 1, [(1, .arr .str)], fun n x => g_strings_Split n x.1.1 x.1.2.1⟩

theorem sat_Split (he : Enters P f) {gm : Nat} {t : Nat} (hmax : ∀ γ w, GlOK gl γ w → ∃ m, w.cell? ⟨gm, 0, none⟩ = some (.int .i64 m))
    (hc : ∀ (s sep : ByteArray) (m : Int) (w : World), s.size < 4294967281 → w.cell? ⟨gm, 0, none⟩ = some (.int .i64 m) → 1 ≤ sep.size →
      Calls P f #[.string s, .string sep] w fun e w' => e = .returned (.slice (some ⟨w.heap.size, 0, none⟩) (Lib.countB s sep + 1) (Lib.countB s sep + 1)) ∧ w' = w.alloc (.cells ((Lib.splitB sep 0 (Lib.countB s sep) s).map Value.string).toArray t)) :
    Sat P gl f c_strings_Split := by
  refine sat_arr he rfl fun n x y xs hy w args γ hgl har hargs _ => ?_
  obtain ⟨⟨s, sep, _⟩, _⟩ := x
  simp only [g_strings_Split] at hy
  split at hy
  · rename_i c
    split at hy
    · rename_i hlen
      cases hy
      have h0 := hargs [.undef, .undef] (by intro i; rcases i with _ | _ | i <;> rfl) 0
      have h1 := hargs [.undef, .undef] (by intro i; rcases i with _ | _ | i <;> rfl) 1
      simp only [buildSl, setAt, Lf.build, List.set, List.getD, List.getElem?_cons_zero, List.getElem?_cons_succ, Option.getD, V] at h0 h1
      have ha := args2 (by simpa [Tm.ar] using har) h0.1 h1.1
      have hcb := h1.2.1 c (by simp)
      obtain ⟨m, hm⟩ := hmax γ w hgl
      rw [ha]
      refine (hc _ _ m w (by rw [toBA_size]; exact hlen) hm (by rw [toBA_size]; simp)).mono ?_
      rintro e w' ⟨rfl, rfl⟩
      have hsep : toBA [c] = ⟨#[UInt8.ofNat c.toNat]⟩ := rfl
      have hcount : Lib.countB (toBA s) (toBA [c]) = (by8 s).count (UInt8.ofNat c.toNat) := by
        unfold Lib.countB
        rw [by8_toBA, hsep]
        exact Lib.count_one _ _
      have hparts : (Lib.splitB (toBA [c]) 0 (Lib.countB (toBA s) (toBA [c])) (toBA s)) = (splitI c s).map toBA := by
        have h2 := Lib.splitB_data (toBA [c]) 0 (Lib.countB (toBA s) (toBA [c])) (toBA s)
        rw [by8_toBA, by8_toBA, hcount] at h2
        have h3 : by8 [c] = [UInt8.ofNat c.toNat] := rfl
        rw [h3, splitK_split8, split8_by8 hcb h0.2.1, ← hcount] at h2
        have h4 : ∀ (a b : List ByteArray), a.map (fun x => x.data.toList) = b.map (fun x => x.data.toList) → a = b := by
          intro a
          induction a with
          | nil => intro b hb; cases b with | nil => rfl | cons _ _ => simp at hb
          | cons x a ih =>
            intro b hb
            cases b with
            | nil => simp at hb
            | cons y b =>
              simp only [List.map_cons, List.cons.injEq] at hb
              rw [ih b hb.2]
              congr 1
              obtain ⟨⟨x⟩⟩ := x
              obtain ⟨⟨y⟩⟩ := y
              simp at hb
              rw [hb.1]
        apply h4
        rw [h2, List.map_map]
        apply List.map_congr_left
        intro p _
        simp [by8_toBA]
      have hn : Lib.countB (toBA s) (toBA [c]) + 1 = (splitI c s).length := by
        have := Lib.splitB_all (toBA [c]) (by rw [toBA_size]; simp) 0 _ (toBA s) rfl
        rw [hparts] at this
        simpa using this.symm
      obtain ⟨hok1, hok2⟩ := splitI_ok c h0.2.1
      have hlim : lim = 4294967296 := rfl
      rw [hparts, hn]
      refine ⟨_, some ⟨w.heap.size, 0, none⟩, (splitI c s).length, (splitI c s).length, rfl, fun γ' hb => ?_, Ev.alloc _ _ _, fun γ' => ⟨rfl, Nat.le_refl _, by omega, (fun h => by cases h), fun a ha => ?_⟩, fun a ha => ?_⟩
      · simp only [Lf.build, V]
        exact ⟨_, _, _, hb, rfl⟩
      · cases ha
        have hr := alloc_range w ((splitI c s).map fun p => Value.string (toBA p)) t
        rw [show (List.map Value.string (List.map toBA (splitI c s))) = (splitI c s).map fun p => Value.string (toBA p) by rw [List.map_map]; rfl]
        refine ⟨rfl, ?_, fun i hi => ?_⟩
        · exact alloc_there w _ t _ (by simp [K.cells])
        · refine ⟨[.string (toBA (splitI c s)[i])], ⟨rfl, (hok1 _ (List.getElem_mem hi)).1, by have := (hok1 _ (List.getElem_mem hi)).2; omega⟩, ?_⟩
          intro j v hv
          have hj : j = 0 := by
            have := (List.getElem?_eq_some_iff.1 hv).1
            simp at this
            omega
          subst hj
          simp at hv
          subst hv
          have := hr i (.string (toBA (splitI c s)[i])) (by rw [List.getElem?_map, List.getElem?_eq_getElem hi]; rfl)
          simpa [K.cells] using this
      · cases ha
        exact ⟨Nat.le_refl _, by show w.heap.size < (w.heap.push _).size; simp⟩
    · cases hy
  · cases hy

def c_strings_Cut : Con := ⟨⟨[(0, .str), (1, .str)], []⟩, .tup [.str, .str, .bool], [], fun n x => g_strings_Cut n x.1.1 x.1.2.1⟩

theorem cut_by8 {c : Int} (hc : 0 ≤ c ∧ c < 256) : ∀ {s : List Int}, bytesOK s → Lib.cut (by8 s) [UInt8.ofNat c.toNat] = (by8 (cutI c s).1, by8 (cutI c s).2.1, (cutI c s).2.2)
  | [], _ => rfl
  | x :: s, h => by
    have ih := cut_by8 hc (s := s) fun y hy => h y (by simp [hy])
    have e := ofNat_eq (h x (by simp)) hc
    have hidx : Lib.indexByte (UInt8.ofNat x.toNat :: by8 s) (UInt8.ofNat c.toNat) = if x = c then 0 else if Lib.indexByte (by8 s) (UInt8.ofNat c.toNat) = -1 then -1 else Lib.indexByte (by8 s) (UInt8.ofNat c.toNat) + 1 := by
      conv => lhs; unfold Lib.indexByte
      by_cases hxc : x = c
      · rw [if_pos (by simpa using e.2 hxc), if_pos hxc]
      · rw [if_neg (by simpa using fun h => hxc (e.1 h)), if_neg hxc]
        simp
    have hge := Lib.indexByte_ge (by8 s) (UInt8.ofNat c.toNat)
    show Lib.cut (UInt8.ofNat x.toNat :: by8 s) _ = _
    unfold Lib.cut at ih ⊢
    rw [Lib.index_one] at ih ⊢
    rw [hidx]
    generalize hI : Lib.indexByte (by8 s) (UInt8.ofNat c.toNat) = I at ih hge ⊢
    unfold cutI
    by_cases hxc : x = c
    · rw [if_pos hxc, if_pos hxc]
      simp [by8]
    · rw [if_neg hxc, if_neg hxc]
      by_cases hm : I = -1
      · rw [if_pos hm, if_neg (by omega)]
        rw [if_neg (by omega)] at ih
        simp only [Prod.mk.injEq] at ih ⊢
        refine ⟨?_, ih.2.1, ih.2.2⟩
        rw [show by8 (x :: (cutI c s).1) = UInt8.ofNat x.toNat :: by8 (cutI c s).1 from rfl, ← ih.1]
      · rw [if_neg hm, if_pos (by omega)]
        rw [if_pos (by omega)] at ih
        have h3 : (I + 1).toNat = I.toNat + 1 := by omega
        simp only [h3, List.take_succ_cons, List.length_singleton, List.drop_succ_cons] at ih ⊢
        simp only [Prod.mk.injEq] at ih ⊢
        refine ⟨?_, ih.2.1, ih.2.2⟩
        rw [ih.1]
        rfl

theorem cutI_ok (c : Int) : ∀ {s : List Int}, bytesOK s → bytesOK (cutI c s).1 ∧ bytesOK (cutI c s).2.1 ∧ (cutI c s).1.length ≤ s.length ∧ (cutI c s).2.1.length ≤ s.length
  | [], _ => by simp [cutI, bytesOK]
  | x :: s, h => by
    obtain ⟨h1, h2, h3, h4⟩ := cutI_ok c (s := s) fun y hy => h y (by simp [hy])
    have hx := h x (by simp)
    unfold cutI
    split
    · exact ⟨(fun _ h => by cases h), (fun y hy => h y (by simp [hy])), by simp, by simp⟩
    · refine ⟨fun y hy => ?_, h2, by simp; omega, by simp; omega⟩
      rcases List.mem_cons.1 hy with rfl | hy
      · exact hx
      · exact h1 y hy

theorem toBA_by8 (s : List Int) : toBA s = ⟨(by8 s).toArray⟩ := by
  apply ByteArray.ext
  simp [toBA, by8]

theorem sat_Cut (he : Enters P f) {gm : Nat} (hmax : ∀ γ w, GlOK gl γ w → ∃ m, w.cell? ⟨gm, 0, none⟩ = some (.int .i64 m))
    (hc : ∀ (s sep : ByteArray) (m : Int) (w : World), s.size < 4294967281 → w.cell? ⟨gm, 0, none⟩ = some (.int .i64 m) →
      Calls P f #[.string s, .string sep] w fun e w' => e = .returned (.tuple #[.string ⟨(Lib.cut s.data.toList sep.data.toList).1.toArray⟩, .string ⟨(Lib.cut s.data.toList sep.data.toList).2.1.toArray⟩, .bool (Lib.cut s.data.toList sep.data.toList).2.2]) ∧ ∃ n, w' = w.drewN n) :
    Sat P gl f c_strings_Cut := by
  refine sat_res he rfl fun n x y hy w args γ hgl har hargs _ => ?_
  obtain ⟨⟨s, sep, _⟩, _⟩ := x
  simp only [g_strings_Cut] at hy
  split at hy
  · rename_i c
    split at hy
    · rename_i hlen
      cases hy
      have h0 := hargs [.undef, .undef] (by intro i; rcases i with _ | _ | i <;> rfl) 0
      have h1 := hargs [.undef, .undef] (by intro i; rcases i with _ | _ | i <;> rfl) 1
      simp only [buildSl, setAt, Lf.build, List.set, List.getD, List.getElem?_cons_zero, List.getElem?_cons_succ, Option.getD, V] at h0 h1
      have ha := args2 (by simpa [Tm.ar] using har) h0.1 h1.1
      have hcb := h1.2.1 c (by simp)
      obtain ⟨m, hm⟩ := hmax γ w hgl
      rw [ha]
      refine (hc _ _ m w (by rw [toBA_size]; exact hlen) hm).mono ?_
      rintro e w' ⟨rfl, k, rfl⟩
      refine ⟨_, rfl, ?_, Ev.of_drewN⟩
      have h3 : by8 [c] = [UInt8.ofNat c.toNat] := rfl
      rw [by8_toBA, by8_toBA, h3, cut_by8 hcb h0.2.1]
      obtain ⟨h4, h5, h6, h7⟩ := cutI_ok c h0.2.1
      simp only [Lf.build, Lf.builds, V, VL]
      exact ⟨[_, _, _], rfl, ⟨by rw [toBA_by8], h4, by omega⟩, ⟨by rw [toBA_by8], h5, by omega⟩, rfl, rfl⟩
    · cases hy
  · cases hy

/-! #### strings.Join -/
def c_strings_Join : Con := ⟨⟨[(0, .ro .str), (1, .str)], []⟩, .str, [], fun n x => g_strings_Join n x.1.1 x.1.2.1⟩

theorem join_un8 (sep : List Int) (xs : List (List Int)) : Lib.join (xs.map by8) (by8 sep) = by8 (joinI sep xs) := by
  unfold Lib.join joinI
  have key : ∀ l : List (List Int), (l.map by8).flatten = by8 l.flatten := by
    intro l
    induction l with
    | nil => rfl
    | cons a l ih => simp [ih, by8_append]
  simp only [List.intercalate]
  rw [← key]
  congr 1
  induction xs with
  | nil => rfl
  | cons x xs ih =>
    cases xs with
    | nil => simp
    | cons y ys => simpa using ih

theorem joinI_ok {sep : List Int} (hs : bytesOK sep) : ∀ {xs : List (List Int)}, (∀ x ∈ xs, bytesOK x) → bytesOK (joinI sep xs) := by
  intro xs h y hy
  unfold joinI at hy
  simp only [List.intercalate, List.mem_flatten] at hy
  obtain ⟨l, hl, hyl⟩ := hy
  have key : ∀ xs : List (List Int), l ∈ List.intersperse sep xs → l = sep ∨ l ∈ xs := by
    intro xs
    induction xs with
    | nil => simp
    | cons a xs ih =>
      cases xs with
      | nil => intro hm; simp at hm ⊢; exact .inr hm
      | cons b xs =>
        intro hm
        simp only [List.intersperse_cons_cons, List.mem_cons] at hm ih ⊢
        rcases hm with h | h | h
        · exact .inr (.inl h)
        · exact .inl h
        · rcases ih h with h | h
          · exact .inl h
          · exact .inr (.inr h)
  rcases key xs hl with rfl | h1
  · exact hs y hyl
  · exact h l h1 y hyl

theorem sat_Join (he : Enters P f)
    (h0 : ∀ (a : Option Addr) (c : Nat) (sep : ByteArray) (w : World), Calls P f #[.slice a 0 c, .string sep] w fun e w' => e = .returned (.string ⟨#[]⟩) ∧ w' = w)
    (hc : ∀ (bk o c : Nat) (xs : List ByteArray) (sep : ByteArray) (w : World), (∀ (j : Nat) x, xs[j]? = some x → w.cell? ⟨bk, o + j, none⟩ = some (.string x)) → bk < w.heap.size → xs.length ≤ 140737488355328 → xs.length ≤ c →
      (Lib.join (xs.map (·.data.toList)) sep.data.toList).length ≤ 140737488355328 →
      Calls P f #[.slice (some ⟨bk, o, none⟩) xs.length c, .string sep] w fun e w' => e = .returned (.string ⟨(Lib.join (xs.map (·.data.toList)) sep.data.toList).toArray⟩) ∧ Below w.heap.size w w') : Sat P gl f c_strings_Join := by
  refine sat_res he rfl fun n x y hy w args γ hgl har hargs hsex => ?_
  obtain ⟨⟨xs, sep, _⟩, _⟩ := x
  simp only [g_strings_Join] at hy
  split at hy
  · rename_i hlen
    cases hy
    have hlim : lim = 4294967296 := rfl
    have h2 := hargs [.undef, .undef] (by intro i; rcases i with _ | _ | i <;> rfl) 0
    have h1 := hargs [.undef, .undef] (by intro i; rcases i with _ | _ | i <;> rfl) 1
    simp only [buildSl, setAt, Lf.build, List.set, List.getD, List.getElem?_cons_zero, List.getElem?_cons_succ, Option.getD, V] at h1 h2
    obtain ⟨A, len, cap, h3, h4, h5, h6, h7⟩ := h2
    have h3' : args.getD 0 undef = .slice A len cap := by
      have := List.head_eq_of_cons_eq h3
      simpa [Array.getD_eq_getD_getElem?] using this
    have ha := args2 (by simpa [Tm.ar] using har) h3' h1.1
    rw [ha]
    subst h4
    have hok : (∀ x ∈ xs, bytesOK x) := by
      intro x hx
      obtain ⟨b, off, _, h8⟩ := h7 (by rintro rfl; cases hx)
      obtain ⟨i, hi, rfl⟩ := List.getElem_of_mem hx
      obtain ⟨cs, h9, _⟩ := h8 i hi
      exact h9.2.1
    cases xs with
    | nil =>
      refine (h0 A cap (toBA sep) w).mono ?_
      rintro e w' ⟨rfl, rfl⟩
      refine ⟨_, rfl, ?_, Ev.refl _ _⟩
      simp only [Lf.build, V]
      exact ⟨rfl, fun _ h => by simp [joinI, List.intercalate] at h, by simp [joinI, List.intercalate]⟩
    | cons x0 xs0 =>
      generalize hxs : x0 :: xs0 = xs at *
      obtain ⟨b, off, rfl, h8⟩ := h7 (by rw [← hxs]; simp)
      have hpos : 0 < xs.length := by rw [← hxs]; simp
      have hb : b < w.heap.size := by
        obtain ⟨cs, _, _, h9⟩ := h8 0 hpos
        exact hsex b _ (h9 0 (by simp [K.cells]))
      have e1 : (xs.map toBA).map (fun x => x.data.toList) = xs.map by8 := by
        rw [List.map_map]
        apply List.map_congr_left
        intro x _
        exact by8_toBA x
      have e2 : Lib.join ((xs.map toBA).map (·.data.toList)) (toBA sep).data.toList = by8 (joinI sep xs) := by
        rw [e1, by8_toBA, join_un8]
      have hcall := hc b off cap (xs.map toBA) (toBA sep) w (fun j z hz => by
        rw [List.getElem?_map] at hz
        cases hj : xs[j]? with
        | none => rw [hj] at hz; cases hz
        | some q =>
          rw [hj] at hz
          cases hz
          obtain ⟨hjl, rfl⟩ := List.getElem?_eq_some_iff.1 hj
          obtain ⟨cs, h9, h10, _⟩ := h8 j hjl
          have := h10 0 (.string (toBA xs[j])) (by rw [h9.1]; rfl)
          simpa [K.cells] using this) hb (by rw [List.length_map]; omega) (by rw [List.length_map]; exact h5) (by rw [e2, by8_length]; omega)
      rw [List.length_map, e2] at hcall
      refine hcall.mono ?_
      rintro e w' ⟨rfl, hbl⟩
      refine ⟨_, rfl, ?_, Ev.of_below hbl⟩
      simp only [Lf.build, V]
      exact ⟨by rw [toBA_by8], joinI_ok h1.2.1 hok, by omega⟩
  · cases hy

/-! #### encoding/hex -/
def c_encoding_hex_EncodeToString : Con := ⟨⟨[(0, .ro (.int .u8))], []⟩, .str, [], fun n x => g_encoding_hex_EncodeToString n x.1.1⟩

theorem bytesOf_by8 {xs : List Int} (h : bytesOK xs) : Lib.bytesOf xs = by8 xs := by
  unfold Lib.bytesOf by8
  rfl

theorem sat_EncodeToString (he : Enters P f)
    (hc : ∀ (bs os n cs : Nat) (xs : List Int) (w : World), xs.length = n → (∀ i, i < n → 0 ≤ xs.getD i 0 ∧ xs.getD i 0 < 256) → (∀ i, i < n → w.cell? ⟨bs, os + i, none⟩ = some (.int .u8 (xs.getD i 0))) → bs < w.heap.size → 2 * n ≤ 281474976710656 →
      Calls P f #[.slice (some ⟨bs, os, none⟩) n cs] w fun e w' => e = .returned (.string ⟨(Lib.Hx.encode (Lib.bytesOf xs)).toArray⟩) ∧ Below w.heap.size w w') : Sat P gl f c_encoding_hex_EncodeToString := by
  refine sat_res he rfl fun n x y hy w args γ hgl har hargs hsex => ?_
  obtain ⟨⟨xs, _⟩, _⟩ := x
  simp only [g_encoding_hex_EncodeToString] at hy
  split at hy
  · rename_i hlen
    cases hy
    have hlim : lim = 4294967296 := rfl
    have h2 := hargs [.undef] (by intro i; rcases i with _ | i <;> rfl) 0
    simp only [buildSl, setAt, Lf.build, List.set, List.getD, List.getElem?_cons_zero, Option.getD, V] at h2
    obtain ⟨A, len, cap, h3, h4, h5, h6, h7⟩ := h2
    have h3' : args.getD 0 undef = .slice A len cap := by
      have := List.head_eq_of_cons_eq h3
      simpa [Array.getD_eq_getD_getElem?] using this
    have ha := args1 (by simpa [Tm.ar] using har) h3'
    rw [ha]
    subst h4
    obtain ⟨b, off, rfl, h8⟩ := h7 hlen.1
    have hpos : 0 < xs.length := List.length_pos_iff.2 hlen.1
    have hb : b < w.heap.size := by
      obtain ⟨cs, _, _, h9⟩ := h8 0 hpos
      exact hsex b _ (h9 0 (by simp [K.cells]))
    have hget : ∀ i (hi : i < xs.length), xs.getD i 0 = xs[i] := fun i hi => by simp [List.getD, hi]
    have hok : bytesOK xs := by
      intro x hx
      obtain ⟨i, hi, rfl⟩ := List.getElem_of_mem hx
      obtain ⟨cs, h9, _⟩ := h8 i hi
      exact u8_has.1 h9.2
    refine (hc b off xs.length cap xs w rfl (fun i hi => by rw [hget i hi]; exact hok _ (List.getElem_mem hi)) (fun i hi => by
      obtain ⟨cs, h9, h10, _⟩ := h8 i hi
      have := h10 0 (.int .u8 xs[i]) (by rw [h9.1]; rfl)
      rw [hget i hi]
      simpa [K.cells] using this) hb (by omega)).mono ?_
    rintro e w' ⟨rfl, hbl⟩
    refine ⟨_, rfl, ?_, Ev.of_below hbl⟩
    simp only [Lf.build, V]
    have hle := Lib.Hx.encode_length (by8 xs)
    rw [by8_length] at hle
    exact ⟨by rw [toBA_un8, bytesOf_by8 hok], un8_ok _, by rw [un8_length]; omega⟩
  · cases hy

def c_encoding_hex_DecodeString : Con := ⟨⟨[(0, .str)], []⟩, .tup [.own 1, .err], [(1, .arr (.int .u8))], fun n x => g_encoding_hex_DecodeString n x.1.1⟩

theorem sat_DecodeString (he : Enters P f) {ge t5 t104 : Nat} (herr : ∀ γ w, GlOK gl γ w → ∃ tt vv, w.cell? ⟨ge, 0, none⟩ = some (.iface tt vv))
    (hc : ∀ (s : ByteArray) (w : World) (ev : Value), w.cell? ⟨ge, 0, none⟩ = some ev → s.size ≤ 281474976710656 →
      Calls P f #[.string s] w fun e w' => e = .returned (.tuple #[.slice (some ⟨w.heap.size, 0, none⟩) (Lib.Hx.decode s.data.toList).1.length (s.size / 2), Lib.Hx.errVal t104 ev (Lib.Hx.decode s.data.toList).2]) ∧
        w'.rowIs w.heap.size t5 (s.size / 2) (Lib.Hx.rowP (fun _ => .int .u8 0) 0 (Lib.Hx.decode s.data.toList).1) ∧ Below w.heap.size w w') : Sat P gl f c_encoding_hex_DecodeString := by
  refine sat_arr he rfl fun n x y xs hy w args γ hgl har hargs hsex => ?_
  obtain ⟨⟨s, _⟩, _⟩ := x
  simp only [g_encoding_hex_DecodeString] at hy
  split at hy
  · rename_i hlen
    cases hy
    have hlim : lim = 4294967296 := rfl
    have h0 := hargs [.undef] (by intro i; rcases i with _ | i <;> rfl) 0
    simp only [buildSl, setAt, Lf.build, List.set, List.getD, List.getElem?_cons_zero, Option.getD, V] at h0
    have ha := args1 (by simpa [Tm.ar] using har) h0.1
    rw [ha]
    obtain ⟨tt, vv, hev⟩ := herr γ w hgl
    refine (hc _ w _ hev (by rw [toBA_size]; omega)).mono ?_
    rintro e w' ⟨rfl, hrow, hbl⟩
    rw [by8_toBA, toBA_size] at *
    have hdl := Lib.Hx.decode_len (by8 s)
    rw [by8_length] at hdl
    generalize hD : Lib.Hx.decode (by8 s) = D at *
    refine ⟨_, some ⟨w.heap.size, 0, none⟩, D.1.length, s.length / 2, rfl, fun γ' hb => ?_, Ev.of_below hbl, fun γ' => ⟨un8_length _, hdl, by rw [un8_length]; omega, (fun h => by cases h), fun a ha => ?_⟩, fun a ha => ?_⟩
    · simp only [Lf.build, Lf.builds, V, VL]
      refine ⟨[_, _], rfl, ⟨_, _, _, hb, rfl⟩, ?_, rfl⟩
      cases D.2 with
      | ok => rfl
      | bad c => exact ⟨_, _, rfl⟩
      | odd => exact ⟨_, _, rfl⟩
    · cases ha
      refine ⟨rfl, fun j hj => ?_, fun i hi => ?_⟩
      · simp only [K.cells, Nat.mul_one] at hj
        rw [Nat.zero_add]
        exact ⟨by rw [hrow.cell hj]; rfl, hrow.frozen j⟩
      · rw [un8_length] at hi
        have hcell := hrow.cell (i := i) (by omega)
        unfold Lib.Hx.rowP at hcell
        rw [if_pos ⟨Nat.zero_le _, by omega⟩] at hcell
        have hget : (D.1[i - 0]?.getD 0) = D.1[i] := by simp [hi]
        rw [hget] at hcell
        refine ⟨[.int .u8 (D.1[i].toNat : Int)], ⟨?_, ?_⟩, fun j v hv => ?_⟩
        · simp [un8]
        · have := D.1[i].toNat_lt
          simp only [un8, List.getElem_map]
          exact u8_has.2 (by omega)
        · have hj : j = 0 := by
            have := (List.getElem?_eq_some_iff.1 hv).1
            simp at this
            omega
          subst hj
          simp at hv
          subst hv
          simpa [K.cells] using hcell
    · cases ha
      exact ⟨Nat.le_refl _, hrow.lt⟩
  · cases hy

end
end Go.Vm
