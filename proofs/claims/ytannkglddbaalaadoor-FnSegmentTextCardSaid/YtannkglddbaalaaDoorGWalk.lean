/- printed -/
import Derived.Test.YtannkglddbaalaaDoorGLib
import Derived.Test.YtannkglddbaalaaDoorGTxt
set_option linter.unusedSimpArgs false
set_option linter.unusedVariables false
namespace Go.Vm
open Go.Proofs

/-! loop.example/g00003/spec.l01Begin -/
abbrev k_spec_l01Begin_0 : Tm := ⟨[(0, (.ro (.int .u8)))], []⟩
noncomputable def c_spec_l01Begin : Con := ⟨k_spec_l01Begin_0, (.agg [(.ro (.int .u8)), (.int .i64), (.int .u64)]), [], fun n x => g_spec_l01Begin n x.1.1⟩
noncomputable def ct_spec_l01Begin : List (Nat × Con) := []
noncomputable def E_spec_l01Begin (n : Nat) : Env := { P := Tryd.prog, ct := ct_spec_l01Begin, fuel := n }
abbrev k_spec_l01Begin_1 : Tm := ⟨[(2, (.ptr 2)), (3, (.ptr 3))], [(2, (.box [.nilsl, (.int .i64), (.int .u64)])), (3, (.box [(.ro (.int .u8)), (.int .i64), (.int .u64)]))]⟩
abbrev k_spec_l01Begin_2 : Tm := ⟨[(0, (.ro (.int .u8))), (2, (.ptr 2)), (3, (.ptr 3)), (4, (.int .i64))], [(2, (.box [.nilsl, (.int .i64), (.int .u64)])), (3, (.box [(.ro (.int .u8)), (.int .i64), (.int .u64)]))]⟩
noncomputable def b_spec_l01Begin_0 (n m : Nat) (x : Tm.T k_spec_l01Begin_2) : Option ((Unit × Unit × Unit) × ((Unit × Int × Int × Unit) × ((List Int) × Int × Int × Unit) × Unit)) := lpF (E_spec_l01Begin n) [] k_spec_l01Begin_2 25 (sub (bodyOf Tryd.f15) [1, 1, 1, 0, 1, 0, 0]) .z (kBlock 0 (kCut [] k_spec_l01Begin_1)) m x
theorem r_spec_l01Begin_0 (n m : Nat) (code_15 : List Int) (i_16 : Int) (f1_17 : Int) (f2_18 : Int) (f0_19 : List Int) (f1_20 : Int) (f2_21 : Int) :
    rnd (E_spec_l01Begin n) [] k_spec_l01Begin_2 25 (sub (bodyOf Tryd.f15) [1, 1, 1, 0, 1, 0, 0]) .z (kBlock 0 (kCut [] k_spec_l01Begin_1)) (fun x => l_spec_l01Begin_0 n m x.1.1 x.1.2.2.2.1 x.2.1.2.1 x.2.1.2.2.1 x.2.2.1.1 x.2.2.1.2.1 x.2.2.1.2.2.1) ((code_15, (), (), i_16, ()), (((), f1_17, f2_18, ()), (f0_19, f1_20, f2_21, ()), ()))
      = l_spec_l01Begin_0 n (m + 1) code_15 i_16 f1_17 f2_18 f0_19 f1_20 f2_21 := by kernel_rfl
theorem lp_spec_l01Begin_0 (n : Nat) : ∀ (m : Nat) (x : Tm.T k_spec_l01Begin_2), b_spec_l01Begin_0 n m x = l_spec_l01Begin_0 n m x.1.1 x.1.2.2.2.1 x.2.1.2.1 x.2.1.2.2.1 x.2.2.1.1 x.2.2.1.2.1 x.2.2.1.2.2.1
  | 0, _ => rfl
  | m + 1, x => by
    unfold b_spec_l01Begin_0
    rw [lpF_succ]
    have ih : lpF (E_spec_l01Begin n) [] k_spec_l01Begin_2 25 (sub (bodyOf Tryd.f15) [1, 1, 1, 0, 1, 0, 0]) .z (kBlock 0 (kCut [] k_spec_l01Begin_1)) m = (fun x => l_spec_l01Begin_0 n m x.1.1 x.1.2.2.2.1 x.2.1.2.1 x.2.1.2.2.1 x.2.2.1.1 x.2.2.1.2.1 x.2.2.1.2.2.1) := funext fun x => lp_spec_l01Begin_0 n m x
    rw [ih]
    exact r_spec_l01Begin_0 n m x.1.1 x.1.2.2.2.1 x.2.1.2.1 x.2.1.2.2.1 x.2.2.1.1 x.2.2.1.2.1 x.2.2.1.2.2.1
theorem e_spec_l01Begin (n : Nat) (code_1 : List Int) :
    evalFn (E_spec_l01Begin n) Tryd.f15 k_spec_l01Begin_0 (.agg [(.ro (.int .u8)), (.int .i64), (.int .u64)]) [] (.two .z (.two .z (.two .z (.two (.two .z (.cut k_spec_l01Begin_1 (.one (.loop k_spec_l01Begin_2 .z)))) .z)))) ((code_1, ()), ())
      = g_spec_l01Begin n code_1 := by
  refine Eq.trans (b := t_spec_l01Begin n (fun a0 a1 a2 a3 a4 a5 a6 => b_spec_l01Begin_0 n n ((a0, (), (), a1, ()), (((), a2, a3, ()), (a4, a5, a6, ()), ()))) code_1) (by kernel_rfl) ?_
  have e0 : (fun a0 a1 a2 a3 a4 a5 a6 => b_spec_l01Begin_0 n n ((a0, (), (), a1, ()), (((), a2, a3, ()), (a4, a5, a6, ()), ()))) = l_spec_l01Begin_0 n n := by funext a0 a1 a2 a3 a4 a5 a6; exact lp_spec_l01Begin_0 n n _
  rw [e0]
  rfl
theorem S_spec_l01Begin {gl : List (Nat × Obj)} : Sat Tryd.prog gl 15 c_spec_l01Begin :=
  sat_eval Tryd.func15 ⟨_, Tryd.func15, by kernel_rfl, by kernel_rfl⟩ (fun _ _ h => by cases h) (fun n x y h => ⟨n, [], (e_spec_l01Begin n x.1.1).trans h⟩)

/-! loop.example/g00003/spec.l01Next -/
abbrev k_spec_l01Next_0 : Tm := ⟨[(0, (.ptr 51)), (1, (.int .i64))], [(51, (.box [(.ro (.int .u8)), (.int .i64), (.int .u64)]))]⟩
noncomputable def c_spec_l01Next : Con := ⟨k_spec_l01Next_0, (.int .i64), [(51, (.box [(.ro (.int .u8)), (.int .i64), (.int .u64)]))], fun n x => g_spec_l01Next n x.1.2.1 x.2.1.1 x.2.1.2.1 x.2.1.2.2.1⟩
noncomputable def ct_spec_l01Next : List (Nat × Con) := []
noncomputable def E_spec_l01Next (n : Nat) : Env := { P := Tryd.prog, ct := ct_spec_l01Next, fuel := n }
theorem e_spec_l01Next (n : Nat) (n_1 : Int) (code_2 : List Int) (pos_3 : Int) (state_4 : Int) :
    evalFn (E_spec_l01Next n) Tryd.f18 k_spec_l01Next_0 (.int .i64) [(51, (.box [(.ro (.int .u8)), (.int .i64), (.int .u64)]))] .z (((), n_1, ()), ((code_2, pos_3, state_4, ()), ()))
      = g_spec_l01Next n n_1 code_2 pos_3 state_4 := by kernel_rfl
theorem S_spec_l01Next {gl : List (Nat × Obj)} : Sat Tryd.prog gl 18 c_spec_l01Next :=
  sat_eval Tryd.func18 ⟨_, Tryd.func18, by kernel_rfl, by kernel_rfl⟩ (fun _ _ h => by cases h) (fun n x y h => ⟨n, [], (e_spec_l01Next n x.1.2.1 x.2.1.1 x.2.1.2.1 x.2.1.2.2.1).trans h⟩)

/-! loop.example/g00003/spec.l01Seq -/
abbrev k_spec_l01Seq_0 : Tm := ⟨[(0, (.ptr 51))], [(51, (.box [(.ro (.int .u8)), (.int .i64), (.int .u64)]))]⟩
noncomputable def c_spec_l01Seq : Con := ⟨k_spec_l01Seq_0, (.int .i64), [(51, (.box [(.ro (.int .u8)), (.int .i64), (.int .u64)]))], fun n x => g_spec_l01Seq n x.2.1.1 x.2.1.2.1 x.2.1.2.2.1⟩
noncomputable def ct_spec_l01Seq : List (Nat × Con) := [(18, c_spec_l01Next)]
noncomputable def E_spec_l01Seq (n : Nat) : Env := { P := Tryd.prog, ct := ct_spec_l01Seq, fuel := n }
theorem e_spec_l01Seq (n : Nat) (code_1 : List Int) (pos_2 : Int) (state_3 : Int) :
    evalFn (E_spec_l01Seq n) Tryd.f51 k_spec_l01Seq_0 (.int .i64) [(51, (.box [(.ro (.int .u8)), (.int .i64), (.int .u64)]))] .z (((), ()), ((code_1, pos_2, state_3, ()), ()))
      = g_spec_l01Seq n code_1 pos_2 state_3 := by kernel_rfl
theorem S_spec_l01Seq {gl : List (Nat × Obj)} : Sat Tryd.prog gl 51 c_spec_l01Seq :=
  sat_eval Tryd.func51 ⟨_, Tryd.func51, by kernel_rfl, by kernel_rfl⟩ (ct_cons S_spec_l01Next (fun _ _ h => by cases h)) (fun n x y h => ⟨n, [], (e_spec_l01Seq n x.2.1.1 x.2.1.2.1 x.2.1.2.2.1).trans h⟩)

/-! loop.example/g00003/spec.l01Bytes -/
abbrev k_spec_l01Bytes_0 : Tm := ⟨[(0, (.ptr 51)), (1, (.int .i64))], [(51, (.box [(.ro (.int .u8)), (.int .i64), (.int .u64)]))]⟩
noncomputable def c_spec_l01Bytes : Con := ⟨k_spec_l01Bytes_0, (.own 1), [(1, (.arr (.int .u8))), (51, (.box [(.ro (.int .u8)), (.int .i64), (.int .u64)]))], fun n x => g_spec_l01Bytes n x.1.2.1 x.2.1.1 x.2.1.2.1 x.2.1.2.2.1⟩
noncomputable def ct_spec_l01Bytes : List (Nat × Con) := [(18, c_spec_l01Next)]
noncomputable def E_spec_l01Bytes (n : Nat) : Env := { P := Tryd.prog, ct := ct_spec_l01Bytes, fuel := n }
abbrev k_spec_l01Bytes_1 : Tm := ⟨[(0, (.ptr 51)), (5, (.own 7))], [(7, (.arr (.int .u8))), (51, (.box [(.ro (.int .u8)), (.int .i64), (.int .u64)]))]⟩
abbrev k_spec_l01Bytes_2 : Tm := ⟨[(0, (.ptr 51)), (1, (.int .i64)), (5, (.own 7)), (6, (.int .i64))], [(51, (.box [(.ro (.int .u8)), (.int .i64), (.int .u64)])), (7, (.arr (.int .u8)))]⟩
noncomputable def b_spec_l01Bytes_0 (n m : Nat) (x : Tm.T k_spec_l01Bytes_2) : Option ((Unit × Unit × Unit) × ((List Int) × ((List Int) × Int × Int × Unit) × Unit)) := lpF (E_spec_l01Bytes n) [51] k_spec_l01Bytes_2 20 (sub (bodyOf Tryd.f52) [1, 1, 0, 1, 0, 0]) .z (kBlock 0 (kCut [51] k_spec_l01Bytes_1)) m x
theorem r_spec_l01Bytes_0 (n m : Nat) (n_16 : Int) (i_17 : Int) (f0_18 : List Int) (f1_19 : Int) (f2_20 : Int) (a_21 : List Int) :
    rnd (E_spec_l01Bytes n) [51] k_spec_l01Bytes_2 20 (sub (bodyOf Tryd.f52) [1, 1, 0, 1, 0, 0]) .z (kBlock 0 (kCut [51] k_spec_l01Bytes_1)) (fun x => l_spec_l01Bytes_0 n m x.1.2.1 x.1.2.2.2.1 x.2.1.1 x.2.1.2.1 x.2.1.2.2.1 x.2.2.1) (((), n_16, (), i_17, ()), ((f0_18, f1_19, f2_20, ()), a_21, ()))
      = l_spec_l01Bytes_0 n (m + 1) n_16 i_17 f0_18 f1_19 f2_20 a_21 := by kernel_rfl
theorem lp_spec_l01Bytes_0 (n : Nat) : ∀ (m : Nat) (x : Tm.T k_spec_l01Bytes_2), b_spec_l01Bytes_0 n m x = l_spec_l01Bytes_0 n m x.1.2.1 x.1.2.2.2.1 x.2.1.1 x.2.1.2.1 x.2.1.2.2.1 x.2.2.1
  | 0, _ => rfl
  | m + 1, x => by
    unfold b_spec_l01Bytes_0
    rw [lpF_succ]
    have ih : lpF (E_spec_l01Bytes n) [51] k_spec_l01Bytes_2 20 (sub (bodyOf Tryd.f52) [1, 1, 0, 1, 0, 0]) .z (kBlock 0 (kCut [51] k_spec_l01Bytes_1)) m = (fun x => l_spec_l01Bytes_0 n m x.1.2.1 x.1.2.2.2.1 x.2.1.1 x.2.1.2.1 x.2.1.2.2.1 x.2.2.1) := funext fun x => lp_spec_l01Bytes_0 n m x
    rw [ih]
    exact r_spec_l01Bytes_0 n m x.1.2.1 x.1.2.2.2.1 x.2.1.1 x.2.1.2.1 x.2.1.2.2.1 x.2.2.1
theorem e_spec_l01Bytes (n : Nat) (n_1 : Int) (code_2 : List Int) (pos_3 : Int) (state_4 : Int) :
    evalFn (E_spec_l01Bytes n) Tryd.f52 k_spec_l01Bytes_0 (.own 1) [(1, (.arr (.int .u8))), (51, (.box [(.ro (.int .u8)), (.int .i64), (.int .u64)]))] (.two .z (.two .z (.two (.two .z (.cut k_spec_l01Bytes_1 (.one (.loop k_spec_l01Bytes_2 .z)))) .z))) (((), n_1, ()), ((code_2, pos_3, state_4, ()), ()))
      = g_spec_l01Bytes n n_1 code_2 pos_3 state_4 := by
  refine Eq.trans (b := t_spec_l01Bytes n (fun a0 a1 a2 a3 a4 a5 => b_spec_l01Bytes_0 n n (((), a0, (), a1, ()), ((a2, a3, a4, ()), a5, ()))) n_1 code_2 pos_3 state_4) (by kernel_rfl) ?_
  have e0 : (fun a0 a1 a2 a3 a4 a5 => b_spec_l01Bytes_0 n n (((), a0, (), a1, ()), ((a2, a3, a4, ()), a5, ()))) = l_spec_l01Bytes_0 n n := by funext a0 a1 a2 a3 a4 a5; exact lp_spec_l01Bytes_0 n n _
  rw [e0]
  rfl
theorem S_spec_l01Bytes {gl : List (Nat × Obj)} : Sat Tryd.prog gl 52 c_spec_l01Bytes :=
  sat_eval Tryd.func52 ⟨_, Tryd.func52, by kernel_rfl, by kernel_rfl⟩ (ct_cons S_spec_l01Next (fun _ _ h => by cases h)) (fun n x y h => ⟨n, [], (e_spec_l01Bytes n x.1.2.1 x.2.1.1 x.2.1.2.1 x.2.1.2.2.1).trans h⟩)

/-! loop.example/g00003/spec.l01Bool -/
abbrev k_spec_l01Bool_0 : Tm := ⟨[(0, (.ptr 51))], [(51, (.box [(.ro (.int .u8)), (.int .i64), (.int .u64)]))]⟩
noncomputable def c_spec_l01Bool : Con := ⟨k_spec_l01Bool_0, .bool, [(51, (.box [(.ro (.int .u8)), (.int .i64), (.int .u64)]))], fun n x => g_spec_l01Bool n x.2.1.1 x.2.1.2.1 x.2.1.2.2.1⟩
noncomputable def ct_spec_l01Bool : List (Nat × Con) := [(18, c_spec_l01Next)]
noncomputable def E_spec_l01Bool (n : Nat) : Env := { P := Tryd.prog, ct := ct_spec_l01Bool, fuel := n }
theorem e_spec_l01Bool (n : Nat) (code_1 : List Int) (pos_2 : Int) (state_3 : Int) :
    evalFn (E_spec_l01Bool n) Tryd.f39 k_spec_l01Bool_0 .bool [(51, (.box [(.ro (.int .u8)), (.int .i64), (.int .u64)]))] .z (((), ()), ((code_1, pos_2, state_3, ()), ()))
      = g_spec_l01Bool n code_1 pos_2 state_3 := by kernel_rfl
theorem S_spec_l01Bool {gl : List (Nat × Obj)} : Sat Tryd.prog gl 39 c_spec_l01Bool :=
  sat_eval Tryd.func39 ⟨_, Tryd.func39, by kernel_rfl, by kernel_rfl⟩ (ct_cons S_spec_l01Next (fun _ _ h => by cases h)) (fun n x y h => ⟨n, [], (e_spec_l01Bool n x.2.1.1 x.2.1.2.1 x.2.1.2.2.1).trans h⟩)

/-! loop.example/g00003/spec.l11Draw -/
abbrev k_spec_l11Draw_0 : Tm := ⟨[(0, (.ptr 51)), (1, (.int .i64))], [(51, (.box [(.ro (.int .u8)), (.int .i64), (.int .u64)]))]⟩
noncomputable def c_spec_l11Draw : Con := ⟨k_spec_l11Draw_0, (.agg [(.int .i64), (.int .i64), (.int .i64), (.int .i64), (.int .i64), (.int .i64), (.int .i64), .bool, (.int .i64), .bool, (.own 1), (.own 2)]), [(1, (.arr (.pair (.int .i64) (.pair (.int .i64) .unit)))), (2, (.arr (.int .u8))), (51, (.box [(.ro (.int .u8)), (.int .i64), (.int .u64)]))], fun n x => g_spec_l11Draw n x.1.2.1 x.2.1.1 x.2.1.2.1 x.2.1.2.2.1⟩
noncomputable def ct_spec_l11Draw : List (Nat × Con) := [(18, c_spec_l01Next), (39, c_spec_l01Bool), (51, c_spec_l01Seq), (52, c_spec_l01Bytes)]
noncomputable def E_spec_l11Draw (n : Nat) : Env := { P := Tryd.prog, ct := ct_spec_l11Draw, fuel := n }
abbrev k_spec_l11Draw_1 : Tm := ⟨[(0, (.ptr 51)), (4, (.ptr 4)), (5, (.ptr 5))], [(4, (.box [(.int .i64), (.int .i64), (.int .i64), (.int .i64), (.int .i64), (.int .i64), (.int .i64), .bool, (.int .i64), .bool, .nilsl, .nilsl])), (5, (.box [(.int .i64), (.int .i64), (.int .i64), (.int .i64), (.int .i64), (.int .i64), (.int .i64), .bool, (.int .i64), .bool, (.own 67), (.own 2029)])), (51, (.box [(.ro (.int .u8)), (.int .i64), (.int .u64)])), (67, (.arr (.pair (.int .i64) (.pair (.int .i64) .unit)))), (2029, (.arr (.int .u8)))]⟩
abbrev k_spec_l11Draw_2 : Tm := ⟨[(0, (.ptr 51)), (4, (.ptr 4)), (5, (.ptr 5)), (6, (.int .i64)), (7, (.int .i64))], [(51, (.box [(.ro (.int .u8)), (.int .i64), (.int .u64)])), (4, (.box [(.int .i64), (.int .i64), (.int .i64), (.int .i64), (.int .i64), (.int .i64), (.int .i64), .bool, (.int .i64), .bool, .nilsl, .nilsl])), (5, (.box [(.int .i64), (.int .i64), (.int .i64), (.int .i64), (.int .i64), (.int .i64), (.int .i64), .bool, (.int .i64), .bool, (.own 67), (.own 2029)])), (67, (.arr (.pair (.int .i64) (.pair (.int .i64) .unit)))), (2029, (.arr (.int .u8)))]⟩
noncomputable def b_spec_l11Draw_0 (n m : Nat) (x : Tm.T k_spec_l11Draw_2) : Option ((Unit × Unit × Unit × Unit) × ((Int × Int × Int × Int × Int × Int × Int × Bool × Int × Bool × Unit × Unit × Unit) × (Int × Int × Int × Int × Int × Int × Int × Bool × Int × Bool × Unit × Unit × Unit) × ((List Int) × Int × Int × Unit) × (List (Int × Int × Unit)) × (List Int) × Unit)) := lpF (E_spec_l11Draw n) [51] k_spec_l11Draw_2 70 (sub (bodyOf Tryd.f17) [1, 1, 1, 1, 1, 1, 1, 0, 1, 0, 0]) .z (kBlock 0 (kCut [51] k_spec_l11Draw_1)) m x
theorem r_spec_l11Draw_0 (n m : Nat) (n_95 : Int) (i_96 : Int) (f0_97 : List Int) (f1_98 : Int) (f2_99 : Int) (f0_100 : Int) (f1_101 : Int) (f2_102 : Int) (f3_103 : Int) (f4_104 : Int) (f5_105 : Int) (f6_106 : Int) (f7_107 : Bool) (f8_108 : Int) (f9_109 : Bool) (f0_110 : Int) (f1_111 : Int) (f2_112 : Int) (f3_113 : Int) (f4_114 : Int) (f5_115 : Int) (f6_116 : Int) (f7_117 : Bool) (f8_118 : Int) (f9_119 : Bool) (a_120 : List (Int × Int × Unit)) (a_121 : List Int) :
    rnd (E_spec_l11Draw n) [51] k_spec_l11Draw_2 70 (sub (bodyOf Tryd.f17) [1, 1, 1, 1, 1, 1, 1, 0, 1, 0, 0]) .z (kBlock 0 (kCut [51] k_spec_l11Draw_1)) (fun x => l_spec_l11Draw_0 n m x.1.2.2.2.1 x.1.2.2.2.2.1 x.2.1.1 x.2.1.2.1 x.2.1.2.2.1 x.2.2.1.1 x.2.2.1.2.1 x.2.2.1.2.2.1 x.2.2.1.2.2.2.1 x.2.2.1.2.2.2.2.1 x.2.2.1.2.2.2.2.2.1 x.2.2.1.2.2.2.2.2.2.1 x.2.2.1.2.2.2.2.2.2.2.1 x.2.2.1.2.2.2.2.2.2.2.2.1 x.2.2.1.2.2.2.2.2.2.2.2.2.1 x.2.2.2.1.1 x.2.2.2.1.2.1 x.2.2.2.1.2.2.1 x.2.2.2.1.2.2.2.1 x.2.2.2.1.2.2.2.2.1 x.2.2.2.1.2.2.2.2.2.1 x.2.2.2.1.2.2.2.2.2.2.1 x.2.2.2.1.2.2.2.2.2.2.2.1 x.2.2.2.1.2.2.2.2.2.2.2.2.1 x.2.2.2.1.2.2.2.2.2.2.2.2.2.1 x.2.2.2.2.1 x.2.2.2.2.2.1) (((), (), (), n_95, i_96, ()), ((f0_97, f1_98, f2_99, ()), (f0_100, f1_101, f2_102, f3_103, f4_104, f5_105, f6_106, f7_107, f8_108, f9_109, (), (), ()), (f0_110, f1_111, f2_112, f3_113, f4_114, f5_115, f6_116, f7_117, f8_118, f9_119, (), (), ()), a_120, a_121, ()))
      = l_spec_l11Draw_0 n (m + 1) n_95 i_96 f0_97 f1_98 f2_99 f0_100 f1_101 f2_102 f3_103 f4_104 f5_105 f6_106 f7_107 f8_108 f9_109 f0_110 f1_111 f2_112 f3_113 f4_114 f5_115 f6_116 f7_117 f8_118 f9_119 a_120 a_121 := by kernel_rfl
theorem lp_spec_l11Draw_0 (n : Nat) : ∀ (m : Nat) (x : Tm.T k_spec_l11Draw_2), b_spec_l11Draw_0 n m x = l_spec_l11Draw_0 n m x.1.2.2.2.1 x.1.2.2.2.2.1 x.2.1.1 x.2.1.2.1 x.2.1.2.2.1 x.2.2.1.1 x.2.2.1.2.1 x.2.2.1.2.2.1 x.2.2.1.2.2.2.1 x.2.2.1.2.2.2.2.1 x.2.2.1.2.2.2.2.2.1 x.2.2.1.2.2.2.2.2.2.1 x.2.2.1.2.2.2.2.2.2.2.1 x.2.2.1.2.2.2.2.2.2.2.2.1 x.2.2.1.2.2.2.2.2.2.2.2.2.1 x.2.2.2.1.1 x.2.2.2.1.2.1 x.2.2.2.1.2.2.1 x.2.2.2.1.2.2.2.1 x.2.2.2.1.2.2.2.2.1 x.2.2.2.1.2.2.2.2.2.1 x.2.2.2.1.2.2.2.2.2.2.1 x.2.2.2.1.2.2.2.2.2.2.2.1 x.2.2.2.1.2.2.2.2.2.2.2.2.1 x.2.2.2.1.2.2.2.2.2.2.2.2.2.1 x.2.2.2.2.1 x.2.2.2.2.2.1
  | 0, _ => rfl
  | m + 1, x => by
    unfold b_spec_l11Draw_0
    rw [lpF_succ]
    have ih : lpF (E_spec_l11Draw n) [51] k_spec_l11Draw_2 70 (sub (bodyOf Tryd.f17) [1, 1, 1, 1, 1, 1, 1, 0, 1, 0, 0]) .z (kBlock 0 (kCut [51] k_spec_l11Draw_1)) m = (fun x => l_spec_l11Draw_0 n m x.1.2.2.2.1 x.1.2.2.2.2.1 x.2.1.1 x.2.1.2.1 x.2.1.2.2.1 x.2.2.1.1 x.2.2.1.2.1 x.2.2.1.2.2.1 x.2.2.1.2.2.2.1 x.2.2.1.2.2.2.2.1 x.2.2.1.2.2.2.2.2.1 x.2.2.1.2.2.2.2.2.2.1 x.2.2.1.2.2.2.2.2.2.2.1 x.2.2.1.2.2.2.2.2.2.2.2.1 x.2.2.1.2.2.2.2.2.2.2.2.2.1 x.2.2.2.1.1 x.2.2.2.1.2.1 x.2.2.2.1.2.2.1 x.2.2.2.1.2.2.2.1 x.2.2.2.1.2.2.2.2.1 x.2.2.2.1.2.2.2.2.2.1 x.2.2.2.1.2.2.2.2.2.2.1 x.2.2.2.1.2.2.2.2.2.2.2.1 x.2.2.2.1.2.2.2.2.2.2.2.2.1 x.2.2.2.1.2.2.2.2.2.2.2.2.2.1 x.2.2.2.2.1 x.2.2.2.2.2.1) := funext fun x => lp_spec_l11Draw_0 n m x
    rw [ih]
    exact r_spec_l11Draw_0 n m x.1.2.2.2.1 x.1.2.2.2.2.1 x.2.1.1 x.2.1.2.1 x.2.1.2.2.1 x.2.2.1.1 x.2.2.1.2.1 x.2.2.1.2.2.1 x.2.2.1.2.2.2.1 x.2.2.1.2.2.2.2.1 x.2.2.1.2.2.2.2.2.1 x.2.2.1.2.2.2.2.2.2.1 x.2.2.1.2.2.2.2.2.2.2.1 x.2.2.1.2.2.2.2.2.2.2.2.1 x.2.2.1.2.2.2.2.2.2.2.2.2.1 x.2.2.2.1.1 x.2.2.2.1.2.1 x.2.2.2.1.2.2.1 x.2.2.2.1.2.2.2.1 x.2.2.2.1.2.2.2.2.1 x.2.2.2.1.2.2.2.2.2.1 x.2.2.2.1.2.2.2.2.2.2.1 x.2.2.2.1.2.2.2.2.2.2.2.1 x.2.2.2.1.2.2.2.2.2.2.2.2.1 x.2.2.2.1.2.2.2.2.2.2.2.2.2.1 x.2.2.2.2.1 x.2.2.2.2.2.1
abbrev k_spec_l11Draw_3 : Tm := ⟨[(0, (.ptr 51)), (4, (.ptr 4)), (5, (.ptr 5))], [(51, (.box [(.ro (.int .u8)), (.int .i64), (.int .u64)])), (4, (.box [(.int .i64), (.int .i64), (.int .i64), (.int .i64), (.int .i64), (.int .i64), (.int .i64), .bool, (.int .i64), .bool, .nilsl, .nilsl])), (5, (.box [(.int .i64), (.int .i64), (.int .i64), (.int .i64), (.int .i64), (.int .i64), (.int .i64), .bool, (.int .i64), .bool, .nilsl, (.own 2029)])), (2029, (.arr (.int .u8)))]⟩
theorem e_spec_l11Draw (n : Nat) (most_1 : Int) (code_2 : List Int) (pos_3 : Int) (state_4 : Int) :
    evalFn (E_spec_l11Draw n) Tryd.f17 k_spec_l11Draw_0 (.agg [(.int .i64), (.int .i64), (.int .i64), (.int .i64), (.int .i64), (.int .i64), (.int .i64), .bool, (.int .i64), .bool, (.own 1), (.own 2)]) [(1, (.arr (.pair (.int .i64) (.pair (.int .i64) .unit)))), (2, (.arr (.int .u8))), (51, (.box [(.ro (.int .u8)), (.int .i64), (.int .u64)]))] (.two .z (.two .z (.two (.two .z (.cut k_spec_l11Draw_3 .z)) (.two (.two .z (.cut k_spec_l11Draw_3 .z)) (.two (.two .z (.cut k_spec_l11Draw_3 .z)) (.two .z (.two .z (.two (.two .z (.cut k_spec_l11Draw_1 (.one (.loop k_spec_l11Draw_2 .z)))) .z)))))))) (((), most_1, ()), ((code_2, pos_3, state_4, ()), ()))
      = g_spec_l11Draw n most_1 code_2 pos_3 state_4 := by
  refine Eq.trans (b := t_spec_l11Draw n (fun a0 a1 a2 a3 a4 a5 a6 a7 a8 a9 a10 a11 a12 a13 a14 a15 a16 a17 a18 a19 a20 a21 a22 a23 a24 a25 a26 => b_spec_l11Draw_0 n n (((), (), (), a0, a1, ()), ((a2, a3, a4, ()), (a5, a6, a7, a8, a9, a10, a11, a12, a13, a14, (), (), ()), (a15, a16, a17, a18, a19, a20, a21, a22, a23, a24, (), (), ()), a25, a26, ()))) most_1 code_2 pos_3 state_4) (by kernel_rfl) ?_
  have e0 : (fun a0 a1 a2 a3 a4 a5 a6 a7 a8 a9 a10 a11 a12 a13 a14 a15 a16 a17 a18 a19 a20 a21 a22 a23 a24 a25 a26 => b_spec_l11Draw_0 n n (((), (), (), a0, a1, ()), ((a2, a3, a4, ()), (a5, a6, a7, a8, a9, a10, a11, a12, a13, a14, (), (), ()), (a15, a16, a17, a18, a19, a20, a21, a22, a23, a24, (), (), ()), a25, a26, ()))) = l_spec_l11Draw_0 n n := by funext a0 a1 a2 a3 a4 a5 a6 a7 a8 a9 a10 a11 a12 a13 a14 a15 a16 a17 a18 a19 a20 a21 a22 a23 a24 a25 a26; exact lp_spec_l11Draw_0 n n _
  rw [e0]
  rfl
theorem S_spec_l11Draw {gl : List (Nat × Obj)} : Sat Tryd.prog gl 17 c_spec_l11Draw :=
  sat_eval Tryd.func17 ⟨_, Tryd.func17, by kernel_rfl, by kernel_rfl⟩ (ct_cons S_spec_l01Next (ct_cons S_spec_l01Bool (ct_cons S_spec_l01Seq (ct_cons S_spec_l01Bytes (fun _ _ h => by cases h))))) (fun n x y h => ⟨n, [], (e_spec_l11Draw n x.1.2.1 x.2.1.1 x.2.1.2.1 x.2.1.2.2.1).trans h⟩)

/-! loop.example/g00003/spec.l11Bend -/
abbrev k_spec_l11Bend_0 : Tm := ⟨[(0, (.ptr 51)), (1, (.agg [(.int .i64), (.int .i64), (.int .i64), (.int .i64), (.int .i64), (.int .i64), (.int .i64), .bool, (.int .i64), .bool, (.own 11), (.ro (.int .u8))]))], [(51, (.box [(.ro (.int .u8)), (.int .i64), (.int .u64)])), (11, (.arr (.pair (.int .i64) (.pair (.int .i64) .unit))))]⟩
noncomputable def c_spec_l11Bend : Con := ⟨k_spec_l11Bend_0, (.agg [(.int .i64), (.int .i64), (.int .i64), (.int .i64), (.int .i64), (.int .i64), (.int .i64), .bool, (.int .i64), .bool, (.own 1), (.ro (.int .u8))]), [(1, (.arr (.pair (.int .i64) (.pair (.int .i64) .unit)))), (51, (.box [(.ro (.int .u8)), (.int .i64), (.int .u64)]))], fun n x => g_spec_l11Bend n x.1.2.1.1 x.1.2.1.2.1 x.1.2.1.2.2.1 x.1.2.1.2.2.2.1 x.1.2.1.2.2.2.2.1 x.1.2.1.2.2.2.2.2.1 x.1.2.1.2.2.2.2.2.2.1 x.1.2.1.2.2.2.2.2.2.2.1 x.1.2.1.2.2.2.2.2.2.2.2.1 x.1.2.1.2.2.2.2.2.2.2.2.2.1 x.1.2.1.2.2.2.2.2.2.2.2.2.2.2.1 x.2.1.1 x.2.1.2.1 x.2.1.2.2.1 x.2.2.1⟩
noncomputable def ct_spec_l11Bend : List (Nat × Con) := [(18, c_spec_l01Next)]
noncomputable def E_spec_l11Bend (n : Nat) : Env := { P := Tryd.prog, ct := ct_spec_l11Bend, fuel := n }
theorem e_spec_l11Bend (n : Nat) (g_1 : Int) (g_2 : Int) (g_3 : Int) (g_4 : Int) (g_5 : Int) (g_6 : Int) (g_7 : Int) (g_8 : Bool) (g_9 : Int) (g_10 : Bool) (g_11 : List Int) (code_12 : List Int) (pos_13 : Int) (state_14 : Int) (a_15 : List (Int × Int × Unit)) :
    evalFn (E_spec_l11Bend n) Tryd.f16 k_spec_l11Bend_0 (.agg [(.int .i64), (.int .i64), (.int .i64), (.int .i64), (.int .i64), (.int .i64), (.int .i64), .bool, (.int .i64), .bool, (.own 1), (.ro (.int .u8))]) [(1, (.arr (.pair (.int .i64) (.pair (.int .i64) .unit)))), (51, (.box [(.ro (.int .u8)), (.int .i64), (.int .u64)]))] .z (((), (g_1, g_2, g_3, g_4, g_5, g_6, g_7, g_8, g_9, g_10, (), g_11, ()), ()), ((code_12, pos_13, state_14, ()), a_15, ()))
      = g_spec_l11Bend n g_1 g_2 g_3 g_4 g_5 g_6 g_7 g_8 g_9 g_10 g_11 code_12 pos_13 state_14 a_15 := by kernel_rfl
theorem S_spec_l11Bend {gl : List (Nat × Obj)} : Sat Tryd.prog gl 16 c_spec_l11Bend :=
  sat_eval Tryd.func16 ⟨_, Tryd.func16, by kernel_rfl, by kernel_rfl⟩ (ct_cons S_spec_l01Next (fun _ _ h => by cases h)) (fun n x y h => ⟨n, [], (e_spec_l11Bend n x.1.2.1.1 x.1.2.1.2.1 x.1.2.1.2.2.1 x.1.2.1.2.2.2.1 x.1.2.1.2.2.2.2.1 x.1.2.1.2.2.2.2.2.1 x.1.2.1.2.2.2.2.2.2.1 x.1.2.1.2.2.2.2.2.2.2.1 x.1.2.1.2.2.2.2.2.2.2.2.1 x.1.2.1.2.2.2.2.2.2.2.2.2.1 x.1.2.1.2.2.2.2.2.2.2.2.2.2.2.1 x.2.1.1 x.2.1.2.1 x.2.1.2.2.1 x.2.2.1).trans h⟩)

/-! loop.example/g00003/spec.DrawShowSegment -/
abbrev k_spec_DrawShowSegment_0 : Tm := ⟨[(0, (.ro (.int .u8)))], []⟩
noncomputable def c_spec_DrawShowSegment : Con := ⟨k_spec_DrawShowSegment_0, (.agg [(.int .i64), (.int .i64), (.int .i64), (.int .i64), (.int .i64), (.int .i64), (.int .i64), .bool, (.int .i64), .bool, (.own 1), (.ro (.int .u8))]), [(1, (.arr (.pair (.int .i64) (.pair (.int .i64) .unit))))], fun n x => g_spec_DrawShowSegment n x.1.1⟩
noncomputable def ct_spec_DrawShowSegment : List (Nat × Con) := [(15, c_spec_l01Begin), (16, c_spec_l11Bend), (17, c_spec_l11Draw), (18, c_spec_l01Next)]
noncomputable def E_spec_DrawShowSegment (n : Nat) : Env := { P := Tryd.prog, ct := ct_spec_DrawShowSegment, fuel := n }
theorem e_spec_DrawShowSegment (n : Nat) (code_1 : List Int) :
    evalFn (E_spec_DrawShowSegment n) Tryd.f5 k_spec_DrawShowSegment_0 (.agg [(.int .i64), (.int .i64), (.int .i64), (.int .i64), (.int .i64), (.int .i64), (.int .i64), .bool, (.int .i64), .bool, (.own 1), (.ro (.int .u8))]) [(1, (.arr (.pair (.int .i64) (.pair (.int .i64) .unit))))] .z ((code_1, ()), ())
      = g_spec_DrawShowSegment n code_1 := by kernel_rfl
theorem S_spec_DrawShowSegment {gl : List (Nat × Obj)} : Sat Tryd.prog gl 5 c_spec_DrawShowSegment :=
  sat_eval Tryd.func5 ⟨_, Tryd.func5, by kernel_rfl, by kernel_rfl⟩ (ct_cons S_spec_l01Begin (ct_cons S_spec_l11Bend (ct_cons S_spec_l11Draw (ct_cons S_spec_l01Next (fun _ _ h => by cases h))))) (fun n x y h => ⟨n, [], (e_spec_DrawShowSegment n x.1.1).trans h⟩)

/-! loop.example/g00003/impl.isPort -/
abbrev k_impl_isPort_0 : Tm := ⟨[(0, (.int .i64))], []⟩
noncomputable def c_impl_isPort : Con := ⟨k_impl_isPort_0, .bool, [], fun n x => g_impl_isPort n x.1.1⟩
noncomputable def ct_impl_isPort : List (Nat × Con) := []
noncomputable def E_impl_isPort (n : Nat) : Env := { P := Tryd.prog, ct := ct_impl_isPort, fuel := n }
theorem e_impl_isPort (n : Nat) (n_1 : Int) :
    evalFn (E_impl_isPort n) Tryd.f53 k_impl_isPort_0 .bool [] .z ((n_1, ()), ())
      = g_impl_isPort n n_1 := by kernel_rfl
theorem S_impl_isPort {gl : List (Nat × Obj)} : Sat Tryd.prog gl 53 c_impl_isPort :=
  sat_eval Tryd.func53 ⟨_, Tryd.func53, by kernel_rfl, by kernel_rfl⟩ (fun _ _ h => by cases h) (fun n x y h => ⟨n, [], (e_impl_isPort n x.1.1).trans h⟩)

/-! loop.example/g00003/impl.isSeq -/
abbrev k_impl_isSeq_0 : Tm := ⟨[(0, (.int .i64))], []⟩
noncomputable def c_impl_isSeq : Con := ⟨k_impl_isSeq_0, .bool, [], fun n x => g_impl_isSeq n x.1.1⟩
noncomputable def ct_impl_isSeq : List (Nat × Con) := []
noncomputable def E_impl_isSeq (n : Nat) : Env := { P := Tryd.prog, ct := ct_impl_isSeq, fuel := n }
theorem e_impl_isSeq (n : Nat) (n_1 : Int) :
    evalFn (E_impl_isSeq n) Tryd.f54 k_impl_isSeq_0 .bool [] .z ((n_1, ()), ())
      = g_impl_isSeq n n_1 := by kernel_rfl
theorem S_impl_isSeq {gl : List (Nat × Obj)} : Sat Tryd.prog gl 54 c_impl_isSeq :=
  sat_eval Tryd.func54 ⟨_, Tryd.func54, by kernel_rfl, by kernel_rfl⟩ (fun _ _ h => by cases h) (fun n x y h => ⟨n, [], (e_impl_isSeq n x.1.1).trans h⟩)

/-! loop.example/g00003/impl.okSegment -/
abbrev k_impl_okSegment_0 : Tm := ⟨[(0, (.agg [(.int .i64), (.int .i64), (.int .i64), (.int .i64), (.int .i64), (.int .i64), (.int .i64), .bool, (.int .i64), .bool, (.ro (.pair (.int .i64) (.pair (.int .i64) .unit))), (.ro (.int .u8))]))], []⟩
noncomputable def c_impl_okSegment : Con := ⟨k_impl_okSegment_0, .bool, [], fun n x => g_impl_okSegment n x.1.1.1 x.1.1.2.1 x.1.1.2.2.1 x.1.1.2.2.2.1 x.1.1.2.2.2.2.1 x.1.1.2.2.2.2.2.1 x.1.1.2.2.2.2.2.2.1 x.1.1.2.2.2.2.2.2.2.1 x.1.1.2.2.2.2.2.2.2.2.1 x.1.1.2.2.2.2.2.2.2.2.2.1 x.1.1.2.2.2.2.2.2.2.2.2.2.1 x.1.1.2.2.2.2.2.2.2.2.2.2.2.1⟩
noncomputable def ct_impl_okSegment : List (Nat × Con) := [(53, c_impl_isPort), (54, c_impl_isSeq)]
noncomputable def E_impl_okSegment (n : Nat) : Env := { P := Tryd.prog, ct := ct_impl_okSegment, fuel := n }
abbrev k_impl_okSegment_1 : Tm := ⟨[(76, (.ro (.pair (.int .i64) (.pair (.int .i64) .unit)))), (77, (.int .i64)), (78, (.int .i64))], []⟩
noncomputable def b_impl_okSegment_0 (n m : Nat) (x : Tm.T k_impl_okSegment_1) : Option ((Bool) × (Unit) ⊕ ((Unit) × (Unit))) := lpF (E_impl_okSegment n) [] k_impl_okSegment_1 93 (sub (bodyOf Tryd.f19) [1, 1, 0, 1, 0, 0]) .z (kBlock 0 (kCutr [] ⟨[], []⟩ (kFinR (E_impl_okSegment n) Tryd.f19 .bool []))) m x
theorem r_impl_okSegment_0 (n m : Nat) (t_48 : List (Int × Int × Unit)) (t_49 : Int) (t_50 : Int) :
    rnd (E_impl_okSegment n) [] k_impl_okSegment_1 93 (sub (bodyOf Tryd.f19) [1, 1, 0, 1, 0, 0]) .z (kBlock 0 (kCutr [] ⟨[], []⟩ (kFinR (E_impl_okSegment n) Tryd.f19 .bool []))) (fun x => l_impl_okSegment_0 n m x.1.1 x.1.2.1 x.1.2.2.1) ((t_48, t_49, t_50, ()), ())
      = l_impl_okSegment_0 n (m + 1) t_48 t_49 t_50 := by kernel_rfl
theorem lp_impl_okSegment_0 (n : Nat) : ∀ (m : Nat) (x : Tm.T k_impl_okSegment_1), b_impl_okSegment_0 n m x = l_impl_okSegment_0 n m x.1.1 x.1.2.1 x.1.2.2.1
  | 0, _ => rfl
  | m + 1, x => by
    unfold b_impl_okSegment_0
    rw [lpF_succ]
    have ih : lpF (E_impl_okSegment n) [] k_impl_okSegment_1 93 (sub (bodyOf Tryd.f19) [1, 1, 0, 1, 0, 0]) .z (kBlock 0 (kCutr [] ⟨[], []⟩ (kFinR (E_impl_okSegment n) Tryd.f19 .bool []))) m = (fun x => l_impl_okSegment_0 n m x.1.1 x.1.2.1 x.1.2.2.1) := funext fun x => lp_impl_okSegment_0 n m x
    rw [ih]
    exact r_impl_okSegment_0 n m x.1.1 x.1.2.1 x.1.2.2.1
abbrev k_impl_okSegment_2 : Tm := ⟨[(1, (.ptr 1)), (74, .bool)], [(1, (.box [(.int .i64), (.int .i64), (.int .i64), (.int .i64), (.int .i64), (.int .i64), (.int .i64), .bool, (.int .i64), .bool, (.ro (.pair (.int .i64) (.pair (.int .i64) .unit))), (.ro (.int .u8))]))]⟩
theorem e_impl_okSegment (n : Nat) (s_1 : Int) (s_2 : Int) (s_3 : Int) (s_4 : Int) (s_5 : Int) (s_6 : Int) (s_7 : Int) (s_8 : Bool) (s_9 : Int) (s_10 : Bool) (s_11 : List (Int × Int × Unit)) (s_12 : List Int) :
    evalFn (E_impl_okSegment n) Tryd.f19 k_impl_okSegment_0 .bool [] (.two .z (.two (.two (.cut k_impl_okSegment_2 .z) .z) (.two (.two .z (.cutr ⟨[], []⟩ (.one (.loop k_impl_okSegment_1 .z)))) .z))) (((s_1, s_2, s_3, s_4, s_5, s_6, s_7, s_8, s_9, s_10, s_11, s_12, ()), ()), ())
      = g_impl_okSegment n s_1 s_2 s_3 s_4 s_5 s_6 s_7 s_8 s_9 s_10 s_11 s_12 := by
  refine Eq.trans (b := t_impl_okSegment n (fun a0 a1 a2 => b_impl_okSegment_0 n n ((a0, a1, a2, ()), ())) s_1 s_2 s_3 s_4 s_5 s_6 s_7 s_8 s_9 s_10 s_11 s_12) (by kernel_rfl) ?_
  have e0 : (fun a0 a1 a2 => b_impl_okSegment_0 n n ((a0, a1, a2, ()), ())) = l_impl_okSegment_0 n n := by funext a0 a1 a2; exact lp_impl_okSegment_0 n n _
  rw [e0]
  rfl
theorem S_impl_okSegment {gl : List (Nat × Obj)} : Sat Tryd.prog gl 19 c_impl_okSegment :=
  sat_eval Tryd.func19 ⟨_, Tryd.func19, by kernel_rfl, by kernel_rfl⟩ (ct_cons S_impl_isPort (ct_cons S_impl_isSeq (fun _ _ h => by cases h))) (fun n x y h => ⟨n, [], (e_impl_okSegment n x.1.1.1 x.1.1.2.1 x.1.1.2.2.1 x.1.1.2.2.2.1 x.1.1.2.2.2.2.1 x.1.1.2.2.2.2.2.1 x.1.1.2.2.2.2.2.2.1 x.1.1.2.2.2.2.2.2.2.1 x.1.1.2.2.2.2.2.2.2.2.1 x.1.1.2.2.2.2.2.2.2.2.2.1 x.1.1.2.2.2.2.2.2.2.2.2.2.1 x.1.1.2.2.2.2.2.2.2.2.2.2.2.1).trans h⟩)

/-! loop.example/g00003/impl.num -/
abbrev k_impl_num_0 : Tm := ⟨[(0, (.int .i64))], []⟩
noncomputable def c_impl_num : Con := ⟨k_impl_num_0, .str, [], fun n x => g_impl_num n x.1.1⟩
noncomputable def ct_impl_num : List (Nat × Con) := [(55, c_strconv_FormatInt)]
noncomputable def E_impl_num (n : Nat) : Env := { P := Tryd.prog, ct := ct_impl_num, fuel := n }
theorem e_impl_num (n : Nat) (n_1 : Int) :
    evalFn (E_impl_num n) Tryd.f20 k_impl_num_0 .str [] .z ((n_1, ()), ())
      = g_impl_num n n_1 := by kernel_rfl
theorem S_impl_num {gl : List (Nat × Obj)} (hL : LibG gl) : Sat Tryd.prog gl 20 c_impl_num :=
  sat_eval Tryd.func20 ⟨_, Tryd.func20, by kernel_rfl, by kernel_rfl⟩ (ct_cons (S_strconv_FormatInt hL) (fun _ _ h => by cases h)) (fun n x y h => ⟨n, [], (e_impl_num n x.1.1).trans h⟩)

/-! loop.example/g00003/impl.ShowSegment -/
abbrev k_impl_ShowSegment_0 : Tm := ⟨[(0, (.agg [(.int .i64), (.int .i64), (.int .i64), (.int .i64), (.int .i64), (.int .i64), (.int .i64), .bool, (.int .i64), .bool, (.ro (.pair (.int .i64) (.pair (.int .i64) .unit))), (.ro (.int .u8))]))], []⟩
noncomputable def c_impl_ShowSegment : Con := ⟨k_impl_ShowSegment_0, (.tup [.str, (.int .i64)]), [], fun n x => g_impl_ShowSegment n x.1.1.1 x.1.1.2.1 x.1.1.2.2.1 x.1.1.2.2.2.1 x.1.1.2.2.2.2.1 x.1.1.2.2.2.2.2.1 x.1.1.2.2.2.2.2.2.1 x.1.1.2.2.2.2.2.2.2.1 x.1.1.2.2.2.2.2.2.2.2.1 x.1.1.2.2.2.2.2.2.2.2.2.1 x.1.1.2.2.2.2.2.2.2.2.2.2.1 x.1.1.2.2.2.2.2.2.2.2.2.2.2.1⟩
noncomputable def ct_impl_ShowSegment : List (Nat × Con) := [(19, c_impl_okSegment), (20, c_impl_num), (21, c_encoding_hex_EncodeToString), (22, c_strings_Join)]
noncomputable def E_impl_ShowSegment (n : Nat) : Env := { P := Tryd.prog, ct := ct_impl_ShowSegment, fuel := n }
abbrev k_impl_ShowSegment_1 : Tm := ⟨[(1, (.ptr 1)), (4, .str)], [(1, (.box [(.int .i64), (.int .i64), (.int .i64), (.int .i64), (.int .i64), (.int .i64), (.int .i64), .bool, (.int .i64), .bool, (.ro (.pair (.int .i64) (.pair (.int .i64) .unit))), (.ro (.int .u8))]))]⟩
abbrev k_impl_ShowSegment_2 : Tm := ⟨[(1, (.ptr 1)), (4, .str), (19, (.own 19)), (20, (.int .i64)), (21, (.int .i64))], [(1, (.box [(.int .i64), (.int .i64), (.int .i64), (.int .i64), (.int .i64), (.int .i64), (.int .i64), .bool, (.int .i64), .bool, (.ro (.pair (.int .i64) (.pair (.int .i64) .unit))), (.ro (.int .u8))])), (19, (.arr (.int .i64)))]⟩
abbrev k_impl_ShowSegment_3 : Tm := ⟨[(1, (.ptr 1)), (7, (.own 58))], [(1, (.box [(.int .i64), (.int .i64), (.int .i64), (.int .i64), (.int .i64), (.int .i64), (.int .i64), .bool, (.int .i64), .bool, (.ro (.pair (.int .i64) (.pair (.int .i64) .unit))), (.ro (.int .u8))])), (58, (.arr .str))]⟩
abbrev k_impl_ShowSegment_4 : Tm := ⟨[(1, (.ptr 1)), (7, (.own 58)), (82, (.ro (.pair (.int .i64) (.pair (.int .i64) .unit)))), (83, (.int .i64)), (84, (.int .i64))], [(1, (.box [(.int .i64), (.int .i64), (.int .i64), (.int .i64), (.int .i64), (.int .i64), (.int .i64), .bool, (.int .i64), .bool, (.ro (.pair (.int .i64) (.pair (.int .i64) .unit))), (.ro (.int .u8))])), (58, (.arr .str))]⟩
noncomputable def b_impl_ShowSegment_0 (n m : Nat) (x : Tm.T k_impl_ShowSegment_2) : Option ((Unit × (List Int) × Unit) × ((Int × Int × Int × Int × Int × Int × Int × Bool × Int × Bool × (List (Int × Int × Unit)) × (List Int) × Unit) × Unit)) := lpF (E_impl_ShowSegment n) [] k_impl_ShowSegment_2 112 (sub (bodyOf Tryd.f6) [1, 1, 1, 0, 1, 0, 0]) .z (kBlock 0 (kCut [] k_impl_ShowSegment_1)) m x
theorem r_impl_ShowSegment_0 (n m : Nat) (f_44 : List Int) (t_45 : Int) (t_46 : Int) (f0_47 : Int) (f1_48 : Int) (f2_49 : Int) (f3_50 : Int) (f4_51 : Int) (f5_52 : Int) (f6_53 : Int) (f7_54 : Bool) (f8_55 : Int) (f9_56 : Bool) (f10_57 : List (Int × Int × Unit)) (f11_58 : List Int) (a_59 : List Int) :
    rnd (E_impl_ShowSegment n) [] k_impl_ShowSegment_2 112 (sub (bodyOf Tryd.f6) [1, 1, 1, 0, 1, 0, 0]) .z (kBlock 0 (kCut [] k_impl_ShowSegment_1)) (fun x => l_impl_ShowSegment_0 n m x.1.2.1 x.1.2.2.2.1 x.1.2.2.2.2.1 x.2.1.1 x.2.1.2.1 x.2.1.2.2.1 x.2.1.2.2.2.1 x.2.1.2.2.2.2.1 x.2.1.2.2.2.2.2.1 x.2.1.2.2.2.2.2.2.1 x.2.1.2.2.2.2.2.2.2.1 x.2.1.2.2.2.2.2.2.2.2.1 x.2.1.2.2.2.2.2.2.2.2.2.1 x.2.1.2.2.2.2.2.2.2.2.2.2.1 x.2.1.2.2.2.2.2.2.2.2.2.2.2.1 x.2.2.1) (((), f_44, (), t_45, t_46, ()), ((f0_47, f1_48, f2_49, f3_50, f4_51, f5_52, f6_53, f7_54, f8_55, f9_56, f10_57, f11_58, ()), a_59, ()))
      = l_impl_ShowSegment_0 n (m + 1) f_44 t_45 t_46 f0_47 f1_48 f2_49 f3_50 f4_51 f5_52 f6_53 f7_54 f8_55 f9_56 f10_57 f11_58 a_59 := by kernel_rfl
theorem lp_impl_ShowSegment_0 (n : Nat) : ∀ (m : Nat) (x : Tm.T k_impl_ShowSegment_2), b_impl_ShowSegment_0 n m x = l_impl_ShowSegment_0 n m x.1.2.1 x.1.2.2.2.1 x.1.2.2.2.2.1 x.2.1.1 x.2.1.2.1 x.2.1.2.2.1 x.2.1.2.2.2.1 x.2.1.2.2.2.2.1 x.2.1.2.2.2.2.2.1 x.2.1.2.2.2.2.2.2.1 x.2.1.2.2.2.2.2.2.2.1 x.2.1.2.2.2.2.2.2.2.2.1 x.2.1.2.2.2.2.2.2.2.2.2.1 x.2.1.2.2.2.2.2.2.2.2.2.2.1 x.2.1.2.2.2.2.2.2.2.2.2.2.2.1 x.2.2.1
  | 0, _ => rfl
  | m + 1, x => by
    unfold b_impl_ShowSegment_0
    rw [lpF_succ]
    have ih : lpF (E_impl_ShowSegment n) [] k_impl_ShowSegment_2 112 (sub (bodyOf Tryd.f6) [1, 1, 1, 0, 1, 0, 0]) .z (kBlock 0 (kCut [] k_impl_ShowSegment_1)) m = (fun x => l_impl_ShowSegment_0 n m x.1.2.1 x.1.2.2.2.1 x.1.2.2.2.2.1 x.2.1.1 x.2.1.2.1 x.2.1.2.2.1 x.2.1.2.2.2.1 x.2.1.2.2.2.2.1 x.2.1.2.2.2.2.2.1 x.2.1.2.2.2.2.2.2.1 x.2.1.2.2.2.2.2.2.2.1 x.2.1.2.2.2.2.2.2.2.2.1 x.2.1.2.2.2.2.2.2.2.2.2.1 x.2.1.2.2.2.2.2.2.2.2.2.2.1 x.2.1.2.2.2.2.2.2.2.2.2.2.2.1 x.2.2.1) := funext fun x => lp_impl_ShowSegment_0 n m x
    rw [ih]
    exact r_impl_ShowSegment_0 n m x.1.2.1 x.1.2.2.2.1 x.1.2.2.2.2.1 x.2.1.1 x.2.1.2.1 x.2.1.2.2.1 x.2.1.2.2.2.1 x.2.1.2.2.2.2.1 x.2.1.2.2.2.2.2.1 x.2.1.2.2.2.2.2.2.1 x.2.1.2.2.2.2.2.2.2.1 x.2.1.2.2.2.2.2.2.2.2.1 x.2.1.2.2.2.2.2.2.2.2.2.1 x.2.1.2.2.2.2.2.2.2.2.2.2.1 x.2.1.2.2.2.2.2.2.2.2.2.2.2.1 x.2.2.1
noncomputable def b_impl_ShowSegment_1 (n m : Nat) (x : Tm.T k_impl_ShowSegment_4) : Option ((Unit × Unit × Unit) × ((Int × Int × Int × Int × Int × Int × Int × Bool × Int × Bool × (List (Int × Int × Unit)) × (List Int) × Unit) × (List (List Int)) × Unit)) := lpF (E_impl_ShowSegment n) [] k_impl_ShowSegment_4 112 (sub (bodyOf Tryd.f6) [1, 1, 1, 1, 1, 1, 1, 1, 1, 0, 1, 0, 0]) .z (kBlock 2 (kCut [] k_impl_ShowSegment_3)) m x
theorem r_impl_ShowSegment_1 (n m : Nat) (t_118 : List (Int × Int × Unit)) (t_119 : Int) (t_120 : Int) (f0_121 : Int) (f1_122 : Int) (f2_123 : Int) (f3_124 : Int) (f4_125 : Int) (f5_126 : Int) (f6_127 : Int) (f7_128 : Bool) (f8_129 : Int) (f9_130 : Bool) (f10_131 : List (Int × Int × Unit)) (f11_132 : List Int) (a_133 : List (List Int)) :
    rnd (E_impl_ShowSegment n) [] k_impl_ShowSegment_4 112 (sub (bodyOf Tryd.f6) [1, 1, 1, 1, 1, 1, 1, 1, 1, 0, 1, 0, 0]) .z (kBlock 2 (kCut [] k_impl_ShowSegment_3)) (fun x => l_impl_ShowSegment_1 n m x.1.2.2.1 x.1.2.2.2.1 x.1.2.2.2.2.1 x.2.1.1 x.2.1.2.1 x.2.1.2.2.1 x.2.1.2.2.2.1 x.2.1.2.2.2.2.1 x.2.1.2.2.2.2.2.1 x.2.1.2.2.2.2.2.2.1 x.2.1.2.2.2.2.2.2.2.1 x.2.1.2.2.2.2.2.2.2.2.1 x.2.1.2.2.2.2.2.2.2.2.2.1 x.2.1.2.2.2.2.2.2.2.2.2.2.1 x.2.1.2.2.2.2.2.2.2.2.2.2.2.1 x.2.2.1) (((), (), t_118, t_119, t_120, ()), ((f0_121, f1_122, f2_123, f3_124, f4_125, f5_126, f6_127, f7_128, f8_129, f9_130, f10_131, f11_132, ()), a_133, ()))
      = l_impl_ShowSegment_1 n (m + 1) t_118 t_119 t_120 f0_121 f1_122 f2_123 f3_124 f4_125 f5_126 f6_127 f7_128 f8_129 f9_130 f10_131 f11_132 a_133 := by kernel_rfl
theorem lp_impl_ShowSegment_1 (n : Nat) : ∀ (m : Nat) (x : Tm.T k_impl_ShowSegment_4), b_impl_ShowSegment_1 n m x = l_impl_ShowSegment_1 n m x.1.2.2.1 x.1.2.2.2.1 x.1.2.2.2.2.1 x.2.1.1 x.2.1.2.1 x.2.1.2.2.1 x.2.1.2.2.2.1 x.2.1.2.2.2.2.1 x.2.1.2.2.2.2.2.1 x.2.1.2.2.2.2.2.2.1 x.2.1.2.2.2.2.2.2.2.1 x.2.1.2.2.2.2.2.2.2.2.1 x.2.1.2.2.2.2.2.2.2.2.2.1 x.2.1.2.2.2.2.2.2.2.2.2.2.1 x.2.1.2.2.2.2.2.2.2.2.2.2.2.1 x.2.2.1
  | 0, _ => rfl
  | m + 1, x => by
    unfold b_impl_ShowSegment_1
    rw [lpF_succ]
    have ih : lpF (E_impl_ShowSegment n) [] k_impl_ShowSegment_4 112 (sub (bodyOf Tryd.f6) [1, 1, 1, 1, 1, 1, 1, 1, 1, 0, 1, 0, 0]) .z (kBlock 2 (kCut [] k_impl_ShowSegment_3)) m = (fun x => l_impl_ShowSegment_1 n m x.1.2.2.1 x.1.2.2.2.1 x.1.2.2.2.2.1 x.2.1.1 x.2.1.2.1 x.2.1.2.2.1 x.2.1.2.2.2.1 x.2.1.2.2.2.2.1 x.2.1.2.2.2.2.2.1 x.2.1.2.2.2.2.2.2.1 x.2.1.2.2.2.2.2.2.2.1 x.2.1.2.2.2.2.2.2.2.2.1 x.2.1.2.2.2.2.2.2.2.2.2.1 x.2.1.2.2.2.2.2.2.2.2.2.2.1 x.2.1.2.2.2.2.2.2.2.2.2.2.2.1 x.2.2.1) := funext fun x => lp_impl_ShowSegment_1 n m x
    rw [ih]
    exact r_impl_ShowSegment_1 n m x.1.2.2.1 x.1.2.2.2.1 x.1.2.2.2.2.1 x.2.1.1 x.2.1.2.1 x.2.1.2.2.1 x.2.1.2.2.2.1 x.2.1.2.2.2.2.1 x.2.1.2.2.2.2.2.1 x.2.1.2.2.2.2.2.2.1 x.2.1.2.2.2.2.2.2.2.1 x.2.1.2.2.2.2.2.2.2.2.1 x.2.1.2.2.2.2.2.2.2.2.2.1 x.2.1.2.2.2.2.2.2.2.2.2.2.1 x.2.1.2.2.2.2.2.2.2.2.2.2.2.1 x.2.2.1
abbrev k_impl_ShowSegment_5 : Tm := ⟨[(1, (.ptr 1)), (18, .bool)], [(1, (.box [(.int .i64), (.int .i64), (.int .i64), (.int .i64), (.int .i64), (.int .i64), (.int .i64), .bool, (.int .i64), .bool, (.ro (.pair (.int .i64) (.pair (.int .i64) .unit))), (.ro (.int .u8))]))]⟩
theorem e_impl_ShowSegment (n : Nat) (s_1 : Int) (s_2 : Int) (s_3 : Int) (s_4 : Int) (s_5 : Int) (s_6 : Int) (s_7 : Int) (s_8 : Bool) (s_9 : Int) (s_10 : Bool) (s_11 : List (Int × Int × Unit)) (s_12 : List Int) :
    evalFn (E_impl_ShowSegment n) Tryd.f6 k_impl_ShowSegment_0 (.tup [.str, (.int .i64)]) [] (.two .z (.two (.two (.cut k_impl_ShowSegment_5 .z) .z) (.two .z (.two (.two .z (.cut k_impl_ShowSegment_1 (.one (.loop k_impl_ShowSegment_2 .z)))) (.two (.two .z (.cut k_impl_ShowSegment_1 .z)) (.two .z (.two (.two .z (.cut k_impl_ShowSegment_3 .z)) (.two (.two .z (.cut k_impl_ShowSegment_3 .z)) (.two (.two .z (.cut k_impl_ShowSegment_3 .z)) (.two (.two .z (.cut k_impl_ShowSegment_3 (.one (.loop k_impl_ShowSegment_4 .z)))) .z)))))))))) (((s_1, s_2, s_3, s_4, s_5, s_6, s_7, s_8, s_9, s_10, s_11, s_12, ()), ()), ())
      = g_impl_ShowSegment n s_1 s_2 s_3 s_4 s_5 s_6 s_7 s_8 s_9 s_10 s_11 s_12 := by
  refine Eq.trans (b := t_impl_ShowSegment n (fun a0 a1 a2 a3 a4 a5 a6 a7 a8 a9 a10 a11 a12 a13 a14 a15 => b_impl_ShowSegment_0 n n (((), a0, (), a1, a2, ()), ((a3, a4, a5, a6, a7, a8, a9, a10, a11, a12, a13, a14, ()), a15, ()))) (fun a0 a1 a2 a3 a4 a5 a6 a7 a8 a9 a10 a11 a12 a13 a14 a15 => b_impl_ShowSegment_1 n n (((), (), a0, a1, a2, ()), ((a3, a4, a5, a6, a7, a8, a9, a10, a11, a12, a13, a14, ()), a15, ()))) s_1 s_2 s_3 s_4 s_5 s_6 s_7 s_8 s_9 s_10 s_11 s_12) (by kernel_rfl) ?_
  have e0 : (fun a0 a1 a2 a3 a4 a5 a6 a7 a8 a9 a10 a11 a12 a13 a14 a15 => b_impl_ShowSegment_0 n n (((), a0, (), a1, a2, ()), ((a3, a4, a5, a6, a7, a8, a9, a10, a11, a12, a13, a14, ()), a15, ()))) = l_impl_ShowSegment_0 n n := by funext a0 a1 a2 a3 a4 a5 a6 a7 a8 a9 a10 a11 a12 a13 a14 a15; exact lp_impl_ShowSegment_0 n n _
  have e1 : (fun a0 a1 a2 a3 a4 a5 a6 a7 a8 a9 a10 a11 a12 a13 a14 a15 => b_impl_ShowSegment_1 n n (((), (), a0, a1, a2, ()), ((a3, a4, a5, a6, a7, a8, a9, a10, a11, a12, a13, a14, ()), a15, ()))) = l_impl_ShowSegment_1 n n := by funext a0 a1 a2 a3 a4 a5 a6 a7 a8 a9 a10 a11 a12 a13 a14 a15; exact lp_impl_ShowSegment_1 n n _
  rw [e0, e1]
  rfl
theorem S_impl_ShowSegment {gl : List (Nat × Obj)} (hL : LibG gl) : Sat Tryd.prog gl 6 c_impl_ShowSegment :=
  sat_eval Tryd.func6 ⟨_, Tryd.func6, by kernel_rfl, by kernel_rfl⟩ (ct_cons S_impl_okSegment (ct_cons (S_impl_num hL) (ct_cons S_encoding_hex_EncodeToString (ct_cons S_strings_Join (fun _ _ h => by cases h))))) (fun n x y h => ⟨n, [], (e_impl_ShowSegment n x.1.1.1 x.1.1.2.1 x.1.1.2.2.1 x.1.1.2.2.2.1 x.1.1.2.2.2.2.1 x.1.1.2.2.2.2.2.1 x.1.1.2.2.2.2.2.2.1 x.1.1.2.2.2.2.2.2.2.1 x.1.1.2.2.2.2.2.2.2.2.1 x.1.1.2.2.2.2.2.2.2.2.2.1 x.1.1.2.2.2.2.2.2.2.2.2.2.1 x.1.1.2.2.2.2.2.2.2.2.2.2.2.1).trans h⟩)

/-! loop.example/g00003/spec.l01In -/
abbrev k_spec_l01In_0 : Tm := ⟨[(0, (.int .i64)), (1, (.int .i64)), (2, (.int .i64))], []⟩
noncomputable def c_spec_l01In : Con := ⟨k_spec_l01In_0, .bool, [], fun n x => g_spec_l01In n x.1.1 x.1.2.1 x.1.2.2.1⟩
noncomputable def ct_spec_l01In : List (Nat × Con) := []
noncomputable def E_spec_l01In (n : Nat) : Env := { P := Tryd.prog, ct := ct_spec_l01In, fuel := n }
theorem e_spec_l01In (n : Nat) (n_1 : Int) (low_2 : Int) (high_3 : Int) :
    evalFn (E_spec_l01In n) Tryd.f63 k_spec_l01In_0 .bool [] .z ((n_1, low_2, high_3, ()), ())
      = g_spec_l01In n n_1 low_2 high_3 := by kernel_rfl
theorem S_spec_l01In {gl : List (Nat × Obj)} : Sat Tryd.prog gl 63 c_spec_l01In :=
  sat_eval Tryd.func63 ⟨_, Tryd.func63, by kernel_rfl, by kernel_rfl⟩ (fun _ _ h => by cases h) (fun n x y h => ⟨n, [], (e_spec_l01In n x.1.1 x.1.2.1 x.1.2.2.1).trans h⟩)

/-! loop.example/g00003/spec.l10PortOK -/
abbrev k_spec_l10PortOK_0 : Tm := ⟨[(0, (.int .i64))], []⟩
noncomputable def c_spec_l10PortOK : Con := ⟨k_spec_l10PortOK_0, .bool, [], fun n x => g_spec_l10PortOK n x.1.1⟩
noncomputable def ct_spec_l10PortOK : List (Nat × Con) := [(63, c_spec_l01In)]
noncomputable def E_spec_l10PortOK (n : Nat) : Env := { P := Tryd.prog, ct := ct_spec_l10PortOK, fuel := n }
theorem e_spec_l10PortOK (n : Nat) (p_1 : Int) :
    evalFn (E_spec_l10PortOK n) Tryd.f61 k_spec_l10PortOK_0 .bool [] .z ((p_1, ()), ())
      = g_spec_l10PortOK n p_1 := by kernel_rfl
theorem S_spec_l10PortOK {gl : List (Nat × Obj)} : Sat Tryd.prog gl 61 c_spec_l10PortOK :=
  sat_eval Tryd.func61 ⟨_, Tryd.func61, by kernel_rfl, by kernel_rfl⟩ (ct_cons S_spec_l01In (fun _ _ h => by cases h)) (fun n x y h => ⟨n, [], (e_spec_l10PortOK n x.1.1).trans h⟩)

/-! loop.example/g00003/spec.l02AddrOK -/
abbrev k_spec_l02AddrOK_0 : Tm := ⟨[(0, (.int .i64))], []⟩
noncomputable def c_spec_l02AddrOK : Con := ⟨k_spec_l02AddrOK_0, .bool, [], fun n x => g_spec_l02AddrOK n x.1.1⟩
noncomputable def ct_spec_l02AddrOK : List (Nat × Con) := [(63, c_spec_l01In)]
noncomputable def E_spec_l02AddrOK (n : Nat) : Env := { P := Tryd.prog, ct := ct_spec_l02AddrOK, fuel := n }
theorem e_spec_l02AddrOK (n : Nat) (a_1 : Int) :
    evalFn (E_spec_l02AddrOK n) Tryd.f77 k_spec_l02AddrOK_0 .bool [] .z ((a_1, ()), ())
      = g_spec_l02AddrOK n a_1 := by kernel_rfl
theorem S_spec_l02AddrOK {gl : List (Nat × Obj)} : Sat Tryd.prog gl 77 c_spec_l02AddrOK :=
  sat_eval Tryd.func77 ⟨_, Tryd.func77, by kernel_rfl, by kernel_rfl⟩ (ct_cons S_spec_l01In (fun _ _ h => by cases h)) (fun n x y h => ⟨n, [], (e_spec_l02AddrOK n x.1.1).trans h⟩)

/-! loop.example/g00003/spec.l11Seq -/
abbrev k_spec_l11Seq_0 : Tm := ⟨[(0, (.int .i64))], []⟩
noncomputable def c_spec_l11Seq : Con := ⟨k_spec_l11Seq_0, .bool, [], fun n x => g_spec_l11Seq n x.1.1⟩
noncomputable def ct_spec_l11Seq : List (Nat × Con) := [(77, c_spec_l02AddrOK)]
noncomputable def E_spec_l11Seq (n : Nat) : Env := { P := Tryd.prog, ct := ct_spec_l11Seq, fuel := n }
theorem e_spec_l11Seq (n : Nat) (n_1 : Int) :
    evalFn (E_spec_l11Seq n) Tryd.f62 k_spec_l11Seq_0 .bool [] .z ((n_1, ()), ())
      = g_spec_l11Seq n n_1 := by kernel_rfl
theorem S_spec_l11Seq {gl : List (Nat × Obj)} : Sat Tryd.prog gl 62 c_spec_l11Seq :=
  sat_eval Tryd.func62 ⟨_, Tryd.func62, by kernel_rfl, by kernel_rfl⟩ (ct_cons S_spec_l02AddrOK (fun _ _ h => by cases h)) (fun n x y h => ⟨n, [], (e_spec_l11Seq n x.1.1).trans h⟩)

/-! loop.example/g00003/spec.l11OK -/
abbrev k_spec_l11OK_0 : Tm := ⟨[(0, (.agg [(.int .i64), (.int .i64), (.int .i64), (.int .i64), (.int .i64), (.int .i64), (.int .i64), .bool, (.int .i64), .bool, (.ro (.pair (.int .i64) (.pair (.int .i64) .unit))), (.ro (.int .u8))]))], []⟩
noncomputable def c_spec_l11OK : Con := ⟨k_spec_l11OK_0, .bool, [], fun n x => g_spec_l11OK n x.1.1.1 x.1.1.2.1 x.1.1.2.2.1 x.1.1.2.2.2.1 x.1.1.2.2.2.2.1 x.1.1.2.2.2.2.2.1 x.1.1.2.2.2.2.2.2.1 x.1.1.2.2.2.2.2.2.2.1 x.1.1.2.2.2.2.2.2.2.2.1 x.1.1.2.2.2.2.2.2.2.2.2.1 x.1.1.2.2.2.2.2.2.2.2.2.2.1 x.1.1.2.2.2.2.2.2.2.2.2.2.2.1⟩
noncomputable def ct_spec_l11OK : List (Nat × Con) := [(61, c_spec_l10PortOK), (62, c_spec_l11Seq), (63, c_spec_l01In)]
noncomputable def E_spec_l11OK (n : Nat) : Env := { P := Tryd.prog, ct := ct_spec_l11OK, fuel := n }
abbrev k_spec_l11OK_1 : Tm := ⟨[(1, (.ptr 1)), (3, (.int .i64))], [(1, (.box [(.int .i64), (.int .i64), (.int .i64), (.int .i64), (.int .i64), (.int .i64), (.int .i64), .bool, (.int .i64), .bool, (.ro (.pair (.int .i64) (.pair (.int .i64) .unit))), (.ro (.int .u8))]))]⟩
noncomputable def b_spec_l11OK_0 (n m : Nat) (x : Tm.T k_spec_l11OK_1) : Option ((Bool) × (Unit) ⊕ ((Unit) × (Unit))) := lpF (E_spec_l11OK n) [] k_spec_l11OK_1 91 (sub (bodyOf Tryd.f23) [1, 1, 0, 1, 0, 0]) .z (kBlock 0 (kCutr [] ⟨[], []⟩ (kFinR (E_spec_l11OK n) Tryd.f23 .bool []))) m x
theorem r_spec_l11OK_0 (n m : Nat) (i_55 : Int) (f0_56 : Int) (f1_57 : Int) (f2_58 : Int) (f3_59 : Int) (f4_60 : Int) (f5_61 : Int) (f6_62 : Int) (f7_63 : Bool) (f8_64 : Int) (f9_65 : Bool) (f10_66 : List (Int × Int × Unit)) (f11_67 : List Int) :
    rnd (E_spec_l11OK n) [] k_spec_l11OK_1 91 (sub (bodyOf Tryd.f23) [1, 1, 0, 1, 0, 0]) .z (kBlock 0 (kCutr [] ⟨[], []⟩ (kFinR (E_spec_l11OK n) Tryd.f23 .bool []))) (fun x => l_spec_l11OK_0 n m x.1.2.1 x.2.1.1 x.2.1.2.1 x.2.1.2.2.1 x.2.1.2.2.2.1 x.2.1.2.2.2.2.1 x.2.1.2.2.2.2.2.1 x.2.1.2.2.2.2.2.2.1 x.2.1.2.2.2.2.2.2.2.1 x.2.1.2.2.2.2.2.2.2.2.1 x.2.1.2.2.2.2.2.2.2.2.2.1 x.2.1.2.2.2.2.2.2.2.2.2.2.1 x.2.1.2.2.2.2.2.2.2.2.2.2.2.1) (((), i_55, ()), ((f0_56, f1_57, f2_58, f3_59, f4_60, f5_61, f6_62, f7_63, f8_64, f9_65, f10_66, f11_67, ()), ()))
      = l_spec_l11OK_0 n (m + 1) i_55 f0_56 f1_57 f2_58 f3_59 f4_60 f5_61 f6_62 f7_63 f8_64 f9_65 f10_66 f11_67 := by kernel_rfl
theorem lp_spec_l11OK_0 (n : Nat) : ∀ (m : Nat) (x : Tm.T k_spec_l11OK_1), b_spec_l11OK_0 n m x = l_spec_l11OK_0 n m x.1.2.1 x.2.1.1 x.2.1.2.1 x.2.1.2.2.1 x.2.1.2.2.2.1 x.2.1.2.2.2.2.1 x.2.1.2.2.2.2.2.1 x.2.1.2.2.2.2.2.2.1 x.2.1.2.2.2.2.2.2.2.1 x.2.1.2.2.2.2.2.2.2.2.1 x.2.1.2.2.2.2.2.2.2.2.2.1 x.2.1.2.2.2.2.2.2.2.2.2.2.1 x.2.1.2.2.2.2.2.2.2.2.2.2.2.1
  | 0, _ => rfl
  | m + 1, x => by
    unfold b_spec_l11OK_0
    rw [lpF_succ]
    have ih : lpF (E_spec_l11OK n) [] k_spec_l11OK_1 91 (sub (bodyOf Tryd.f23) [1, 1, 0, 1, 0, 0]) .z (kBlock 0 (kCutr [] ⟨[], []⟩ (kFinR (E_spec_l11OK n) Tryd.f23 .bool []))) m = (fun x => l_spec_l11OK_0 n m x.1.2.1 x.2.1.1 x.2.1.2.1 x.2.1.2.2.1 x.2.1.2.2.2.1 x.2.1.2.2.2.2.1 x.2.1.2.2.2.2.2.1 x.2.1.2.2.2.2.2.2.1 x.2.1.2.2.2.2.2.2.2.1 x.2.1.2.2.2.2.2.2.2.2.1 x.2.1.2.2.2.2.2.2.2.2.2.1 x.2.1.2.2.2.2.2.2.2.2.2.2.1 x.2.1.2.2.2.2.2.2.2.2.2.2.2.1) := funext fun x => lp_spec_l11OK_0 n m x
    rw [ih]
    exact r_spec_l11OK_0 n m x.1.2.1 x.2.1.1 x.2.1.2.1 x.2.1.2.2.1 x.2.1.2.2.2.1 x.2.1.2.2.2.2.1 x.2.1.2.2.2.2.2.1 x.2.1.2.2.2.2.2.2.1 x.2.1.2.2.2.2.2.2.2.1 x.2.1.2.2.2.2.2.2.2.2.1 x.2.1.2.2.2.2.2.2.2.2.2.1 x.2.1.2.2.2.2.2.2.2.2.2.2.1 x.2.1.2.2.2.2.2.2.2.2.2.2.2.1
abbrev k_spec_l11OK_2 : Tm := ⟨[(1, (.ptr 1)), (65, .bool)], [(1, (.box [(.int .i64), (.int .i64), (.int .i64), (.int .i64), (.int .i64), (.int .i64), (.int .i64), .bool, (.int .i64), .bool, (.ro (.pair (.int .i64) (.pair (.int .i64) .unit))), (.ro (.int .u8))]))]⟩
theorem e_spec_l11OK (n : Nat) (s_1 : Int) (s_2 : Int) (s_3 : Int) (s_4 : Int) (s_5 : Int) (s_6 : Int) (s_7 : Int) (s_8 : Bool) (s_9 : Int) (s_10 : Bool) (s_11 : List (Int × Int × Unit)) (s_12 : List Int) :
    evalFn (E_spec_l11OK n) Tryd.f23 k_spec_l11OK_0 .bool [] (.two .z (.two (.two (.cut k_spec_l11OK_2 .z) .z) (.two (.two .z (.cutr ⟨[], []⟩ (.one (.loop k_spec_l11OK_1 .z)))) .z))) (((s_1, s_2, s_3, s_4, s_5, s_6, s_7, s_8, s_9, s_10, s_11, s_12, ()), ()), ())
      = g_spec_l11OK n s_1 s_2 s_3 s_4 s_5 s_6 s_7 s_8 s_9 s_10 s_11 s_12 := by
  refine Eq.trans (b := t_spec_l11OK n (fun a0 a1 a2 a3 a4 a5 a6 a7 a8 a9 a10 a11 a12 => b_spec_l11OK_0 n n (((), a0, ()), ((a1, a2, a3, a4, a5, a6, a7, a8, a9, a10, a11, a12, ()), ()))) s_1 s_2 s_3 s_4 s_5 s_6 s_7 s_8 s_9 s_10 s_11 s_12) (by kernel_rfl) ?_
  have e0 : (fun a0 a1 a2 a3 a4 a5 a6 a7 a8 a9 a10 a11 a12 => b_spec_l11OK_0 n n (((), a0, ()), ((a1, a2, a3, a4, a5, a6, a7, a8, a9, a10, a11, a12, ()), ()))) = l_spec_l11OK_0 n n := by funext a0 a1 a2 a3 a4 a5 a6 a7 a8 a9 a10 a11 a12; exact lp_spec_l11OK_0 n n _
  rw [e0]
  rfl
theorem S_spec_l11OK {gl : List (Nat × Obj)} : Sat Tryd.prog gl 23 c_spec_l11OK :=
  sat_eval Tryd.func23 ⟨_, Tryd.func23, by kernel_rfl, by kernel_rfl⟩ (ct_cons S_spec_l10PortOK (ct_cons S_spec_l11Seq (ct_cons S_spec_l01In (fun _ _ h => by cases h)))) (fun n x y h => ⟨n, [], (e_spec_l11OK n x.1.1.1 x.1.1.2.1 x.1.1.2.2.1 x.1.1.2.2.2.1 x.1.1.2.2.2.2.1 x.1.1.2.2.2.2.2.1 x.1.1.2.2.2.2.2.2.1 x.1.1.2.2.2.2.2.2.2.1 x.1.1.2.2.2.2.2.2.2.2.1 x.1.1.2.2.2.2.2.2.2.2.2.1 x.1.1.2.2.2.2.2.2.2.2.2.2.1 x.1.1.2.2.2.2.2.2.2.2.2.2.2.1).trans h⟩)

/-! loop.example/g00003/spec.l02Dec -/
abbrev k_spec_l02Dec_0 : Tm := ⟨[(0, (.int .i64))], []⟩
noncomputable def cr_spec_l02Dec (m : Nat) : Con := ⟨k_spec_l02Dec_0, .str, [], fun n x => d_spec_l02Dec n m x.1.1⟩
noncomputable def c_spec_l02Dec : Con := ⟨k_spec_l02Dec_0, .str, [], fun n x => g_spec_l02Dec n x.1.1⟩
noncomputable def ct_spec_l02Dec (m : Nat) : List (Nat × Con) := [(24, (cr_spec_l02Dec m))]
noncomputable def E_spec_l02Dec (n m : Nat) : Env := { P := Tryd.prog, ct := ct_spec_l02Dec m, fuel := n }
theorem e_spec_l02Dec (n m : Nat) (n_1 : Int) :
    evalFn (E_spec_l02Dec n m) Tryd.f24 k_spec_l02Dec_0 .str [] .z ((n_1, ()), ())
      = d_spec_l02Dec n (m + 1) n_1 := by kernel_rfl
theorem Sr_spec_l02Dec {gl : List (Nat × Obj)} : ∀ m : Nat, Sat Tryd.prog gl 24 (cr_spec_l02Dec m)
  | 0 => sat_none ⟨_, Tryd.func24, by kernel_rfl, by kernel_rfl⟩ (fun _ _ => rfl)
  | m + 1 => by
    have hs := Sr_spec_l02Dec (gl := gl) m
    exact sat_eval Tryd.func24 ⟨_, Tryd.func24, by kernel_rfl, by kernel_rfl⟩ (ct_cons hs (fun _ _ h => by cases h)) (fun n x y h => ⟨n, [], (e_spec_l02Dec n m x.1.1).trans h⟩)
theorem S_spec_l02Dec {gl : List (Nat × Obj)} : Sat Tryd.prog gl 24 c_spec_l02Dec := sat_diag (fun m => Sr_spec_l02Dec m) (fun _ _ => rfl)

/-! loop.example/g00003/spec.l11Bit -/
abbrev k_spec_l11Bit_0 : Tm := ⟨[(0, (.int .i64))], []⟩
noncomputable def c_spec_l11Bit : Con := ⟨k_spec_l11Bit_0, (.int .i64), [], fun n x => g_spec_l11Bit n x.1.1⟩
noncomputable def ct_spec_l11Bit : List (Nat × Con) := []
noncomputable def E_spec_l11Bit (n : Nat) : Env := { P := Tryd.prog, ct := ct_spec_l11Bit, fuel := n }
theorem e_spec_l11Bit (n : Nat) (i_1 : Int) :
    evalFn (E_spec_l11Bit n) Tryd.f26 k_spec_l11Bit_0 (.int .i64) [] .z ((i_1, ()), ())
      = g_spec_l11Bit n i_1 := by kernel_rfl
theorem S_spec_l11Bit {gl : List (Nat × Obj)} : Sat Tryd.prog gl 26 c_spec_l11Bit :=
  sat_eval Tryd.func26 ⟨_, Tryd.func26, by kernel_rfl, by kernel_rfl⟩ (fun _ _ h => by cases h) (fun n x y h => ⟨n, [], (e_spec_l11Bit n x.1.1).trans h⟩)

/-! loop.example/g00003/spec.l11Has -/
abbrev k_spec_l11Has_0 : Tm := ⟨[(0, (.agg [(.int .i64), (.int .i64), (.int .i64), (.int .i64), (.int .i64), (.int .i64), (.int .i64), .bool, (.int .i64), .bool, (.ro (.pair (.int .i64) (.pair (.int .i64) .unit))), (.ro (.int .u8))])), (1, (.int .i64))], []⟩
noncomputable def c_spec_l11Has : Con := ⟨k_spec_l11Has_0, .bool, [], fun n x => g_spec_l11Has n x.1.1.1 x.1.1.2.1 x.1.1.2.2.1 x.1.1.2.2.2.1 x.1.1.2.2.2.2.1 x.1.1.2.2.2.2.2.1 x.1.1.2.2.2.2.2.2.1 x.1.1.2.2.2.2.2.2.2.1 x.1.1.2.2.2.2.2.2.2.2.1 x.1.1.2.2.2.2.2.2.2.2.2.1 x.1.1.2.2.2.2.2.2.2.2.2.2.1 x.1.1.2.2.2.2.2.2.2.2.2.2.2.1 x.1.2.1⟩
noncomputable def ct_spec_l11Has : List (Nat × Con) := []
noncomputable def E_spec_l11Has (n : Nat) : Env := { P := Tryd.prog, ct := ct_spec_l11Has, fuel := n }
theorem e_spec_l11Has (n : Nat) (s_1 : Int) (s_2 : Int) (s_3 : Int) (s_4 : Int) (s_5 : Int) (s_6 : Int) (s_7 : Int) (s_8 : Bool) (s_9 : Int) (s_10 : Bool) (s_11 : List (Int × Int × Unit)) (s_12 : List Int) (flag_13 : Int) :
    evalFn (E_spec_l11Has n) Tryd.f25 k_spec_l11Has_0 .bool [] .z (((s_1, s_2, s_3, s_4, s_5, s_6, s_7, s_8, s_9, s_10, s_11, s_12, ()), flag_13, ()), ())
      = g_spec_l11Has n s_1 s_2 s_3 s_4 s_5 s_6 s_7 s_8 s_9 s_10 s_11 s_12 flag_13 := by kernel_rfl
theorem S_spec_l11Has {gl : List (Nat × Obj)} : Sat Tryd.prog gl 25 c_spec_l11Has :=
  sat_eval Tryd.func25 ⟨_, Tryd.func25, by kernel_rfl, by kernel_rfl⟩ (fun _ _ h => by cases h) (fun n x y h => ⟨n, [], (e_spec_l11Has n x.1.1.1 x.1.1.2.1 x.1.1.2.2.1 x.1.1.2.2.2.1 x.1.1.2.2.2.2.1 x.1.1.2.2.2.2.2.1 x.1.1.2.2.2.2.2.2.1 x.1.1.2.2.2.2.2.2.2.1 x.1.1.2.2.2.2.2.2.2.2.1 x.1.1.2.2.2.2.2.2.2.2.2.1 x.1.1.2.2.2.2.2.2.2.2.2.2.1 x.1.1.2.2.2.2.2.2.2.2.2.2.2.1 x.1.2.1).trans h⟩)

/-! loop.example/g00003/spec.l11HexText -/
abbrev k_spec_l11HexText_0 : Tm := ⟨[(0, (.ro (.int .u8)))], []⟩
noncomputable def c_spec_l11HexText : Con := ⟨k_spec_l11HexText_0, .str, [], fun n x => g_spec_l11HexText n x.1.1⟩
noncomputable def ct_spec_l11HexText : List (Nat × Con) := []
noncomputable def E_spec_l11HexText (n : Nat) : Env := { P := Tryd.prog, ct := ct_spec_l11HexText, fuel := n }
abbrev k_spec_l11HexText_1 : Tm := ⟨[(4, (.own 6))], [(6, (.arr (.int .u8)))]⟩
abbrev k_spec_l11HexText_2 : Tm := ⟨[(0, (.ro (.int .u8))), (3, .str), (4, (.own 6)), (5, (.int .i64))], [(6, (.arr (.int .u8)))]⟩
noncomputable def b_spec_l11HexText_0 (n m : Nat) (x : Tm.T k_spec_l11HexText_2) : Option ((Unit × Unit) × ((List Int) × Unit)) := lpF (E_spec_l11HexText n) [] k_spec_l11HexText_2 35 (sub (bodyOf Tryd.f27) [1, 1, 1, 0, 1, 0, 0]) .z (kBlock 0 (kCut [] k_spec_l11HexText_1)) m x
theorem r_spec_l11HexText_0 (n m : Nat) (b_16 : List Int) (d_17 : List Int) (i_18 : Int) (a_19 : List Int) :
    rnd (E_spec_l11HexText n) [] k_spec_l11HexText_2 35 (sub (bodyOf Tryd.f27) [1, 1, 1, 0, 1, 0, 0]) .z (kBlock 0 (kCut [] k_spec_l11HexText_1)) (fun x => l_spec_l11HexText_0 n m x.1.1 x.1.2.1 x.1.2.2.2.1 x.2.1) ((b_16, d_17, (), i_18, ()), (a_19, ()))
      = l_spec_l11HexText_0 n (m + 1) b_16 d_17 i_18 a_19 := by kernel_rfl
theorem lp_spec_l11HexText_0 (n : Nat) : ∀ (m : Nat) (x : Tm.T k_spec_l11HexText_2), b_spec_l11HexText_0 n m x = l_spec_l11HexText_0 n m x.1.1 x.1.2.1 x.1.2.2.2.1 x.2.1
  | 0, _ => rfl
  | m + 1, x => by
    unfold b_spec_l11HexText_0
    rw [lpF_succ]
    have ih : lpF (E_spec_l11HexText n) [] k_spec_l11HexText_2 35 (sub (bodyOf Tryd.f27) [1, 1, 1, 0, 1, 0, 0]) .z (kBlock 0 (kCut [] k_spec_l11HexText_1)) m = (fun x => l_spec_l11HexText_0 n m x.1.1 x.1.2.1 x.1.2.2.2.1 x.2.1) := funext fun x => lp_spec_l11HexText_0 n m x
    rw [ih]
    exact r_spec_l11HexText_0 n m x.1.1 x.1.2.1 x.1.2.2.2.1 x.2.1
theorem e_spec_l11HexText (n : Nat) (b_1 : List Int) :
    evalFn (E_spec_l11HexText n) Tryd.f27 k_spec_l11HexText_0 .str [] (.two .z (.two .z (.two .z (.two (.two .z (.cut k_spec_l11HexText_1 (.one (.loop k_spec_l11HexText_2 .z)))) .z)))) ((b_1, ()), ())
      = g_spec_l11HexText n b_1 := by
  refine Eq.trans (b := t_spec_l11HexText n (fun a0 a1 a2 a3 => b_spec_l11HexText_0 n n ((a0, a1, (), a2, ()), (a3, ()))) b_1) (by kernel_rfl) ?_
  have e0 : (fun a0 a1 a2 a3 => b_spec_l11HexText_0 n n ((a0, a1, (), a2, ()), (a3, ()))) = l_spec_l11HexText_0 n n := by funext a0 a1 a2 a3; exact lp_spec_l11HexText_0 n n _
  rw [e0]
  rfl
theorem S_spec_l11HexText {gl : List (Nat × Obj)} : Sat Tryd.prog gl 27 c_spec_l11HexText :=
  sat_eval Tryd.func27 ⟨_, Tryd.func27, by kernel_rfl, by kernel_rfl⟩ (fun _ _ h => by cases h) (fun n x y h => ⟨n, [], (e_spec_l11HexText n x.1.1).trans h⟩)

/-! loop.example/g00003/spec.ShowSegment -/
abbrev k_spec_ShowSegment_0 : Tm := ⟨[(0, (.agg [(.int .i64), (.int .i64), (.int .i64), (.int .i64), (.int .i64), (.int .i64), (.int .i64), .bool, (.int .i64), .bool, (.ro (.pair (.int .i64) (.pair (.int .i64) .unit))), (.ro (.int .u8))]))], []⟩
noncomputable def c_spec_ShowSegment : Con := ⟨k_spec_ShowSegment_0, (.tup [.str, (.int .i64)]), [], fun n x => g_spec_ShowSegment n x.1.1.1 x.1.1.2.1 x.1.1.2.2.1 x.1.1.2.2.2.1 x.1.1.2.2.2.2.1 x.1.1.2.2.2.2.2.1 x.1.1.2.2.2.2.2.2.1 x.1.1.2.2.2.2.2.2.2.1 x.1.1.2.2.2.2.2.2.2.2.1 x.1.1.2.2.2.2.2.2.2.2.2.1 x.1.1.2.2.2.2.2.2.2.2.2.2.1 x.1.1.2.2.2.2.2.2.2.2.2.2.2.1⟩
noncomputable def ct_spec_ShowSegment : List (Nat × Con) := [(23, c_spec_l11OK), (24, c_spec_l02Dec), (25, c_spec_l11Has), (26, c_spec_l11Bit), (27, c_spec_l11HexText)]
noncomputable def E_spec_ShowSegment (n : Nat) : Env := { P := Tryd.prog, ct := ct_spec_ShowSegment, fuel := n }
abbrev k_spec_ShowSegment_1 : Tm := ⟨[(1, (.ptr 1)), (4, .str)], [(1, (.box [(.int .i64), (.int .i64), (.int .i64), (.int .i64), (.int .i64), (.int .i64), (.int .i64), .bool, (.int .i64), .bool, (.ro (.pair (.int .i64) (.pair (.int .i64) .unit))), (.ro (.int .u8))]))]⟩
abbrev k_spec_ShowSegment_2 : Tm := ⟨[(1, (.ptr 1)), (4, .str), (5, (.int .i64))], [(1, (.box [(.int .i64), (.int .i64), (.int .i64), (.int .i64), (.int .i64), (.int .i64), (.int .i64), .bool, (.int .i64), .bool, (.ro (.pair (.int .i64) (.pair (.int .i64) .unit))), (.ro (.int .u8))]))]⟩
abbrev k_spec_ShowSegment_3 : Tm := ⟨[(1, (.ptr 1)), (4, .str), (6, (.int .i64))], [(1, (.box [(.int .i64), (.int .i64), (.int .i64), (.int .i64), (.int .i64), (.int .i64), (.int .i64), .bool, (.int .i64), .bool, (.ro (.pair (.int .i64) (.pair (.int .i64) .unit))), (.ro (.int .u8))]))]⟩
noncomputable def b_spec_ShowSegment_0 (n m : Nat) (x : Tm.T k_spec_ShowSegment_2) : Option ((Unit × (List Int) × Unit) × ((Int × Int × Int × Int × Int × Int × Int × Bool × Int × Bool × (List (Int × Int × Unit)) × (List Int) × Unit) × Unit)) := lpF (E_spec_ShowSegment n) [] k_spec_ShowSegment_2 118 (sub (bodyOf Tryd.f7) [1, 1, 1, 1, 0, 1, 0, 0]) .z (kBlock 0 (kCut [] k_spec_ShowSegment_1)) m x
theorem r_spec_ShowSegment_0 (n m : Nat) (out_49 : List Int) (i_50 : Int) (f0_51 : Int) (f1_52 : Int) (f2_53 : Int) (f3_54 : Int) (f4_55 : Int) (f5_56 : Int) (f6_57 : Int) (f7_58 : Bool) (f8_59 : Int) (f9_60 : Bool) (f10_61 : List (Int × Int × Unit)) (f11_62 : List Int) :
    rnd (E_spec_ShowSegment n) [] k_spec_ShowSegment_2 118 (sub (bodyOf Tryd.f7) [1, 1, 1, 1, 0, 1, 0, 0]) .z (kBlock 0 (kCut [] k_spec_ShowSegment_1)) (fun x => l_spec_ShowSegment_0 n m x.1.2.1 x.1.2.2.1 x.2.1.1 x.2.1.2.1 x.2.1.2.2.1 x.2.1.2.2.2.1 x.2.1.2.2.2.2.1 x.2.1.2.2.2.2.2.1 x.2.1.2.2.2.2.2.2.1 x.2.1.2.2.2.2.2.2.2.1 x.2.1.2.2.2.2.2.2.2.2.1 x.2.1.2.2.2.2.2.2.2.2.2.1 x.2.1.2.2.2.2.2.2.2.2.2.2.1 x.2.1.2.2.2.2.2.2.2.2.2.2.2.1) (((), out_49, i_50, ()), ((f0_51, f1_52, f2_53, f3_54, f4_55, f5_56, f6_57, f7_58, f8_59, f9_60, f10_61, f11_62, ()), ()))
      = l_spec_ShowSegment_0 n (m + 1) out_49 i_50 f0_51 f1_52 f2_53 f3_54 f4_55 f5_56 f6_57 f7_58 f8_59 f9_60 f10_61 f11_62 := by kernel_rfl
theorem lp_spec_ShowSegment_0 (n : Nat) : ∀ (m : Nat) (x : Tm.T k_spec_ShowSegment_2), b_spec_ShowSegment_0 n m x = l_spec_ShowSegment_0 n m x.1.2.1 x.1.2.2.1 x.2.1.1 x.2.1.2.1 x.2.1.2.2.1 x.2.1.2.2.2.1 x.2.1.2.2.2.2.1 x.2.1.2.2.2.2.2.1 x.2.1.2.2.2.2.2.2.1 x.2.1.2.2.2.2.2.2.2.1 x.2.1.2.2.2.2.2.2.2.2.1 x.2.1.2.2.2.2.2.2.2.2.2.1 x.2.1.2.2.2.2.2.2.2.2.2.2.1 x.2.1.2.2.2.2.2.2.2.2.2.2.2.1
  | 0, _ => rfl
  | m + 1, x => by
    unfold b_spec_ShowSegment_0
    rw [lpF_succ]
    have ih : lpF (E_spec_ShowSegment n) [] k_spec_ShowSegment_2 118 (sub (bodyOf Tryd.f7) [1, 1, 1, 1, 0, 1, 0, 0]) .z (kBlock 0 (kCut [] k_spec_ShowSegment_1)) m = (fun x => l_spec_ShowSegment_0 n m x.1.2.1 x.1.2.2.1 x.2.1.1 x.2.1.2.1 x.2.1.2.2.1 x.2.1.2.2.2.1 x.2.1.2.2.2.2.1 x.2.1.2.2.2.2.2.1 x.2.1.2.2.2.2.2.2.1 x.2.1.2.2.2.2.2.2.2.1 x.2.1.2.2.2.2.2.2.2.2.1 x.2.1.2.2.2.2.2.2.2.2.2.1 x.2.1.2.2.2.2.2.2.2.2.2.2.1 x.2.1.2.2.2.2.2.2.2.2.2.2.2.1) := funext fun x => lp_spec_ShowSegment_0 n m x
    rw [ih]
    exact r_spec_ShowSegment_0 n m x.1.2.1 x.1.2.2.1 x.2.1.1 x.2.1.2.1 x.2.1.2.2.1 x.2.1.2.2.2.1 x.2.1.2.2.2.2.1 x.2.1.2.2.2.2.2.1 x.2.1.2.2.2.2.2.2.1 x.2.1.2.2.2.2.2.2.2.1 x.2.1.2.2.2.2.2.2.2.2.1 x.2.1.2.2.2.2.2.2.2.2.2.1 x.2.1.2.2.2.2.2.2.2.2.2.2.1 x.2.1.2.2.2.2.2.2.2.2.2.2.2.1
noncomputable def b_spec_ShowSegment_1 (n m : Nat) (x : Tm.T k_spec_ShowSegment_3) : Option ((Unit × (List Int) × Unit) × ((Int × Int × Int × Int × Int × Int × Int × Bool × Int × Bool × (List (Int × Int × Unit)) × (List Int) × Unit) × Unit)) := lpF (E_spec_ShowSegment n) [] k_spec_ShowSegment_3 118 (sub (bodyOf Tryd.f7) [1, 1, 1, 1, 1, 1, 1, 1, 1, 0, 1, 0, 0]) .z (kBlock 2 (kCut [] k_spec_ShowSegment_1)) m x
theorem r_spec_ShowSegment_1 (n m : Nat) (out_123 : List Int) (i_124 : Int) (f0_125 : Int) (f1_126 : Int) (f2_127 : Int) (f3_128 : Int) (f4_129 : Int) (f5_130 : Int) (f6_131 : Int) (f7_132 : Bool) (f8_133 : Int) (f9_134 : Bool) (f10_135 : List (Int × Int × Unit)) (f11_136 : List Int) :
    rnd (E_spec_ShowSegment n) [] k_spec_ShowSegment_3 118 (sub (bodyOf Tryd.f7) [1, 1, 1, 1, 1, 1, 1, 1, 1, 0, 1, 0, 0]) .z (kBlock 2 (kCut [] k_spec_ShowSegment_1)) (fun x => l_spec_ShowSegment_1 n m x.1.2.1 x.1.2.2.1 x.2.1.1 x.2.1.2.1 x.2.1.2.2.1 x.2.1.2.2.2.1 x.2.1.2.2.2.2.1 x.2.1.2.2.2.2.2.1 x.2.1.2.2.2.2.2.2.1 x.2.1.2.2.2.2.2.2.2.1 x.2.1.2.2.2.2.2.2.2.2.1 x.2.1.2.2.2.2.2.2.2.2.2.1 x.2.1.2.2.2.2.2.2.2.2.2.2.1 x.2.1.2.2.2.2.2.2.2.2.2.2.2.1) (((), out_123, i_124, ()), ((f0_125, f1_126, f2_127, f3_128, f4_129, f5_130, f6_131, f7_132, f8_133, f9_134, f10_135, f11_136, ()), ()))
      = l_spec_ShowSegment_1 n (m + 1) out_123 i_124 f0_125 f1_126 f2_127 f3_128 f4_129 f5_130 f6_131 f7_132 f8_133 f9_134 f10_135 f11_136 := by kernel_rfl
theorem lp_spec_ShowSegment_1 (n : Nat) : ∀ (m : Nat) (x : Tm.T k_spec_ShowSegment_3), b_spec_ShowSegment_1 n m x = l_spec_ShowSegment_1 n m x.1.2.1 x.1.2.2.1 x.2.1.1 x.2.1.2.1 x.2.1.2.2.1 x.2.1.2.2.2.1 x.2.1.2.2.2.2.1 x.2.1.2.2.2.2.2.1 x.2.1.2.2.2.2.2.2.1 x.2.1.2.2.2.2.2.2.2.1 x.2.1.2.2.2.2.2.2.2.2.1 x.2.1.2.2.2.2.2.2.2.2.2.1 x.2.1.2.2.2.2.2.2.2.2.2.2.1 x.2.1.2.2.2.2.2.2.2.2.2.2.2.1
  | 0, _ => rfl
  | m + 1, x => by
    unfold b_spec_ShowSegment_1
    rw [lpF_succ]
    have ih : lpF (E_spec_ShowSegment n) [] k_spec_ShowSegment_3 118 (sub (bodyOf Tryd.f7) [1, 1, 1, 1, 1, 1, 1, 1, 1, 0, 1, 0, 0]) .z (kBlock 2 (kCut [] k_spec_ShowSegment_1)) m = (fun x => l_spec_ShowSegment_1 n m x.1.2.1 x.1.2.2.1 x.2.1.1 x.2.1.2.1 x.2.1.2.2.1 x.2.1.2.2.2.1 x.2.1.2.2.2.2.1 x.2.1.2.2.2.2.2.1 x.2.1.2.2.2.2.2.2.1 x.2.1.2.2.2.2.2.2.2.1 x.2.1.2.2.2.2.2.2.2.2.1 x.2.1.2.2.2.2.2.2.2.2.2.1 x.2.1.2.2.2.2.2.2.2.2.2.2.1 x.2.1.2.2.2.2.2.2.2.2.2.2.2.1) := funext fun x => lp_spec_ShowSegment_1 n m x
    rw [ih]
    exact r_spec_ShowSegment_1 n m x.1.2.1 x.1.2.2.1 x.2.1.1 x.2.1.2.1 x.2.1.2.2.1 x.2.1.2.2.2.1 x.2.1.2.2.2.2.1 x.2.1.2.2.2.2.2.1 x.2.1.2.2.2.2.2.2.1 x.2.1.2.2.2.2.2.2.2.1 x.2.1.2.2.2.2.2.2.2.2.1 x.2.1.2.2.2.2.2.2.2.2.2.1 x.2.1.2.2.2.2.2.2.2.2.2.2.1 x.2.1.2.2.2.2.2.2.2.2.2.2.2.1
abbrev k_spec_ShowSegment_4 : Tm := ⟨[(1, (.ptr 1)), (15, .bool)], [(1, (.box [(.int .i64), (.int .i64), (.int .i64), (.int .i64), (.int .i64), (.int .i64), (.int .i64), .bool, (.int .i64), .bool, (.ro (.pair (.int .i64) (.pair (.int .i64) .unit))), (.ro (.int .u8))]))]⟩
theorem e_spec_ShowSegment (n : Nat) (s_1 : Int) (s_2 : Int) (s_3 : Int) (s_4 : Int) (s_5 : Int) (s_6 : Int) (s_7 : Int) (s_8 : Bool) (s_9 : Int) (s_10 : Bool) (s_11 : List (Int × Int × Unit)) (s_12 : List Int) :
    evalFn (E_spec_ShowSegment n) Tryd.f7 k_spec_ShowSegment_0 (.tup [.str, (.int .i64)]) [] (.two .z (.two (.two (.cut k_spec_ShowSegment_4 .z) .z) (.two .z (.two (.two .z (.cut k_spec_ShowSegment_1 .z)) (.two (.two .z (.cut k_spec_ShowSegment_1 (.one (.loop k_spec_ShowSegment_2 .z)))) (.two .z (.two (.two .z (.cut k_spec_ShowSegment_1 .z)) (.two (.two .z (.cut k_spec_ShowSegment_1 .z)) (.two (.two .z (.cut k_spec_ShowSegment_1 .z)) (.two (.two .z (.cut k_spec_ShowSegment_1 (.one (.loop k_spec_ShowSegment_3 .z)))) .z)))))))))) (((s_1, s_2, s_3, s_4, s_5, s_6, s_7, s_8, s_9, s_10, s_11, s_12, ()), ()), ())
      = g_spec_ShowSegment n s_1 s_2 s_3 s_4 s_5 s_6 s_7 s_8 s_9 s_10 s_11 s_12 := by
  refine Eq.trans (b := t_spec_ShowSegment n (fun a0 a1 a2 a3 a4 a5 a6 a7 a8 a9 a10 a11 a12 a13 => b_spec_ShowSegment_0 n n (((), a0, a1, ()), ((a2, a3, a4, a5, a6, a7, a8, a9, a10, a11, a12, a13, ()), ()))) (fun a0 a1 a2 a3 a4 a5 a6 a7 a8 a9 a10 a11 a12 a13 => b_spec_ShowSegment_1 n n (((), a0, a1, ()), ((a2, a3, a4, a5, a6, a7, a8, a9, a10, a11, a12, a13, ()), ()))) s_1 s_2 s_3 s_4 s_5 s_6 s_7 s_8 s_9 s_10 s_11 s_12) (by kernel_rfl) ?_
  have e0 : (fun a0 a1 a2 a3 a4 a5 a6 a7 a8 a9 a10 a11 a12 a13 => b_spec_ShowSegment_0 n n (((), a0, a1, ()), ((a2, a3, a4, a5, a6, a7, a8, a9, a10, a11, a12, a13, ()), ()))) = l_spec_ShowSegment_0 n n := by funext a0 a1 a2 a3 a4 a5 a6 a7 a8 a9 a10 a11 a12 a13; exact lp_spec_ShowSegment_0 n n _
  have e1 : (fun a0 a1 a2 a3 a4 a5 a6 a7 a8 a9 a10 a11 a12 a13 => b_spec_ShowSegment_1 n n (((), a0, a1, ()), ((a2, a3, a4, a5, a6, a7, a8, a9, a10, a11, a12, a13, ()), ()))) = l_spec_ShowSegment_1 n n := by funext a0 a1 a2 a3 a4 a5 a6 a7 a8 a9 a10 a11 a12 a13; exact lp_spec_ShowSegment_1 n n _
  rw [e0, e1]
  rfl
theorem S_spec_ShowSegment {gl : List (Nat × Obj)} : Sat Tryd.prog gl 7 c_spec_ShowSegment :=
  sat_eval Tryd.func7 ⟨_, Tryd.func7, by kernel_rfl, by kernel_rfl⟩ (ct_cons S_spec_l11OK (ct_cons S_spec_l02Dec (ct_cons S_spec_l11Has (ct_cons S_spec_l11Bit (ct_cons S_spec_l11HexText (fun _ _ h => by cases h)))))) (fun n x y h => ⟨n, [], (e_spec_ShowSegment n x.1.1.1 x.1.1.2.1 x.1.1.2.2.1 x.1.1.2.2.2.1 x.1.1.2.2.2.2.1 x.1.1.2.2.2.2.2.1 x.1.1.2.2.2.2.2.2.1 x.1.1.2.2.2.2.2.2.2.1 x.1.1.2.2.2.2.2.2.2.2.1 x.1.1.2.2.2.2.2.2.2.2.2.1 x.1.1.2.2.2.2.2.2.2.2.2.2.1 x.1.1.2.2.2.2.2.2.2.2.2.2.2.1).trans h⟩)

/-! (*loop.example/g00003/impl.wordReader).next -/
abbrev k_impl_wordReader_next_0 : Tm := ⟨[(0, (.ptr 51))], [(51, (.box [(.ro .str), .bool]))]⟩
noncomputable def c_impl_wordReader_next : Con := ⟨k_impl_wordReader_next_0, .str, [(51, (.box [(.ro .str), .bool]))], fun n x => g_impl_wordReader_next n x.2.1.1 x.2.1.2.1⟩
noncomputable def ct_impl_wordReader_next : List (Nat × Con) := []
noncomputable def E_impl_wordReader_next (n : Nat) : Env := { P := Tryd.prog, ct := ct_impl_wordReader_next, fuel := n }
theorem e_impl_wordReader_next (n : Nat) (w_1 : List (List Int)) (bad_2 : Bool) :
    evalFn (E_impl_wordReader_next n) Tryd.f31 k_impl_wordReader_next_0 .str [(51, (.box [(.ro .str), .bool]))] .z (((), ()), ((w_1, bad_2, ()), ()))
      = g_impl_wordReader_next n w_1 bad_2 := by kernel_rfl
theorem S_impl_wordReader_next {gl : List (Nat × Obj)} : Sat Tryd.prog gl 31 c_impl_wordReader_next :=
  sat_eval Tryd.func31 ⟨_, Tryd.func31, by kernel_rfl, by kernel_rfl⟩ (fun _ _ h => by cases h) (fun n x y h => ⟨n, [], (e_impl_wordReader_next n x.2.1.1 x.2.1.2.1).trans h⟩)

/-! loop.example/g00003/impl.decimal -/
abbrev k_impl_decimal_0 : Tm := ⟨[(0, .str), (1, (.int .i64))], []⟩
noncomputable def c_impl_decimal : Con := ⟨k_impl_decimal_0, (.tup [(.int .i64), .bool]), [], fun n x => g_impl_decimal n x.1.1 x.1.2.1⟩
noncomputable def ct_impl_decimal : List (Nat × Con) := []
noncomputable def E_impl_decimal (n : Nat) : Env := { P := Tryd.prog, ct := ct_impl_decimal, fuel := n }
abbrev k_impl_decimal_1 : Tm := ⟨[(6, (.int .i64)), (8, (.int .u8)), (29, (.own 29)), (30, (.int .i64)), (31, (.int .i64)), (40, .bool)], [(29, (.arr (.int .u8)))]⟩
abbrev k_impl_decimal_2 : Tm := ⟨[(6, (.int .i64))], []⟩
abbrev k_impl_decimal_3 : Tm := ⟨[(6, (.int .i64)), (29, (.own 29)), (30, (.int .i64)), (31, (.int .i64))], [(29, (.arr (.int .u8)))]⟩
noncomputable def b_impl_decimal_0 (n m : Nat) (x : Tm.T k_impl_decimal_3) : Option ((Int × Bool × Unit) × (Unit) ⊕ ((Int × Unit) × (Unit))) := lpF (E_impl_decimal n) [] k_impl_decimal_3 49 (sub (bodyOf Tryd.f32) [1, 1, 1, 0, 1, 0, 0]) (.two .z (.two .z (.two (.one (.two .z (.two (.two (.cut k_impl_decimal_1 .z) .z) .z))) .z))) (kBlock 0 (kCutr [] k_impl_decimal_2 (kFinR (E_impl_decimal n) Tryd.f32 (.tup [(.int .i64), .bool]) []))) m x
theorem r_impl_decimal_0 (n m : Nat) (v_30 : Int) (t_31 : Int) (t_32 : Int) (a_33 : List Int) :
    rnd (E_impl_decimal n) [] k_impl_decimal_3 49 (sub (bodyOf Tryd.f32) [1, 1, 1, 0, 1, 0, 0]) (.two .z (.two .z (.two (.one (.two .z (.two (.two (.cut k_impl_decimal_1 .z) .z) .z))) .z))) (kBlock 0 (kCutr [] k_impl_decimal_2 (kFinR (E_impl_decimal n) Tryd.f32 (.tup [(.int .i64), .bool]) []))) (fun x => l_impl_decimal_0 n m x.1.1 x.1.2.2.1 x.1.2.2.2.1 x.2.1) ((v_30, (), t_31, t_32, ()), (a_33, ()))
      = l_impl_decimal_0 n (m + 1) v_30 t_31 t_32 a_33 := by kernel_rfl
theorem lp_impl_decimal_0 (n : Nat) : ∀ (m : Nat) (x : Tm.T k_impl_decimal_3), b_impl_decimal_0 n m x = l_impl_decimal_0 n m x.1.1 x.1.2.2.1 x.1.2.2.2.1 x.2.1
  | 0, _ => rfl
  | m + 1, x => by
    unfold b_impl_decimal_0
    rw [lpF_succ]
    have ih : lpF (E_impl_decimal n) [] k_impl_decimal_3 49 (sub (bodyOf Tryd.f32) [1, 1, 1, 0, 1, 0, 0]) (.two .z (.two .z (.two (.one (.two .z (.two (.two (.cut k_impl_decimal_1 .z) .z) .z))) .z))) (kBlock 0 (kCutr [] k_impl_decimal_2 (kFinR (E_impl_decimal n) Tryd.f32 (.tup [(.int .i64), .bool]) []))) m = (fun x => l_impl_decimal_0 n m x.1.1 x.1.2.2.1 x.1.2.2.2.1 x.2.1) := funext fun x => lp_impl_decimal_0 n m x
    rw [ih]
    exact r_impl_decimal_0 n m x.1.1 x.1.2.2.1 x.1.2.2.2.1 x.2.1
abbrev k_impl_decimal_4 : Tm := ⟨[(0, .str), (27, .bool)], []⟩
theorem e_impl_decimal (n : Nat) (s_1 : List Int) (digits_2 : Int) :
    evalFn (E_impl_decimal n) Tryd.f32 k_impl_decimal_0 (.tup [(.int .i64), .bool]) [] (.two .z (.two (.two (.cut k_impl_decimal_4 .z) .z) (.two .z (.two (.two .z (.cutr k_impl_decimal_2 (.one (.loop k_impl_decimal_3 (.two .z (.two .z (.two (.one (.two .z (.two (.two (.cut k_impl_decimal_1 .z) .z) .z))) .z))))))) .z)))) ((s_1, digits_2, ()), ())
      = g_impl_decimal n s_1 digits_2 := by
  refine Eq.trans (b := t_impl_decimal n (fun a0 a1 a2 a3 => b_impl_decimal_0 n n ((a0, (), a1, a2, ()), (a3, ()))) s_1 digits_2) (by kernel_rfl) ?_
  have e0 : (fun a0 a1 a2 a3 => b_impl_decimal_0 n n ((a0, (), a1, a2, ()), (a3, ()))) = l_impl_decimal_0 n n := by funext a0 a1 a2 a3; exact lp_impl_decimal_0 n n _
  rw [e0]
  rfl
theorem S_impl_decimal {gl : List (Nat × Obj)} : Sat Tryd.prog gl 32 c_impl_decimal :=
  sat_eval Tryd.func32 ⟨_, Tryd.func32, by kernel_rfl, by kernel_rfl⟩ (fun _ _ h => by cases h) (fun n x y h => ⟨n, [], (e_impl_decimal n x.1.1 x.1.2.1).trans h⟩)

/-! loop.example/g00003/impl.ReadSegment$1 -/
abbrev k_impl_ReadSegment_f1_0 : Tm := ⟨[(0, .str), (1, (.ptr 51))], [(51, (.box [(.ptr 52)])), (52, (.box [(.ro .str), .bool]))]⟩
noncomputable def c_impl_ReadSegment_f1 : Con := ⟨k_impl_ReadSegment_f1_0, (.tup [(.int .i64), (.int .i64)]), [(51, (.box [(.ptr 52)])), (52, (.box [(.ro .str), .bool]))], fun n x => g_impl_ReadSegment_f1 n x.1.1 x.2.2.1.1 x.2.2.1.2.1⟩
noncomputable def ct_impl_ReadSegment_f1 : List (Nat × Con) := [(30, c_strings_Cut), (31, c_impl_wordReader_next), (32, c_impl_decimal)]
noncomputable def E_impl_ReadSegment_f1 (n : Nat) : Env := { P := Tryd.prog, ct := ct_impl_ReadSegment_f1, fuel := n }
theorem e_impl_ReadSegment_f1 (n : Nat) (sep_1 : List Int) (f0_2 : List (List Int)) (f1_3 : Bool) :
    evalFn (E_impl_ReadSegment_f1 n) Tryd.f29 k_impl_ReadSegment_f1_0 (.tup [(.int .i64), (.int .i64)]) [(51, (.box [(.ptr 52)])), (52, (.box [(.ro .str), .bool]))] .z ((sep_1, (), ()), (((), ()), (f0_2, f1_3, ()), ()))
      = g_impl_ReadSegment_f1 n sep_1 f0_2 f1_3 := by kernel_rfl
theorem S_impl_ReadSegment_f1 {gl : List (Nat × Obj)} (hL : LibG gl) : Sat Tryd.prog gl 29 c_impl_ReadSegment_f1 :=
  sat_eval Tryd.func29 ⟨_, Tryd.func29, by kernel_rfl, by kernel_rfl⟩ (ct_cons (S_strings_Cut hL) (ct_cons S_impl_wordReader_next (ct_cons S_impl_decimal (fun _ _ h => by cases h)))) (fun n x y h => ⟨n, [], (e_impl_ReadSegment_f1 n x.1.1 x.2.2.1.1 x.2.2.1.2.1).trans h⟩)

/-! unicode/utf8.ValidRune -/
abbrev k_unicode_utf8_ValidRune_0 : Tm := ⟨[(0, (.int .i32))], []⟩
noncomputable def c_unicode_utf8_ValidRune : Con := ⟨k_unicode_utf8_ValidRune_0, .bool, [], fun n x => g_unicode_utf8_ValidRune n x.1.1⟩
noncomputable def ct_unicode_utf8_ValidRune : List (Nat × Con) := []
noncomputable def E_unicode_utf8_ValidRune (n : Nat) : Env := { P := Tryd.prog, ct := ct_unicode_utf8_ValidRune, fuel := n }
abbrev k_unicode_utf8_ValidRune_1 : Tm := ⟨[(0, (.int .i32)), (3, .bool)], []⟩
theorem e_unicode_utf8_ValidRune (n : Nat) (r_1 : Int) :
    evalFn (E_unicode_utf8_ValidRune n) Tryd.f67 k_unicode_utf8_ValidRune_0 .bool [] (.two .z (.two (.one (.two (.cut k_unicode_utf8_ValidRune_1 .z) .z)) .z)) ((r_1, ()), ())
      = g_unicode_utf8_ValidRune n r_1 := by kernel_rfl
theorem S_unicode_utf8_ValidRune {gl : List (Nat × Obj)} : Sat Tryd.prog gl 67 c_unicode_utf8_ValidRune :=
  sat_eval Tryd.func67 ⟨_, Tryd.func67, by kernel_rfl, by kernel_rfl⟩ (fun _ _ h => by cases h) (fun n x y h => ⟨n, [], (e_unicode_utf8_ValidRune n x.1.1).trans h⟩)

/-! strings.IndexRune -/
abbrev k_strings_IndexRune_0 : Tm := ⟨[(0, .str), (1, (.int .i32))], []⟩
noncomputable def c_strings_IndexRune : Con := ⟨k_strings_IndexRune_0, (.int .i64), [], fun n x => g_strings_IndexRune n x.1.1 x.1.2.1⟩
noncomputable def ct_strings_IndexRune : List (Nat × Con) := [(66, c_strings_IndexByte), (67, c_unicode_utf8_ValidRune)]
noncomputable def E_strings_IndexRune (n : Nat) : Env := { P := Tryd.prog, ct := ct_strings_IndexRune, fuel := n }
abbrev k_strings_IndexRune_1 : Tm := ⟨[(175, (.iter 175))], [(175, .iter)]⟩
abbrev k_strings_IndexRune_2 : Tm := ⟨[(8, (.int .i64)), (9, (.int .i64))], []⟩
abbrev k_strings_IndexRune_3 : Tm := ⟨[(0, .str), (7, .str), (8, (.int .i64)), (9, (.int .i64)), (12, (.int .i64))], []⟩
abbrev k_strings_IndexRune_4 : Tm := ⟨[(0, .str), (7, .str), (8, (.int .i64)), (9, (.int .i64))], []⟩
noncomputable def b_strings_IndexRune_0 (n m : Nat) (x : Tm.T k_strings_IndexRune_1) : Option ((Int) × (Unit) ⊕ ((Unit) × (Unit))) := lpF (E_strings_IndexRune n) [] k_strings_IndexRune_1 187 (sub (bodyOf Tryd.f33) [1, 0, 1, 1, 1, 0, 0, 1, 0, 0]) .z (kBlock 9 (kCutr [] ⟨[], []⟩ (kFinR (E_strings_IndexRune n) Tryd.f33 (.int .i64) []))) m x
theorem r_strings_IndexRune_0 (n m : Nat) (it_14 : List Int) (p_15 : Nat) :
    rnd (E_strings_IndexRune n) [] k_strings_IndexRune_1 187 (sub (bodyOf Tryd.f33) [1, 0, 1, 1, 1, 0, 0, 1, 0, 0]) .z (kBlock 9 (kCutr [] ⟨[], []⟩ (kFinR (E_strings_IndexRune n) Tryd.f33 (.int .i64) []))) (fun x => l_strings_IndexRune_0 n m x.2.1.1 x.2.1.2) (((), ()), ((it_14, p_15), ()))
      = l_strings_IndexRune_0 n (m + 1) it_14 p_15 := by kernel_rfl
theorem lp_strings_IndexRune_0 (n : Nat) : ∀ (m : Nat) (x : Tm.T k_strings_IndexRune_1), b_strings_IndexRune_0 n m x = l_strings_IndexRune_0 n m x.2.1.1 x.2.1.2
  | 0, _ => rfl
  | m + 1, x => by
    unfold b_strings_IndexRune_0
    rw [lpF_succ]
    have ih : lpF (E_strings_IndexRune n) [] k_strings_IndexRune_1 187 (sub (bodyOf Tryd.f33) [1, 0, 1, 1, 1, 0, 0, 1, 0, 0]) .z (kBlock 9 (kCutr [] ⟨[], []⟩ (kFinR (E_strings_IndexRune n) Tryd.f33 (.int .i64) []))) m = (fun x => l_strings_IndexRune_0 n m x.2.1.1 x.2.1.2) := funext fun x => lp_strings_IndexRune_0 n m x
    rw [ih]
    exact r_strings_IndexRune_0 n m x.2.1.1 x.2.1.2
noncomputable def b_strings_IndexRune_2 (n m : Nat) (x : Tm.T k_strings_IndexRune_3) : Option ((Int × Int × Unit) × (Unit)) := lpF (E_strings_IndexRune n) [] k_strings_IndexRune_3 187 (sub (bodyOf Tryd.f33) [1, 0, 1, 1, 1, 1, 1, 1, 0, 1, 1, 1, 1, 0, 0, 0, 1, 0, 0, 1, 0, 1, 0, 0]) .z (kBlock 3 (kCut [] k_strings_IndexRune_2)) m x
theorem r_strings_IndexRune_2 (n m : Nat) (s_104 : List Int) (rs_105 : List Int) (last_106 : Int) (i_107 : Int) (j_108 : Int) :
    rnd (E_strings_IndexRune n) [] k_strings_IndexRune_3 187 (sub (bodyOf Tryd.f33) [1, 0, 1, 1, 1, 1, 1, 1, 0, 1, 1, 1, 1, 0, 0, 0, 1, 0, 0, 1, 0, 1, 0, 0]) .z (kBlock 3 (kCut [] k_strings_IndexRune_2)) (fun x => l_strings_IndexRune_2 n m x.1.1 x.1.2.1 x.1.2.2.1 x.1.2.2.2.1 x.1.2.2.2.2.1) ((s_104, rs_105, last_106, i_107, j_108, ()), ())
      = l_strings_IndexRune_2 n (m + 1) s_104 rs_105 last_106 i_107 j_108 := by kernel_rfl
theorem lp_strings_IndexRune_2 (n : Nat) : ∀ (m : Nat) (x : Tm.T k_strings_IndexRune_3), b_strings_IndexRune_2 n m x = l_strings_IndexRune_2 n m x.1.1 x.1.2.1 x.1.2.2.1 x.1.2.2.2.1 x.1.2.2.2.2.1
  | 0, _ => rfl
  | m + 1, x => by
    unfold b_strings_IndexRune_2
    rw [lpF_succ]
    have ih : lpF (E_strings_IndexRune n) [] k_strings_IndexRune_3 187 (sub (bodyOf Tryd.f33) [1, 0, 1, 1, 1, 1, 1, 1, 0, 1, 1, 1, 1, 0, 0, 0, 1, 0, 0, 1, 0, 1, 0, 0]) .z (kBlock 3 (kCut [] k_strings_IndexRune_2)) m = (fun x => l_strings_IndexRune_2 n m x.1.1 x.1.2.1 x.1.2.2.1 x.1.2.2.2.1 x.1.2.2.2.2.1) := funext fun x => lp_strings_IndexRune_2 n m x
    rw [ih]
    exact r_strings_IndexRune_2 n m x.1.1 x.1.2.1 x.1.2.2.1 x.1.2.2.2.1 x.1.2.2.2.2.1
noncomputable def b_strings_IndexRune_1 (n m : Nat) (x : Tm.T k_strings_IndexRune_4) : Option ((Int) × (Unit) ⊕ ((Unit) × (Unit))) := lpF (E_strings_IndexRune n) [] k_strings_IndexRune_4 187 (sub (bodyOf Tryd.f33) [1, 0, 1, 1, 1, 1, 1, 1, 0, 1, 1, 1, 1, 0, 0, 0]) (.two .z (.one (.one (.two (.two .z (.cutr k_strings_IndexRune_4 .z)) (.two (.two .z (.cut k_strings_IndexRune_2 (.one (.loop k_strings_IndexRune_3 .z)))) .z))))) (kBlock 1 (kCutr [] ⟨[], []⟩ (kFinR (E_strings_IndexRune n) Tryd.f33 (.int .i64) []))) m x
theorem r_strings_IndexRune_1 (n : Nat) (lp : List Int → List Int → Int → Int → Option ((Int) × (Unit) ⊕ ((Unit) × (Unit)))) (s_69 : List Int) (rs_70 : List Int) (last_71 : Int) (i_72 : Int) :
    rnd (E_strings_IndexRune n) [] k_strings_IndexRune_4 187 (sub (bodyOf Tryd.f33) [1, 0, 1, 1, 1, 1, 1, 1, 0, 1, 1, 1, 1, 0, 0, 0]) (.two .z (.one (.one (.two (.two .z (.cutr k_strings_IndexRune_4 .z)) (.two (.two .z (.cut k_strings_IndexRune_2 (.one (.loop k_strings_IndexRune_3 .z)))) .z))))) (kBlock 1 (kCutr [] ⟨[], []⟩ (kFinR (E_strings_IndexRune n) Tryd.f33 (.int .i64) []))) (fun x => lp x.1.1 x.1.2.1 x.1.2.2.1 x.1.2.2.2.1) ((s_69, rs_70, last_71, i_72, ()), ())
      = s_strings_IndexRune_1 n (fun a0 a1 a2 a3 a4 => b_strings_IndexRune_2 n n ((a0, a1, a2, a3, a4, ()), ())) lp s_69 rs_70 last_71 i_72 := by kernel_rfl
theorem lp_strings_IndexRune_1 (n : Nat) : ∀ (m : Nat) (x : Tm.T k_strings_IndexRune_4), b_strings_IndexRune_1 n m x = l_strings_IndexRune_1 n m x.1.1 x.1.2.1 x.1.2.2.1 x.1.2.2.2.1
  | 0, _ => rfl
  | m + 1, x => by
    unfold b_strings_IndexRune_1
    rw [lpF_succ]
    have ih : lpF (E_strings_IndexRune n) [] k_strings_IndexRune_4 187 (sub (bodyOf Tryd.f33) [1, 0, 1, 1, 1, 1, 1, 1, 0, 1, 1, 1, 1, 0, 0, 0]) (.two .z (.one (.one (.two (.two .z (.cutr k_strings_IndexRune_4 .z)) (.two (.two .z (.cut k_strings_IndexRune_2 (.one (.loop k_strings_IndexRune_3 .z)))) .z))))) (kBlock 1 (kCutr [] ⟨[], []⟩ (kFinR (E_strings_IndexRune n) Tryd.f33 (.int .i64) []))) m = (fun x => l_strings_IndexRune_1 n m x.1.1 x.1.2.1 x.1.2.2.1 x.1.2.2.2.1) := funext fun x => lp_strings_IndexRune_1 n m x
    rw [ih]
    refine (r_strings_IndexRune_1 n (l_strings_IndexRune_1 n m) x.1.1 x.1.2.1 x.1.2.2.1 x.1.2.2.2.1).trans ?_
    have e2 : (fun a0 a1 a2 a3 a4 => b_strings_IndexRune_2 n n ((a0, a1, a2, a3, a4, ()), ())) = l_strings_IndexRune_2 n n := by funext a0 a1 a2 a3 a4; exact lp_strings_IndexRune_2 n n _
    rw [e2]
    rfl
abbrev k_strings_IndexRune_5 : Tm := ⟨[(0, .str), (1, (.int .i32)), (160, .bool)], []⟩
theorem e_strings_IndexRune (n : Nat) (s_1 : List Int) (r_2 : Int) :
    evalFn (E_strings_IndexRune n) Tryd.f33 k_strings_IndexRune_0 (.int .i64) [] (.two .z (.one (.two (.cut k_strings_IndexRune_5 .z) (.two .z (.two .z (.two (.two (.two .z (.cutr ⟨[], []⟩ (.one (.loop k_strings_IndexRune_1 .z)))) .z) (.two .z (.two .z (.one (.two .z (.two .z (.two .z (.two .z (.two (.cutr ⟨[], []⟩ (.one (.loop k_strings_IndexRune_4 (.two .z (.one (.one (.two (.two .z (.cutr k_strings_IndexRune_4 .z)) (.two (.two .z (.cut k_strings_IndexRune_2 (.one (.loop k_strings_IndexRune_3 .z)))) .z)))))))) .z)))))))))))))) ((s_1, r_2, ()), ())
      = g_strings_IndexRune n s_1 r_2 := by
  refine Eq.trans (b := t_strings_IndexRune n (fun a0 a1 => b_strings_IndexRune_0 n n (((), ()), ((a0, a1), ()))) (fun a0 a1 a2 a3 => b_strings_IndexRune_1 n n ((a0, a1, a2, a3, ()), ())) s_1 r_2) (by kernel_rfl) ?_
  have e0 : (fun a0 a1 => b_strings_IndexRune_0 n n (((), ()), ((a0, a1), ()))) = l_strings_IndexRune_0 n n := by funext a0 a1; exact lp_strings_IndexRune_0 n n _
  have e1 : (fun a0 a1 a2 a3 => b_strings_IndexRune_1 n n ((a0, a1, a2, a3, ()), ())) = l_strings_IndexRune_1 n n := by funext a0 a1 a2 a3; exact lp_strings_IndexRune_1 n n _
  rw [e0, e1]
  rfl
theorem S_strings_IndexRune {gl : List (Nat × Obj)} : Sat Tryd.prog gl 33 c_strings_IndexRune :=
  sat_eval Tryd.func33 ⟨_, Tryd.func33, by kernel_rfl, by kernel_rfl⟩ (ct_cons S_strings_IndexByte (ct_cons S_unicode_utf8_ValidRune (fun _ _ h => by cases h))) (fun n x y h => ⟨n, [], (e_strings_IndexRune n x.1.1 x.1.2.1).trans h⟩)

/-! (*loop.example/g00003/impl.wordReader).number -/
abbrev k_impl_wordReader_number_0 : Tm := ⟨[(0, (.ptr 51)), (1, (.int .i64))], [(51, (.box [(.ro .str), .bool]))]⟩
noncomputable def c_impl_wordReader_number : Con := ⟨k_impl_wordReader_number_0, (.int .i64), [(51, (.box [(.ro .str), .bool]))], fun n x => g_impl_wordReader_number n x.1.2.1 x.2.1.1 x.2.1.2.1⟩
noncomputable def ct_impl_wordReader_number : List (Nat × Con) := [(31, c_impl_wordReader_next), (32, c_impl_decimal)]
noncomputable def E_impl_wordReader_number (n : Nat) : Env := { P := Tryd.prog, ct := ct_impl_wordReader_number, fuel := n }
theorem e_impl_wordReader_number (n : Nat) (digits_1 : Int) (w_2 : List (List Int)) (bad_3 : Bool) :
    evalFn (E_impl_wordReader_number n) Tryd.f34 k_impl_wordReader_number_0 (.int .i64) [(51, (.box [(.ro .str), .bool]))] .z (((), digits_1, ()), ((w_2, bad_3, ()), ()))
      = g_impl_wordReader_number n digits_1 w_2 bad_3 := by kernel_rfl
theorem S_impl_wordReader_number {gl : List (Nat × Obj)} : Sat Tryd.prog gl 34 c_impl_wordReader_number :=
  sat_eval Tryd.func34 ⟨_, Tryd.func34, by kernel_rfl, by kernel_rfl⟩ (ct_cons S_impl_wordReader_next (ct_cons S_impl_decimal (fun _ _ h => by cases h))) (fun n x y h => ⟨n, [], (e_impl_wordReader_number n x.1.2.1 x.2.1.1 x.2.1.2.1).trans h⟩)

/-! (*loop.example/g00003/impl.wordReader).is -/
abbrev k_impl_wordReader_is_0 : Tm := ⟨[(0, (.ptr 51)), (1, .str)], [(51, (.box [(.ro .str), .bool]))]⟩
noncomputable def c_impl_wordReader_is : Con := ⟨k_impl_wordReader_is_0, .bool, [(51, (.box [(.ro .str), .bool]))], fun n x => g_impl_wordReader_is n x.1.2.1 x.2.1.1 x.2.1.2.1⟩
noncomputable def ct_impl_wordReader_is : List (Nat × Con) := []
noncomputable def E_impl_wordReader_is (n : Nat) : Env := { P := Tryd.prog, ct := ct_impl_wordReader_is, fuel := n }
abbrev k_impl_wordReader_is_1 : Tm := ⟨[(0, (.ptr 51)), (20, .bool)], [(51, (.box [(.ro .str), .bool]))]⟩
theorem e_impl_wordReader_is (n : Nat) (word_1 : List Int) (w_2 : List (List Int)) (bad_3 : Bool) :
    evalFn (E_impl_wordReader_is n) Tryd.f35 k_impl_wordReader_is_0 .bool [(51, (.box [(.ro .str), .bool]))] (.two .z (.two (.two (.cut k_impl_wordReader_is_1 .z) .z) .z)) (((), word_1, ()), ((w_2, bad_3, ()), ()))
      = g_impl_wordReader_is n word_1 w_2 bad_3 := by kernel_rfl
theorem S_impl_wordReader_is {gl : List (Nat × Obj)} : Sat Tryd.prog gl 35 c_impl_wordReader_is :=
  sat_eval Tryd.func35 ⟨_, Tryd.func35, by kernel_rfl, by kernel_rfl⟩ (fun _ _ h => by cases h) (fun n x y h => ⟨n, [], (e_impl_wordReader_is n x.1.2.1 x.2.1.1 x.2.1.2.1).trans h⟩)

/-! (*loop.example/g00003/impl.wordReader).done -/
abbrev k_impl_wordReader_done_0 : Tm := ⟨[(0, (.ptr 51))], [(51, (.box [(.ro .str), .bool]))]⟩
noncomputable def c_impl_wordReader_done : Con := ⟨k_impl_wordReader_done_0, .bool, [(51, (.box [(.ro .str), .bool]))], fun n x => g_impl_wordReader_done n x.2.1.1 x.2.1.2.1⟩
noncomputable def ct_impl_wordReader_done : List (Nat × Con) := []
noncomputable def E_impl_wordReader_done (n : Nat) : Env := { P := Tryd.prog, ct := ct_impl_wordReader_done, fuel := n }
theorem e_impl_wordReader_done (n : Nat) (w_1 : List (List Int)) (bad_2 : Bool) :
    evalFn (E_impl_wordReader_done n) Tryd.f37 k_impl_wordReader_done_0 .bool [(51, (.box [(.ro .str), .bool]))] .z (((), ()), ((w_1, bad_2, ()), ()))
      = g_impl_wordReader_done n w_1 bad_2 := by kernel_rfl
theorem S_impl_wordReader_done {gl : List (Nat × Obj)} : Sat Tryd.prog gl 37 c_impl_wordReader_done :=
  sat_eval Tryd.func37 ⟨_, Tryd.func37, by kernel_rfl, by kernel_rfl⟩ (fun _ _ h => by cases h) (fun n x y h => ⟨n, [], (e_impl_wordReader_done n x.2.1.1 x.2.1.2.1).trans h⟩)

/-! loop.example/g00003/impl.ReadSegment -/
abbrev k_impl_ReadSegment_0 : Tm := ⟨[(0, .str)], []⟩
noncomputable def c_impl_ReadSegment : Con := ⟨k_impl_ReadSegment_0, (.tup [(.agg [(.int .i64), (.int .i64), (.int .i64), (.int .i64), (.int .i64), (.int .i64), (.int .i64), .bool, (.int .i64), .bool, (.own 1), (.own 2)]), (.int .i64)]), [(1, (.arr (.pair (.int .i64) (.pair (.int .i64) .unit)))), (2, (.arr (.int .u8)))], fun n x => g_impl_ReadSegment n x.1.1⟩
noncomputable def ct_impl_ReadSegment : List (Nat × Con) := [(6, c_impl_ShowSegment), (28, c_strings_Split), (29, c_impl_ReadSegment_f1), (31, c_impl_wordReader_next), (33, c_strings_IndexRune), (34, c_impl_wordReader_number), (35, c_impl_wordReader_is), (36, c_encoding_hex_DecodeString), (37, c_impl_wordReader_done)]
noncomputable def E_impl_ReadSegment (n : Nat) : Env := { P := Tryd.prog, ct := ct_impl_ReadSegment, fuel := n }
abbrev k_impl_ReadSegment_1 : Tm := ⟨[(0, .str), (2, (.ptr 2)), (4, (.ptr 4)), (5, (.fn 29 [(.ptr 4)])), (6, (.ptr 6))], [(2, (.box [(.int .i64), (.int .i64), (.int .i64), (.int .i64), (.int .i64), (.int .i64), (.int .i64), .bool, (.int .i64), .bool, .nilsl, .nilsl])), (4, (.box [(.ptr 19)])), (6, (.box [(.int .i64), (.int .i64), (.int .i64), (.int .i64), (.int .i64), (.int .i64), (.int .i64), .bool, (.int .i64), .bool, .nilsl, .nilsl])), (19, (.box [(.ro .str), .bool]))]⟩
abbrev k_impl_ReadSegment_2 : Tm := ⟨[(0, .str), (2, (.ptr 2)), (4, (.ptr 4)), (5, (.fn 29 [(.ptr 4)])), (6, (.ptr 6)), (30, (.iter 30))], [(2, (.box [(.int .i64), (.int .i64), (.int .i64), (.int .i64), (.int .i64), (.int .i64), (.int .i64), .bool, (.int .i64), .bool, .nilsl, .nilsl])), (4, (.box [(.ptr 19)])), (6, (.box [(.int .i64), (.int .i64), (.int .i64), (.int .i64), (.int .i64), (.int .i64), (.int .i64), .bool, (.int .i64), .bool, .nilsl, .nilsl])), (30, .iter), (19, (.box [(.ro .str), .bool]))]⟩
abbrev k_impl_ReadSegment_3 : Tm := ⟨[(0, .str), (2, (.ptr 2)), (4, (.ptr 4)), (6, (.ptr 6))], [(2, (.box [(.int .i64), (.int .i64), (.int .i64), (.int .i64), (.int .i64), (.int .i64), (.int .i64), .bool, (.int .i64), .bool, .nilsl, .nilsl])), (4, (.box [(.ptr 19)])), (6, (.box [(.int .i64), (.int .i64), (.int .i64), (.int .i64), (.int .i64), (.int .i64), (.int .i64), .bool, (.int .i64), .bool, (.own 80), .nilsl])), (19, (.box [(.ro .str), .bool])), (80, (.arr (.pair (.int .i64) (.pair (.int .i64) .unit))))]⟩
abbrev k_impl_ReadSegment_4 : Tm := ⟨[(0, .str), (2, (.ptr 2)), (4, (.ptr 4)), (5, (.fn 29 [(.ptr 4)])), (6, (.ptr 6))], [(2, (.box [(.int .i64), (.int .i64), (.int .i64), (.int .i64), (.int .i64), (.int .i64), (.int .i64), .bool, (.int .i64), .bool, .nilsl, .nilsl])), (4, (.box [(.ptr 19)])), (6, (.box [(.int .i64), (.int .i64), (.int .i64), (.int .i64), (.int .i64), (.int .i64), (.int .i64), .bool, (.int .i64), .bool, (.own 80), .nilsl])), (19, (.box [(.ro .str), .bool])), (80, (.arr (.pair (.int .i64) (.pair (.int .i64) .unit))))]⟩
noncomputable def b_impl_ReadSegment_0 (n m : Nat) (x : Tm.T k_impl_ReadSegment_2) : Option (((List Int) × Unit × Unit × (Unit × Unit) × Unit × Unit) × ((Int × Int × Int × Int × Int × Int × Int × Bool × Int × Bool × Unit × Unit × Unit) × (Unit × Unit) × (Int × Int × Int × Int × Int × Int × Int × Bool × Int × Bool × Unit × Unit × Unit) × ((List (List Int)) × Bool × Unit) × Unit)) := lpF (E_impl_ReadSegment n) [] k_impl_ReadSegment_2 121 (sub (bodyOf Tryd.f8) [1, 1, 1, 1, 1, 0, 1, 0, 0]) .z (kBlock 0 (kCut [] k_impl_ReadSegment_1)) m x
theorem r_impl_ReadSegment_0 (n m : Nat) (text_34 : List Int) (f0_35 : Int) (f1_36 : Int) (f2_37 : Int) (f3_38 : Int) (f4_39 : Int) (f5_40 : Int) (f6_41 : Int) (f7_42 : Bool) (f8_43 : Int) (f9_44 : Bool) (f0_45 : Int) (f1_46 : Int) (f2_47 : Int) (f3_48 : Int) (f4_49 : Int) (f5_50 : Int) (f6_51 : Int) (f7_52 : Bool) (f8_53 : Int) (f9_54 : Bool) (it_55 : List Int) (p_56 : Nat) (f0_57 : List (List Int)) (f1_58 : Bool) :
    rnd (E_impl_ReadSegment n) [] k_impl_ReadSegment_2 121 (sub (bodyOf Tryd.f8) [1, 1, 1, 1, 1, 0, 1, 0, 0]) .z (kBlock 0 (kCut [] k_impl_ReadSegment_1)) (fun x => l_impl_ReadSegment_0 n m x.1.1 x.2.1.1 x.2.1.2.1 x.2.1.2.2.1 x.2.1.2.2.2.1 x.2.1.2.2.2.2.1 x.2.1.2.2.2.2.2.1 x.2.1.2.2.2.2.2.2.1 x.2.1.2.2.2.2.2.2.2.1 x.2.1.2.2.2.2.2.2.2.2.1 x.2.1.2.2.2.2.2.2.2.2.2.1 x.2.2.2.1.1 x.2.2.2.1.2.1 x.2.2.2.1.2.2.1 x.2.2.2.1.2.2.2.1 x.2.2.2.1.2.2.2.2.1 x.2.2.2.1.2.2.2.2.2.1 x.2.2.2.1.2.2.2.2.2.2.1 x.2.2.2.1.2.2.2.2.2.2.2.1 x.2.2.2.1.2.2.2.2.2.2.2.2.1 x.2.2.2.1.2.2.2.2.2.2.2.2.2.1 x.2.2.2.2.1.1 x.2.2.2.2.1.2 x.2.2.2.2.2.1.1 x.2.2.2.2.2.1.2.1) ((text_34, (), (), ((), ()), (), (), ()), ((f0_35, f1_36, f2_37, f3_38, f4_39, f5_40, f6_41, f7_42, f8_43, f9_44, (), (), ()), ((), ()), (f0_45, f1_46, f2_47, f3_48, f4_49, f5_50, f6_51, f7_52, f8_53, f9_54, (), (), ()), (it_55, p_56), (f0_57, f1_58, ()), ()))
      = l_impl_ReadSegment_0 n (m + 1) text_34 f0_35 f1_36 f2_37 f3_38 f4_39 f5_40 f6_41 f7_42 f8_43 f9_44 f0_45 f1_46 f2_47 f3_48 f4_49 f5_50 f6_51 f7_52 f8_53 f9_54 it_55 p_56 f0_57 f1_58 := by kernel_rfl
theorem lp_impl_ReadSegment_0 (n : Nat) : ∀ (m : Nat) (x : Tm.T k_impl_ReadSegment_2), b_impl_ReadSegment_0 n m x = l_impl_ReadSegment_0 n m x.1.1 x.2.1.1 x.2.1.2.1 x.2.1.2.2.1 x.2.1.2.2.2.1 x.2.1.2.2.2.2.1 x.2.1.2.2.2.2.2.1 x.2.1.2.2.2.2.2.2.1 x.2.1.2.2.2.2.2.2.2.1 x.2.1.2.2.2.2.2.2.2.2.1 x.2.1.2.2.2.2.2.2.2.2.2.1 x.2.2.2.1.1 x.2.2.2.1.2.1 x.2.2.2.1.2.2.1 x.2.2.2.1.2.2.2.1 x.2.2.2.1.2.2.2.2.1 x.2.2.2.1.2.2.2.2.2.1 x.2.2.2.1.2.2.2.2.2.2.1 x.2.2.2.1.2.2.2.2.2.2.2.1 x.2.2.2.1.2.2.2.2.2.2.2.2.1 x.2.2.2.1.2.2.2.2.2.2.2.2.2.1 x.2.2.2.2.1.1 x.2.2.2.2.1.2 x.2.2.2.2.2.1.1 x.2.2.2.2.2.1.2.1
  | 0, _ => rfl
  | m + 1, x => by
    unfold b_impl_ReadSegment_0
    rw [lpF_succ]
    have ih : lpF (E_impl_ReadSegment n) [] k_impl_ReadSegment_2 121 (sub (bodyOf Tryd.f8) [1, 1, 1, 1, 1, 0, 1, 0, 0]) .z (kBlock 0 (kCut [] k_impl_ReadSegment_1)) m = (fun x => l_impl_ReadSegment_0 n m x.1.1 x.2.1.1 x.2.1.2.1 x.2.1.2.2.1 x.2.1.2.2.2.1 x.2.1.2.2.2.2.1 x.2.1.2.2.2.2.2.1 x.2.1.2.2.2.2.2.2.1 x.2.1.2.2.2.2.2.2.2.1 x.2.1.2.2.2.2.2.2.2.2.1 x.2.1.2.2.2.2.2.2.2.2.2.1 x.2.2.2.1.1 x.2.2.2.1.2.1 x.2.2.2.1.2.2.1 x.2.2.2.1.2.2.2.1 x.2.2.2.1.2.2.2.2.1 x.2.2.2.1.2.2.2.2.2.1 x.2.2.2.1.2.2.2.2.2.2.1 x.2.2.2.1.2.2.2.2.2.2.2.1 x.2.2.2.1.2.2.2.2.2.2.2.2.1 x.2.2.2.1.2.2.2.2.2.2.2.2.2.1 x.2.2.2.2.1.1 x.2.2.2.2.1.2 x.2.2.2.2.2.1.1 x.2.2.2.2.2.1.2.1) := funext fun x => lp_impl_ReadSegment_0 n m x
    rw [ih]
    exact r_impl_ReadSegment_0 n m x.1.1 x.2.1.1 x.2.1.2.1 x.2.1.2.2.1 x.2.1.2.2.2.1 x.2.1.2.2.2.2.1 x.2.1.2.2.2.2.2.1 x.2.1.2.2.2.2.2.2.1 x.2.1.2.2.2.2.2.2.2.1 x.2.1.2.2.2.2.2.2.2.2.1 x.2.1.2.2.2.2.2.2.2.2.2.1 x.2.2.2.1.1 x.2.2.2.1.2.1 x.2.2.2.1.2.2.1 x.2.2.2.1.2.2.2.1 x.2.2.2.1.2.2.2.2.1 x.2.2.2.1.2.2.2.2.2.1 x.2.2.2.1.2.2.2.2.2.2.1 x.2.2.2.1.2.2.2.2.2.2.2.1 x.2.2.2.1.2.2.2.2.2.2.2.2.1 x.2.2.2.1.2.2.2.2.2.2.2.2.2.1 x.2.2.2.2.1.1 x.2.2.2.2.1.2 x.2.2.2.2.2.1.1 x.2.2.2.2.2.1.2.1
noncomputable def b_impl_ReadSegment_1 (n m : Nat) (x : Tm.T k_impl_ReadSegment_4) : Option (((List Int) × Unit × Unit × Unit × Unit) × ((Int × Int × Int × Int × Int × Int × Int × Bool × Int × Bool × Unit × Unit × Unit) × (Unit × Unit) × (Int × Int × Int × Int × Int × Int × Int × Bool × Int × Bool × Unit × Unit × Unit) × ((List (List Int)) × Bool × Unit) × (List (Int × Int × Unit)) × Unit)) := lpF (E_impl_ReadSegment n) [] k_impl_ReadSegment_4 121 (sub (bodyOf Tryd.f8) [1, 1, 1, 1, 1, 1, 1, 1, 1, 1, 0, 0, 0]) .z (kBlock 2 (kCut [] k_impl_ReadSegment_3)) m x
theorem r_impl_ReadSegment_1 (n m : Nat) (text_128 : List Int) (f0_129 : Int) (f1_130 : Int) (f2_131 : Int) (f3_132 : Int) (f4_133 : Int) (f5_134 : Int) (f6_135 : Int) (f7_136 : Bool) (f8_137 : Int) (f9_138 : Bool) (f0_139 : Int) (f1_140 : Int) (f2_141 : Int) (f3_142 : Int) (f4_143 : Int) (f5_144 : Int) (f6_145 : Int) (f7_146 : Bool) (f8_147 : Int) (f9_148 : Bool) (f0_149 : List (List Int)) (f1_150 : Bool) (a_151 : List (Int × Int × Unit)) :
    rnd (E_impl_ReadSegment n) [] k_impl_ReadSegment_4 121 (sub (bodyOf Tryd.f8) [1, 1, 1, 1, 1, 1, 1, 1, 1, 1, 0, 0, 0]) .z (kBlock 2 (kCut [] k_impl_ReadSegment_3)) (fun x => l_impl_ReadSegment_1 n m x.1.1 x.2.1.1 x.2.1.2.1 x.2.1.2.2.1 x.2.1.2.2.2.1 x.2.1.2.2.2.2.1 x.2.1.2.2.2.2.2.1 x.2.1.2.2.2.2.2.2.1 x.2.1.2.2.2.2.2.2.2.1 x.2.1.2.2.2.2.2.2.2.2.1 x.2.1.2.2.2.2.2.2.2.2.2.1 x.2.2.2.1.1 x.2.2.2.1.2.1 x.2.2.2.1.2.2.1 x.2.2.2.1.2.2.2.1 x.2.2.2.1.2.2.2.2.1 x.2.2.2.1.2.2.2.2.2.1 x.2.2.2.1.2.2.2.2.2.2.1 x.2.2.2.1.2.2.2.2.2.2.2.1 x.2.2.2.1.2.2.2.2.2.2.2.2.1 x.2.2.2.1.2.2.2.2.2.2.2.2.2.1 x.2.2.2.2.1.1 x.2.2.2.2.1.2.1 x.2.2.2.2.2.1) ((text_128, (), (), ((), ()), (), ()), ((f0_129, f1_130, f2_131, f3_132, f4_133, f5_134, f6_135, f7_136, f8_137, f9_138, (), (), ()), ((), ()), (f0_139, f1_140, f2_141, f3_142, f4_143, f5_144, f6_145, f7_146, f8_147, f9_148, (), (), ()), (f0_149, f1_150, ()), a_151, ()))
      = l_impl_ReadSegment_1 n (m + 1) text_128 f0_129 f1_130 f2_131 f3_132 f4_133 f5_134 f6_135 f7_136 f8_137 f9_138 f0_139 f1_140 f2_141 f3_142 f4_143 f5_144 f6_145 f7_146 f8_147 f9_148 f0_149 f1_150 a_151 := by kernel_rfl
theorem lp_impl_ReadSegment_1 (n : Nat) : ∀ (m : Nat) (x : Tm.T k_impl_ReadSegment_4), b_impl_ReadSegment_1 n m x = l_impl_ReadSegment_1 n m x.1.1 x.2.1.1 x.2.1.2.1 x.2.1.2.2.1 x.2.1.2.2.2.1 x.2.1.2.2.2.2.1 x.2.1.2.2.2.2.2.1 x.2.1.2.2.2.2.2.2.1 x.2.1.2.2.2.2.2.2.2.1 x.2.1.2.2.2.2.2.2.2.2.1 x.2.1.2.2.2.2.2.2.2.2.2.1 x.2.2.2.1.1 x.2.2.2.1.2.1 x.2.2.2.1.2.2.1 x.2.2.2.1.2.2.2.1 x.2.2.2.1.2.2.2.2.1 x.2.2.2.1.2.2.2.2.2.1 x.2.2.2.1.2.2.2.2.2.2.1 x.2.2.2.1.2.2.2.2.2.2.2.1 x.2.2.2.1.2.2.2.2.2.2.2.2.1 x.2.2.2.1.2.2.2.2.2.2.2.2.2.1 x.2.2.2.2.1.1 x.2.2.2.2.1.2.1 x.2.2.2.2.2.1
  | 0, _ => rfl
  | m + 1, x => by
    unfold b_impl_ReadSegment_1
    rw [lpF_succ]
    have ih : lpF (E_impl_ReadSegment n) [] k_impl_ReadSegment_4 121 (sub (bodyOf Tryd.f8) [1, 1, 1, 1, 1, 1, 1, 1, 1, 1, 0, 0, 0]) .z (kBlock 2 (kCut [] k_impl_ReadSegment_3)) m = (fun x => l_impl_ReadSegment_1 n m x.1.1 x.2.1.1 x.2.1.2.1 x.2.1.2.2.1 x.2.1.2.2.2.1 x.2.1.2.2.2.2.1 x.2.1.2.2.2.2.2.1 x.2.1.2.2.2.2.2.2.1 x.2.1.2.2.2.2.2.2.2.1 x.2.1.2.2.2.2.2.2.2.2.1 x.2.1.2.2.2.2.2.2.2.2.2.1 x.2.2.2.1.1 x.2.2.2.1.2.1 x.2.2.2.1.2.2.1 x.2.2.2.1.2.2.2.1 x.2.2.2.1.2.2.2.2.1 x.2.2.2.1.2.2.2.2.2.1 x.2.2.2.1.2.2.2.2.2.2.1 x.2.2.2.1.2.2.2.2.2.2.2.1 x.2.2.2.1.2.2.2.2.2.2.2.2.1 x.2.2.2.1.2.2.2.2.2.2.2.2.2.1 x.2.2.2.2.1.1 x.2.2.2.2.1.2.1 x.2.2.2.2.2.1) := funext fun x => lp_impl_ReadSegment_1 n m x
    rw [ih]
    exact r_impl_ReadSegment_1 n m x.1.1 x.2.1.1 x.2.1.2.1 x.2.1.2.2.1 x.2.1.2.2.2.1 x.2.1.2.2.2.2.1 x.2.1.2.2.2.2.2.1 x.2.1.2.2.2.2.2.2.1 x.2.1.2.2.2.2.2.2.2.1 x.2.1.2.2.2.2.2.2.2.2.1 x.2.1.2.2.2.2.2.2.2.2.2.1 x.2.2.2.1.1 x.2.2.2.1.2.1 x.2.2.2.1.2.2.1 x.2.2.2.1.2.2.2.1 x.2.2.2.1.2.2.2.2.1 x.2.2.2.1.2.2.2.2.2.1 x.2.2.2.1.2.2.2.2.2.2.1 x.2.2.2.1.2.2.2.2.2.2.2.1 x.2.2.2.1.2.2.2.2.2.2.2.2.1 x.2.2.2.1.2.2.2.2.2.2.2.2.2.1 x.2.2.2.2.1.1 x.2.2.2.2.1.2.1 x.2.2.2.2.2.1
abbrev k_impl_ReadSegment_5 : Tm := ⟨[(0, .str), (2, (.ptr 2)), (4, (.ptr 4)), (6, (.ptr 6)), (12, (.own 2087))], [(2, (.box [(.int .i64), (.int .i64), (.int .i64), (.int .i64), (.int .i64), (.int .i64), (.int .i64), .bool, (.int .i64), .bool, .nilsl, .nilsl])), (4, (.box [(.ptr 19)])), (6, (.box [(.int .i64), (.int .i64), (.int .i64), (.int .i64), (.int .i64), (.int .i64), (.int .i64), .bool, (.int .i64), .bool, (.own 80), .nilsl])), (2087, (.arr (.int .u8))), (19, (.box [(.ro .str), .bool])), (80, (.arr (.pair (.int .i64) (.pair (.int .i64) .unit))))]⟩
abbrev k_impl_ReadSegment_6 : Tm := ⟨[(0, .str), (2, (.ptr 2)), (4, (.ptr 4)), (6, (.ptr 6))], [(2, (.box [(.int .i64), (.int .i64), (.int .i64), (.int .i64), (.int .i64), (.int .i64), (.int .i64), .bool, (.int .i64), .bool, .nilsl, .nilsl])), (4, (.box [(.ptr 19)])), (6, (.box [(.int .i64), (.int .i64), (.int .i64), (.int .i64), (.int .i64), (.int .i64), (.int .i64), .bool, (.int .i64), .bool, (.own 80), (.own 2087)])), (19, (.box [(.ro .str), .bool])), (80, (.arr (.pair (.int .i64) (.pair (.int .i64) .unit)))), (2087, (.arr (.int .u8)))]⟩
abbrev k_impl_ReadSegment_7 : Tm := ⟨[(2, (.ptr 2)), (6, (.ptr 6)), (118, .bool)], [(2, (.box [(.int .i64), (.int .i64), (.int .i64), (.int .i64), (.int .i64), (.int .i64), (.int .i64), .bool, (.int .i64), .bool, .nilsl, .nilsl])), (6, (.box [(.int .i64), (.int .i64), (.int .i64), (.int .i64), (.int .i64), (.int .i64), (.int .i64), .bool, (.int .i64), .bool, (.own 80), (.own 2087)])), (80, (.arr (.pair (.int .i64) (.pair (.int .i64) .unit)))), (2087, (.arr (.int .u8)))]⟩
theorem e_impl_ReadSegment (n : Nat) (text_1 : List Int) :
    evalFn (E_impl_ReadSegment n) Tryd.f8 k_impl_ReadSegment_0 (.tup [(.agg [(.int .i64), (.int .i64), (.int .i64), (.int .i64), (.int .i64), (.int .i64), (.int .i64), .bool, (.int .i64), .bool, (.own 1), (.own 2)]), (.int .i64)]) [(1, (.arr (.pair (.int .i64) (.pair (.int .i64) .unit)))), (2, (.arr (.int .u8)))] (.two .z (.two .z (.two .z (.two .z (.two .z (.two (.two .z (.cut k_impl_ReadSegment_1 (.one (.loop k_impl_ReadSegment_2 .z)))) (.two .z (.two (.two .z (.cut k_impl_ReadSegment_1 .z)) (.two (.two .z (.cut k_impl_ReadSegment_1 .z)) (.two .z (.two (.cut k_impl_ReadSegment_3 (.one (.loop k_impl_ReadSegment_4 .z))) (.two (.two .z (.cut k_impl_ReadSegment_6 (.two (.two .z (.two (.cut k_impl_ReadSegment_5 .z) .z)) .z))) (.two .z (.two (.two .z (.two (.cut k_impl_ReadSegment_7 .z) .z)) .z)))))))))))))) ((text_1, ()), ())
      = g_impl_ReadSegment n text_1 := by
  refine Eq.trans (b := t_impl_ReadSegment n (fun a0 a1 a2 a3 a4 a5 a6 a7 a8 a9 a10 a11 a12 a13 a14 a15 a16 a17 a18 a19 a20 a21 a22 a23 a24 => b_impl_ReadSegment_0 n n ((a0, (), (), ((), ()), (), (), ()), ((a1, a2, a3, a4, a5, a6, a7, a8, a9, a10, (), (), ()), ((), ()), (a11, a12, a13, a14, a15, a16, a17, a18, a19, a20, (), (), ()), (a21, a22), (a23, a24, ()), ()))) (fun a0 a1 a2 a3 a4 a5 a6 a7 a8 a9 a10 a11 a12 a13 a14 a15 a16 a17 a18 a19 a20 a21 a22 a23 => b_impl_ReadSegment_1 n n ((a0, (), (), ((), ()), (), ()), ((a1, a2, a3, a4, a5, a6, a7, a8, a9, a10, (), (), ()), ((), ()), (a11, a12, a13, a14, a15, a16, a17, a18, a19, a20, (), (), ()), (a21, a22, ()), a23, ()))) text_1) (by kernel_rfl) ?_
  have e0 : (fun a0 a1 a2 a3 a4 a5 a6 a7 a8 a9 a10 a11 a12 a13 a14 a15 a16 a17 a18 a19 a20 a21 a22 a23 a24 => b_impl_ReadSegment_0 n n ((a0, (), (), ((), ()), (), (), ()), ((a1, a2, a3, a4, a5, a6, a7, a8, a9, a10, (), (), ()), ((), ()), (a11, a12, a13, a14, a15, a16, a17, a18, a19, a20, (), (), ()), (a21, a22), (a23, a24, ()), ()))) = l_impl_ReadSegment_0 n n := by funext a0 a1 a2 a3 a4 a5 a6 a7 a8 a9 a10 a11 a12 a13 a14 a15 a16 a17 a18 a19 a20 a21 a22 a23 a24; exact lp_impl_ReadSegment_0 n n _
  have e1 : (fun a0 a1 a2 a3 a4 a5 a6 a7 a8 a9 a10 a11 a12 a13 a14 a15 a16 a17 a18 a19 a20 a21 a22 a23 => b_impl_ReadSegment_1 n n ((a0, (), (), ((), ()), (), ()), ((a1, a2, a3, a4, a5, a6, a7, a8, a9, a10, (), (), ()), ((), ()), (a11, a12, a13, a14, a15, a16, a17, a18, a19, a20, (), (), ()), (a21, a22, ()), a23, ()))) = l_impl_ReadSegment_1 n n := by funext a0 a1 a2 a3 a4 a5 a6 a7 a8 a9 a10 a11 a12 a13 a14 a15 a16 a17 a18 a19 a20 a21 a22 a23; exact lp_impl_ReadSegment_1 n n _
  rw [e0, e1]
  rfl
theorem S_impl_ReadSegment {gl : List (Nat × Obj)} (hL : LibG gl) : Sat Tryd.prog gl 8 c_impl_ReadSegment :=
  sat_eval Tryd.func8 ⟨_, Tryd.func8, by kernel_rfl, by kernel_rfl⟩ (ct_cons (S_impl_ShowSegment hL) (ct_cons (S_strings_Split hL) (ct_cons (S_impl_ReadSegment_f1 hL) (ct_cons S_impl_wordReader_next (ct_cons S_strings_IndexRune (ct_cons S_impl_wordReader_number (ct_cons S_impl_wordReader_is (ct_cons (S_encoding_hex_DecodeString hL) (ct_cons S_impl_wordReader_done (fun _ _ h => by cases h)))))))))) (fun n x y h => ⟨n, [], (e_impl_ReadSegment n x.1.1).trans h⟩)

/-! loop.example/g00003/laws.lwSame -/
abbrev k_laws_lwSame_0 : Tm := ⟨[(0, (.ro (.int .u8))), (1, (.ro (.int .u8)))], []⟩
noncomputable def c_laws_lwSame : Con := ⟨k_laws_lwSame_0, .bool, [], fun n x => g_laws_lwSame n x.1.1 x.1.2.1⟩
noncomputable def ct_laws_lwSame : List (Nat × Con) := []
noncomputable def E_laws_lwSame (n : Nat) : Env := { P := Tryd.prog, ct := ct_laws_lwSame, fuel := n }
theorem e_laws_lwSame (n : Nat) (a_1 : List Int) (b_2 : List Int) :
    evalFn (E_laws_lwSame n) Tryd.f38 k_laws_lwSame_0 .bool [] .z ((a_1, b_2, ()), ())
      = g_laws_lwSame n a_1 b_2 := by kernel_rfl
theorem S_laws_lwSame {gl : List (Nat × Obj)} : Sat Tryd.prog gl 38 c_laws_lwSame :=
  sat_eval Tryd.func38 ⟨_, Tryd.func38, by kernel_rfl, by kernel_rfl⟩ (fun _ _ h => by cases h) (fun n x y h => ⟨n, [], (e_laws_lwSame n x.1.1 x.1.2.1).trans h⟩)

/-! loop.example/g00003/laws.lwSegment -/
abbrev k_laws_lwSegment_0 : Tm := ⟨[(0, (.agg [(.int .i64), (.int .i64), (.int .i64), (.int .i64), (.int .i64), (.int .i64), (.int .i64), .bool, (.int .i64), .bool, (.ro (.pair (.int .i64) (.pair (.int .i64) .unit))), (.ro (.int .u8))])), (1, (.agg [(.int .i64), (.int .i64), (.int .i64), (.int .i64), (.int .i64), (.int .i64), (.int .i64), .bool, (.int .i64), .bool, (.ro (.pair (.int .i64) (.pair (.int .i64) .unit))), (.ro (.int .u8))]))], []⟩
noncomputable def c_laws_lwSegment : Con := ⟨k_laws_lwSegment_0, .bool, [], fun n x => g_laws_lwSegment n x.1.1.1 x.1.1.2.1 x.1.1.2.2.1 x.1.1.2.2.2.1 x.1.1.2.2.2.2.1 x.1.1.2.2.2.2.2.1 x.1.1.2.2.2.2.2.2.1 x.1.1.2.2.2.2.2.2.2.1 x.1.1.2.2.2.2.2.2.2.2.1 x.1.1.2.2.2.2.2.2.2.2.2.1 x.1.1.2.2.2.2.2.2.2.2.2.2.1 x.1.1.2.2.2.2.2.2.2.2.2.2.2.1 x.1.2.1.1 x.1.2.1.2.1 x.1.2.1.2.2.1 x.1.2.1.2.2.2.1 x.1.2.1.2.2.2.2.1 x.1.2.1.2.2.2.2.2.1 x.1.2.1.2.2.2.2.2.2.1 x.1.2.1.2.2.2.2.2.2.2.1 x.1.2.1.2.2.2.2.2.2.2.2.1 x.1.2.1.2.2.2.2.2.2.2.2.2.1 x.1.2.1.2.2.2.2.2.2.2.2.2.2.1 x.1.2.1.2.2.2.2.2.2.2.2.2.2.2.1⟩
noncomputable def ct_laws_lwSegment : List (Nat × Con) := [(38, c_laws_lwSame)]
noncomputable def E_laws_lwSegment (n : Nat) : Env := { P := Tryd.prog, ct := ct_laws_lwSegment, fuel := n }
abbrev k_laws_lwSegment_1 : Tm := ⟨[(2, (.ptr 2)), (3, (.ptr 3))], [(2, (.box [(.int .i64), (.int .i64), (.int .i64), (.int .i64), (.int .i64), (.int .i64), (.int .i64), .bool, (.int .i64), .bool, (.ro (.pair (.int .i64) (.pair (.int .i64) .unit))), (.ro (.int .u8))])), (3, (.box [(.int .i64), (.int .i64), (.int .i64), (.int .i64), (.int .i64), (.int .i64), (.int .i64), .bool, (.int .i64), .bool, (.ro (.pair (.int .i64) (.pair (.int .i64) .unit))), (.ro (.int .u8))]))]⟩
abbrev k_laws_lwSegment_2 : Tm := ⟨[(2, (.ptr 2)), (3, (.ptr 3)), (5, (.int .i64))], [(2, (.box [(.int .i64), (.int .i64), (.int .i64), (.int .i64), (.int .i64), (.int .i64), (.int .i64), .bool, (.int .i64), .bool, (.ro (.pair (.int .i64) (.pair (.int .i64) .unit))), (.ro (.int .u8))])), (3, (.box [(.int .i64), (.int .i64), (.int .i64), (.int .i64), (.int .i64), (.int .i64), (.int .i64), .bool, (.int .i64), .bool, (.ro (.pair (.int .i64) (.pair (.int .i64) .unit))), (.ro (.int .u8))]))]⟩
noncomputable def b_laws_lwSegment_0 (n m : Nat) (x : Tm.T k_laws_lwSegment_2) : Option ((Bool) × (Unit) ⊕ ((Unit × Unit × Unit) × ((Int × Int × Int × Int × Int × Int × Int × Bool × Int × Bool × (List (Int × Int × Unit)) × (List Int) × Unit) × (Int × Int × Int × Int × Int × Int × Int × Bool × Int × Bool × (List (Int × Int × Unit)) × (List Int) × Unit) × Unit))) := lpF (E_laws_lwSegment n) [] k_laws_lwSegment_2 106 (sub (bodyOf Tryd.f9) [1, 1, 0, 1, 0, 0]) .z (kBlock 0 (kCutr [] k_laws_lwSegment_1 (kFinR (E_laws_lwSegment n) Tryd.f9 .bool []))) m x
theorem r_laws_lwSegment_0 (n m : Nat) (i_78 : Int) (f0_79 : Int) (f1_80 : Int) (f2_81 : Int) (f3_82 : Int) (f4_83 : Int) (f5_84 : Int) (f6_85 : Int) (f7_86 : Bool) (f8_87 : Int) (f9_88 : Bool) (f10_89 : List (Int × Int × Unit)) (f11_90 : List Int) (f0_91 : Int) (f1_92 : Int) (f2_93 : Int) (f3_94 : Int) (f4_95 : Int) (f5_96 : Int) (f6_97 : Int) (f7_98 : Bool) (f8_99 : Int) (f9_100 : Bool) (f10_101 : List (Int × Int × Unit)) (f11_102 : List Int) :
    rnd (E_laws_lwSegment n) [] k_laws_lwSegment_2 106 (sub (bodyOf Tryd.f9) [1, 1, 0, 1, 0, 0]) .z (kBlock 0 (kCutr [] k_laws_lwSegment_1 (kFinR (E_laws_lwSegment n) Tryd.f9 .bool []))) (fun x => l_laws_lwSegment_0 n m x.1.2.2.1 x.2.1.1 x.2.1.2.1 x.2.1.2.2.1 x.2.1.2.2.2.1 x.2.1.2.2.2.2.1 x.2.1.2.2.2.2.2.1 x.2.1.2.2.2.2.2.2.1 x.2.1.2.2.2.2.2.2.2.1 x.2.1.2.2.2.2.2.2.2.2.1 x.2.1.2.2.2.2.2.2.2.2.2.1 x.2.1.2.2.2.2.2.2.2.2.2.2.1 x.2.1.2.2.2.2.2.2.2.2.2.2.2.1 x.2.2.1.1 x.2.2.1.2.1 x.2.2.1.2.2.1 x.2.2.1.2.2.2.1 x.2.2.1.2.2.2.2.1 x.2.2.1.2.2.2.2.2.1 x.2.2.1.2.2.2.2.2.2.1 x.2.2.1.2.2.2.2.2.2.2.1 x.2.2.1.2.2.2.2.2.2.2.2.1 x.2.2.1.2.2.2.2.2.2.2.2.2.1 x.2.2.1.2.2.2.2.2.2.2.2.2.2.1 x.2.2.1.2.2.2.2.2.2.2.2.2.2.2.1) (((), (), i_78, ()), ((f0_79, f1_80, f2_81, f3_82, f4_83, f5_84, f6_85, f7_86, f8_87, f9_88, f10_89, f11_90, ()), (f0_91, f1_92, f2_93, f3_94, f4_95, f5_96, f6_97, f7_98, f8_99, f9_100, f10_101, f11_102, ()), ()))
      = l_laws_lwSegment_0 n (m + 1) i_78 f0_79 f1_80 f2_81 f3_82 f4_83 f5_84 f6_85 f7_86 f8_87 f9_88 f10_89 f11_90 f0_91 f1_92 f2_93 f3_94 f4_95 f5_96 f6_97 f7_98 f8_99 f9_100 f10_101 f11_102 := by kernel_rfl
theorem lp_laws_lwSegment_0 (n : Nat) : ∀ (m : Nat) (x : Tm.T k_laws_lwSegment_2), b_laws_lwSegment_0 n m x = l_laws_lwSegment_0 n m x.1.2.2.1 x.2.1.1 x.2.1.2.1 x.2.1.2.2.1 x.2.1.2.2.2.1 x.2.1.2.2.2.2.1 x.2.1.2.2.2.2.2.1 x.2.1.2.2.2.2.2.2.1 x.2.1.2.2.2.2.2.2.2.1 x.2.1.2.2.2.2.2.2.2.2.1 x.2.1.2.2.2.2.2.2.2.2.2.1 x.2.1.2.2.2.2.2.2.2.2.2.2.1 x.2.1.2.2.2.2.2.2.2.2.2.2.2.1 x.2.2.1.1 x.2.2.1.2.1 x.2.2.1.2.2.1 x.2.2.1.2.2.2.1 x.2.2.1.2.2.2.2.1 x.2.2.1.2.2.2.2.2.1 x.2.2.1.2.2.2.2.2.2.1 x.2.2.1.2.2.2.2.2.2.2.1 x.2.2.1.2.2.2.2.2.2.2.2.1 x.2.2.1.2.2.2.2.2.2.2.2.2.1 x.2.2.1.2.2.2.2.2.2.2.2.2.2.1 x.2.2.1.2.2.2.2.2.2.2.2.2.2.2.1
  | 0, _ => rfl
  | m + 1, x => by
    unfold b_laws_lwSegment_0
    rw [lpF_succ]
    have ih : lpF (E_laws_lwSegment n) [] k_laws_lwSegment_2 106 (sub (bodyOf Tryd.f9) [1, 1, 0, 1, 0, 0]) .z (kBlock 0 (kCutr [] k_laws_lwSegment_1 (kFinR (E_laws_lwSegment n) Tryd.f9 .bool []))) m = (fun x => l_laws_lwSegment_0 n m x.1.2.2.1 x.2.1.1 x.2.1.2.1 x.2.1.2.2.1 x.2.1.2.2.2.1 x.2.1.2.2.2.2.1 x.2.1.2.2.2.2.2.1 x.2.1.2.2.2.2.2.2.1 x.2.1.2.2.2.2.2.2.2.1 x.2.1.2.2.2.2.2.2.2.2.1 x.2.1.2.2.2.2.2.2.2.2.2.1 x.2.1.2.2.2.2.2.2.2.2.2.2.1 x.2.1.2.2.2.2.2.2.2.2.2.2.2.1 x.2.2.1.1 x.2.2.1.2.1 x.2.2.1.2.2.1 x.2.2.1.2.2.2.1 x.2.2.1.2.2.2.2.1 x.2.2.1.2.2.2.2.2.1 x.2.2.1.2.2.2.2.2.2.1 x.2.2.1.2.2.2.2.2.2.2.1 x.2.2.1.2.2.2.2.2.2.2.2.1 x.2.2.1.2.2.2.2.2.2.2.2.2.1 x.2.2.1.2.2.2.2.2.2.2.2.2.2.1 x.2.2.1.2.2.2.2.2.2.2.2.2.2.2.1) := funext fun x => lp_laws_lwSegment_0 n m x
    rw [ih]
    exact r_laws_lwSegment_0 n m x.1.2.2.1 x.2.1.1 x.2.1.2.1 x.2.1.2.2.1 x.2.1.2.2.2.1 x.2.1.2.2.2.2.1 x.2.1.2.2.2.2.2.1 x.2.1.2.2.2.2.2.2.1 x.2.1.2.2.2.2.2.2.2.1 x.2.1.2.2.2.2.2.2.2.2.1 x.2.1.2.2.2.2.2.2.2.2.2.1 x.2.1.2.2.2.2.2.2.2.2.2.2.1 x.2.1.2.2.2.2.2.2.2.2.2.2.2.1 x.2.2.1.1 x.2.2.1.2.1 x.2.2.1.2.2.1 x.2.2.1.2.2.2.1 x.2.2.1.2.2.2.2.1 x.2.2.1.2.2.2.2.2.1 x.2.2.1.2.2.2.2.2.2.1 x.2.2.1.2.2.2.2.2.2.2.1 x.2.2.1.2.2.2.2.2.2.2.2.1 x.2.2.1.2.2.2.2.2.2.2.2.2.1 x.2.2.1.2.2.2.2.2.2.2.2.2.2.1 x.2.2.1.2.2.2.2.2.2.2.2.2.2.2.1
abbrev k_laws_lwSegment_3 : Tm := ⟨[(2, (.ptr 2)), (3, (.ptr 3)), (82, .bool)], [(2, (.box [(.int .i64), (.int .i64), (.int .i64), (.int .i64), (.int .i64), (.int .i64), (.int .i64), .bool, (.int .i64), .bool, (.ro (.pair (.int .i64) (.pair (.int .i64) .unit))), (.ro (.int .u8))])), (3, (.box [(.int .i64), (.int .i64), (.int .i64), (.int .i64), (.int .i64), (.int .i64), (.int .i64), .bool, (.int .i64), .bool, (.ro (.pair (.int .i64) (.pair (.int .i64) .unit))), (.ro (.int .u8))]))]⟩
theorem e_laws_lwSegment (n : Nat) (a_1 : Int) (a_2 : Int) (a_3 : Int) (a_4 : Int) (a_5 : Int) (a_6 : Int) (a_7 : Int) (a_8 : Bool) (a_9 : Int) (a_10 : Bool) (a_11 : List (Int × Int × Unit)) (a_12 : List Int) (b_13 : Int) (b_14 : Int) (b_15 : Int) (b_16 : Int) (b_17 : Int) (b_18 : Int) (b_19 : Int) (b_20 : Bool) (b_21 : Int) (b_22 : Bool) (b_23 : List (Int × Int × Unit)) (b_24 : List Int) :
    evalFn (E_laws_lwSegment n) Tryd.f9 k_laws_lwSegment_0 .bool [] (.two .z (.two (.two (.cut k_laws_lwSegment_3 .z) .z) (.two (.two .z (.cutr k_laws_lwSegment_1 (.one (.loop k_laws_lwSegment_2 .z)))) .z))) (((a_1, a_2, a_3, a_4, a_5, a_6, a_7, a_8, a_9, a_10, a_11, a_12, ()), (b_13, b_14, b_15, b_16, b_17, b_18, b_19, b_20, b_21, b_22, b_23, b_24, ()), ()), ())
      = g_laws_lwSegment n a_1 a_2 a_3 a_4 a_5 a_6 a_7 a_8 a_9 a_10 a_11 a_12 b_13 b_14 b_15 b_16 b_17 b_18 b_19 b_20 b_21 b_22 b_23 b_24 := by
  refine Eq.trans (b := t_laws_lwSegment n (fun a0 a1 a2 a3 a4 a5 a6 a7 a8 a9 a10 a11 a12 a13 a14 a15 a16 a17 a18 a19 a20 a21 a22 a23 a24 => b_laws_lwSegment_0 n n (((), (), a0, ()), ((a1, a2, a3, a4, a5, a6, a7, a8, a9, a10, a11, a12, ()), (a13, a14, a15, a16, a17, a18, a19, a20, a21, a22, a23, a24, ()), ()))) a_1 a_2 a_3 a_4 a_5 a_6 a_7 a_8 a_9 a_10 a_11 a_12 b_13 b_14 b_15 b_16 b_17 b_18 b_19 b_20 b_21 b_22 b_23 b_24) (by kernel_rfl) ?_
  have e0 : (fun a0 a1 a2 a3 a4 a5 a6 a7 a8 a9 a10 a11 a12 a13 a14 a15 a16 a17 a18 a19 a20 a21 a22 a23 a24 => b_laws_lwSegment_0 n n (((), (), a0, ()), ((a1, a2, a3, a4, a5, a6, a7, a8, a9, a10, a11, a12, ()), (a13, a14, a15, a16, a17, a18, a19, a20, a21, a22, a23, a24, ()), ()))) = l_laws_lwSegment_0 n n := by funext a0 a1 a2 a3 a4 a5 a6 a7 a8 a9 a10 a11 a12 a13 a14 a15 a16 a17 a18 a19 a20 a21 a22 a23 a24; exact lp_laws_lwSegment_0 n n _
  rw [e0]
  rfl
theorem S_laws_lwSegment {gl : List (Nat × Obj)} : Sat Tryd.prog gl 9 c_laws_lwSegment :=
  sat_eval Tryd.func9 ⟨_, Tryd.func9, by kernel_rfl, by kernel_rfl⟩ (ct_cons S_laws_lwSame (fun _ _ h => by cases h)) (fun n x y h => ⟨n, [], (e_laws_lwSegment n x.1.1.1 x.1.1.2.1 x.1.1.2.2.1 x.1.1.2.2.2.1 x.1.1.2.2.2.2.1 x.1.1.2.2.2.2.2.1 x.1.1.2.2.2.2.2.2.1 x.1.1.2.2.2.2.2.2.2.1 x.1.1.2.2.2.2.2.2.2.2.1 x.1.1.2.2.2.2.2.2.2.2.2.1 x.1.1.2.2.2.2.2.2.2.2.2.2.1 x.1.1.2.2.2.2.2.2.2.2.2.2.2.1 x.1.2.1.1 x.1.2.1.2.1 x.1.2.1.2.2.1 x.1.2.1.2.2.2.1 x.1.2.1.2.2.2.2.1 x.1.2.1.2.2.2.2.2.1 x.1.2.1.2.2.2.2.2.2.1 x.1.2.1.2.2.2.2.2.2.2.1 x.1.2.1.2.2.2.2.2.2.2.2.1 x.1.2.1.2.2.2.2.2.2.2.2.2.1 x.1.2.1.2.2.2.2.2.2.2.2.2.2.1 x.1.2.1.2.2.2.2.2.2.2.2.2.2.2.1).trans h⟩)

/-! loop.example/g00003/spec.DrawReadSegment -/
abbrev k_spec_DrawReadSegment_0 : Tm := ⟨[(0, (.ro (.int .u8)))], []⟩
noncomputable def c_spec_DrawReadSegment : Con := ⟨k_spec_DrawReadSegment_0, .str, [], fun n x => g_spec_DrawReadSegment n x.1.1⟩
noncomputable def ct_spec_DrawReadSegment : List (Nat × Con) := [(7, c_spec_ShowSegment), (15, c_spec_l01Begin), (17, c_spec_l11Draw), (18, c_spec_l01Next), (39, c_spec_l01Bool)]
noncomputable def E_spec_DrawReadSegment (n : Nat) : Env := { P := Tryd.prog, ct := ct_spec_DrawReadSegment, fuel := n }
abbrev k_spec_DrawReadSegment_1 : Tm := ⟨[(4, .str), (6, (.int .i64)), (7, .str), (8, (.int .i64)), (32, .bool)], []⟩
theorem e_spec_DrawReadSegment (n : Nat) (code_1 : List Int) :
    evalFn (E_spec_DrawReadSegment n) Tryd.f10 k_spec_DrawReadSegment_0 .str [] (.two .z (.two .z (.two .z (.two .z (.two .z (.two .z (.two .z (.two (.two (.cut k_spec_DrawReadSegment_1 .z) .z) .z)))))))) ((code_1, ()), ())
      = g_spec_DrawReadSegment n code_1 := by kernel_rfl
theorem S_spec_DrawReadSegment {gl : List (Nat × Obj)} : Sat Tryd.prog gl 10 c_spec_DrawReadSegment :=
  sat_eval Tryd.func10 ⟨_, Tryd.func10, by kernel_rfl, by kernel_rfl⟩ (ct_cons S_spec_ShowSegment (ct_cons S_spec_l01Begin (ct_cons S_spec_l11Draw (ct_cons S_spec_l01Next (ct_cons S_spec_l01Bool (fun _ _ h => by cases h)))))) (fun n x y h => ⟨n, [], (e_spec_DrawReadSegment n x.1.1).trans h⟩)

/-! loop.example/g00003/spec.l02Cut -/
abbrev k_spec_l02Cut_0 : Tm := ⟨[(0, .str), (1, (.int .u8))], []⟩
noncomputable def c_spec_l02Cut : Con := ⟨k_spec_l02Cut_0, (.own 1), [(1, (.arr .str))], fun n x => g_spec_l02Cut n x.1.1 x.1.2.1⟩
noncomputable def ct_spec_l02Cut : List (Nat × Con) := []
noncomputable def E_spec_l02Cut (n : Nat) : Env := { P := Tryd.prog, ct := ct_spec_l02Cut, fuel := n }
abbrev k_spec_l02Cut_1 : Tm := ⟨[(0, .str), (5, (.own 8)), (6, (.int .i64))], [(8, (.arr .str))]⟩
abbrev k_spec_l02Cut_2 : Tm := ⟨[(0, .str), (1, (.int .u8)), (5, (.own 8)), (6, (.int .i64)), (7, (.int .i64))], [(8, (.arr .str))]⟩
noncomputable def b_spec_l02Cut_0 (n m : Nat) (x : Tm.T k_spec_l02Cut_2) : Option (((List Int) × Unit × Int × Unit) × ((List (List Int)) × Unit)) := lpF (E_spec_l02Cut n) [] k_spec_l02Cut_2 35 (sub (bodyOf Tryd.f40) [1, 1, 1, 0, 1, 0, 0]) .z (kBlock 0 (kCut [] k_spec_l02Cut_1)) m x
theorem r_spec_l02Cut_0 (n m : Nat) (text_16 : List Int) (at_17 : Int) (from_18 : Int) (i_19 : Int) (a_20 : List (List Int)) :
    rnd (E_spec_l02Cut n) [] k_spec_l02Cut_2 35 (sub (bodyOf Tryd.f40) [1, 1, 1, 0, 1, 0, 0]) .z (kBlock 0 (kCut [] k_spec_l02Cut_1)) (fun x => l_spec_l02Cut_0 n m x.1.1 x.1.2.1 x.1.2.2.2.1 x.1.2.2.2.2.1 x.2.1) ((text_16, at_17, (), from_18, i_19, ()), (a_20, ()))
      = l_spec_l02Cut_0 n (m + 1) text_16 at_17 from_18 i_19 a_20 := by kernel_rfl
theorem lp_spec_l02Cut_0 (n : Nat) : ∀ (m : Nat) (x : Tm.T k_spec_l02Cut_2), b_spec_l02Cut_0 n m x = l_spec_l02Cut_0 n m x.1.1 x.1.2.1 x.1.2.2.2.1 x.1.2.2.2.2.1 x.2.1
  | 0, _ => rfl
  | m + 1, x => by
    unfold b_spec_l02Cut_0
    rw [lpF_succ]
    have ih : lpF (E_spec_l02Cut n) [] k_spec_l02Cut_2 35 (sub (bodyOf Tryd.f40) [1, 1, 1, 0, 1, 0, 0]) .z (kBlock 0 (kCut [] k_spec_l02Cut_1)) m = (fun x => l_spec_l02Cut_0 n m x.1.1 x.1.2.1 x.1.2.2.2.1 x.1.2.2.2.2.1 x.2.1) := funext fun x => lp_spec_l02Cut_0 n m x
    rw [ih]
    exact r_spec_l02Cut_0 n m x.1.1 x.1.2.1 x.1.2.2.2.1 x.1.2.2.2.2.1 x.2.1
theorem e_spec_l02Cut (n : Nat) (text_1 : List Int) (at_2 : Int) :
    evalFn (E_spec_l02Cut n) Tryd.f40 k_spec_l02Cut_0 (.own 1) [(1, (.arr .str))] (.two .z (.two .z (.two .z (.two (.two .z (.cut k_spec_l02Cut_1 (.one (.loop k_spec_l02Cut_2 .z)))) .z)))) ((text_1, at_2, ()), ())
      = g_spec_l02Cut n text_1 at_2 := by
  refine Eq.trans (b := t_spec_l02Cut n (fun a0 a1 a2 a3 a4 => b_spec_l02Cut_0 n n ((a0, a1, (), a2, a3, ()), (a4, ()))) text_1 at_2) (by kernel_rfl) ?_
  have e0 : (fun a0 a1 a2 a3 a4 => b_spec_l02Cut_0 n n ((a0, a1, (), a2, a3, ()), (a4, ()))) = l_spec_l02Cut_0 n n := by funext a0 a1 a2 a3 a4; exact lp_spec_l02Cut_0 n n _
  rw [e0]
  rfl
theorem S_spec_l02Cut {gl : List (Nat × Obj)} : Sat Tryd.prog gl 40 c_spec_l02Cut :=
  sat_eval Tryd.func40 ⟨_, Tryd.func40, by kernel_rfl, by kernel_rfl⟩ (fun _ _ h => by cases h) (fun n x y h => ⟨n, [], (e_spec_l02Cut n x.1.1 x.1.2.1).trans h⟩)

/-! loop.example/g00003/spec.l02Number -/
abbrev k_spec_l02Number_0 : Tm := ⟨[(0, .str), (1, (.int .i64))], []⟩
noncomputable def c_spec_l02Number : Con := ⟨k_spec_l02Number_0, (.tup [(.int .i64), .bool]), [], fun n x => g_spec_l02Number n x.1.1 x.1.2.1⟩
noncomputable def ct_spec_l02Number : List (Nat × Con) := [(24, c_spec_l02Dec)]
noncomputable def E_spec_l02Number (n : Nat) : Env := { P := Tryd.prog, ct := ct_spec_l02Number, fuel := n }
abbrev k_spec_l02Number_1 : Tm := ⟨[(0, .str), (6, (.int .i64)), (7, (.int .i64)), (32, .bool)], []⟩
abbrev k_spec_l02Number_2 : Tm := ⟨[(0, .str), (6, (.int .i64))], []⟩
abbrev k_spec_l02Number_3 : Tm := ⟨[(0, .str), (6, (.int .i64)), (7, (.int .i64))], []⟩
noncomputable def b_spec_l02Number_0 (n m : Nat) (x : Tm.T k_spec_l02Number_3) : Option ((Int × Bool × Unit) × (Unit) ⊕ (((List Int) × Int × Unit) × (Unit))) := lpF (E_spec_l02Number n) [] k_spec_l02Number_3 46 (sub (bodyOf Tryd.f42) [1, 1, 1, 0, 1, 0, 0]) (.two .z (.two (.one (.two (.two (.cut k_spec_l02Number_1 .z) .z) .z)) .z)) (kBlock 0 (kCutr [] k_spec_l02Number_2 (kFinR (E_spec_l02Number n) Tryd.f42 (.tup [(.int .i64), .bool]) []))) m x
theorem r_spec_l02Number_0 (n m : Nat) (s_27 : List Int) (n_28 : Int) (i_29 : Int) :
    rnd (E_spec_l02Number n) [] k_spec_l02Number_3 46 (sub (bodyOf Tryd.f42) [1, 1, 1, 0, 1, 0, 0]) (.two .z (.two (.one (.two (.two (.cut k_spec_l02Number_1 .z) .z) .z)) .z)) (kBlock 0 (kCutr [] k_spec_l02Number_2 (kFinR (E_spec_l02Number n) Tryd.f42 (.tup [(.int .i64), .bool]) []))) (fun x => l_spec_l02Number_0 n m x.1.1 x.1.2.1 x.1.2.2.1) ((s_27, n_28, i_29, ()), ())
      = l_spec_l02Number_0 n (m + 1) s_27 n_28 i_29 := by kernel_rfl
theorem lp_spec_l02Number_0 (n : Nat) : ∀ (m : Nat) (x : Tm.T k_spec_l02Number_3), b_spec_l02Number_0 n m x = l_spec_l02Number_0 n m x.1.1 x.1.2.1 x.1.2.2.1
  | 0, _ => rfl
  | m + 1, x => by
    unfold b_spec_l02Number_0
    rw [lpF_succ]
    have ih : lpF (E_spec_l02Number n) [] k_spec_l02Number_3 46 (sub (bodyOf Tryd.f42) [1, 1, 1, 0, 1, 0, 0]) (.two .z (.two (.one (.two (.two (.cut k_spec_l02Number_1 .z) .z) .z)) .z)) (kBlock 0 (kCutr [] k_spec_l02Number_2 (kFinR (E_spec_l02Number n) Tryd.f42 (.tup [(.int .i64), .bool]) []))) m = (fun x => l_spec_l02Number_0 n m x.1.1 x.1.2.1 x.1.2.2.1) := funext fun x => lp_spec_l02Number_0 n m x
    rw [ih]
    exact r_spec_l02Number_0 n m x.1.1 x.1.2.1 x.1.2.2.1
abbrev k_spec_l02Number_4 : Tm := ⟨[(0, .str), (16, .bool)], []⟩
theorem e_spec_l02Number (n : Nat) (s_1 : List Int) (most_2 : Int) :
    evalFn (E_spec_l02Number n) Tryd.f42 k_spec_l02Number_0 (.tup [(.int .i64), .bool]) [] (.two .z (.two (.two (.cut k_spec_l02Number_4 .z) .z) (.two .z (.two (.two .z (.cutr k_spec_l02Number_2 (.one (.loop k_spec_l02Number_3 (.two .z (.two (.one (.two (.two (.cut k_spec_l02Number_1 .z) .z) .z)) .z)))))) .z)))) ((s_1, most_2, ()), ())
      = g_spec_l02Number n s_1 most_2 := by
  refine Eq.trans (b := t_spec_l02Number n (fun a0 a1 a2 => b_spec_l02Number_0 n n ((a0, a1, a2, ()), ())) s_1 most_2) (by kernel_rfl) ?_
  have e0 : (fun a0 a1 a2 => b_spec_l02Number_0 n n ((a0, a1, a2, ()), ())) = l_spec_l02Number_0 n n := by funext a0 a1 a2; exact lp_spec_l02Number_0 n n _
  rw [e0]
  rfl
theorem S_spec_l02Number {gl : List (Nat × Obj)} : Sat Tryd.prog gl 42 c_spec_l02Number :=
  sat_eval Tryd.func42 ⟨_, Tryd.func42, by kernel_rfl, by kernel_rfl⟩ (ct_cons S_spec_l02Dec (fun _ _ h => by cases h)) (fun n x y h => ⟨n, [], (e_spec_l02Number n x.1.1 x.1.2.1).trans h⟩)

/-! loop.example/g00003/spec.l11Pair -/
abbrev k_spec_l11Pair_0 : Tm := ⟨[(0, .str), (1, (.int .u8)), (2, (.int .i64))], []⟩
noncomputable def c_spec_l11Pair : Con := ⟨k_spec_l11Pair_0, (.tup [(.int .i64), (.int .i64), .bool]), [], fun n x => g_spec_l11Pair n x.1.1 x.1.2.1 x.1.2.2.1⟩
noncomputable def ct_spec_l11Pair : List (Nat × Con) := [(40, c_spec_l02Cut), (42, c_spec_l02Number)]
noncomputable def E_spec_l11Pair (n : Nat) : Env := { P := Tryd.prog, ct := ct_spec_l11Pair, fuel := n }
theorem e_spec_l11Pair (n : Nat) (w_1 : List Int) (at_2 : Int) (most_3 : Int) :
    evalFn (E_spec_l11Pair n) Tryd.f41 k_spec_l11Pair_0 (.tup [(.int .i64), (.int .i64), .bool]) [] .z ((w_1, at_2, most_3, ()), ())
      = g_spec_l11Pair n w_1 at_2 most_3 := by kernel_rfl
theorem S_spec_l11Pair {gl : List (Nat × Obj)} : Sat Tryd.prog gl 41 c_spec_l11Pair :=
  sat_eval Tryd.func41 ⟨_, Tryd.func41, by kernel_rfl, by kernel_rfl⟩ (ct_cons S_spec_l02Cut (ct_cons S_spec_l02Number (fun _ _ h => by cases h))) (fun n x y h => ⟨n, [], (e_spec_l11Pair n x.1.1 x.1.2.1 x.1.2.2.1).trans h⟩)

/-! loop.example/g00003/spec.l11Flags -/
abbrev k_spec_l11Flags_0 : Tm := ⟨[(0, .str)], []⟩
noncomputable def c_spec_l11Flags : Con := ⟨k_spec_l11Flags_0, (.int .i64), [], fun n x => g_spec_l11Flags n x.1.1⟩
noncomputable def ct_spec_l11Flags : List (Nat × Con) := [(26, c_spec_l11Bit)]
noncomputable def E_spec_l11Flags (n : Nat) : Env := { P := Tryd.prog, ct := ct_spec_l11Flags, fuel := n }
abbrev k_spec_l11Flags_1 : Tm := ⟨[(0, .str), (3, (.int .i64)), (4, (.int .i64))], []⟩
abbrev k_spec_l11Flags_2 : Tm := ⟨[(0, .str), (3, (.int .i64)), (4, (.int .i64)), (5, (.int .i64))], []⟩
abbrev k_spec_l11Flags_3 : Tm := ⟨[(3, (.int .i64))], []⟩
noncomputable def b_spec_l11Flags_1 (n m : Nat) (x : Tm.T k_spec_l11Flags_2) : Option (((List Int) × Int × Int × Unit) × (Unit)) := lpF (E_spec_l11Flags n) [] k_spec_l11Flags_2 27 (sub (bodyOf Tryd.f43) [1, 1, 0, 1, 0, 0, 1, 0, 0, 1, 0, 0]) .z (kBlock 2 (kCut [] k_spec_l11Flags_1)) m x
theorem r_spec_l11Flags_1 (n m : Nat) (w_48 : List Int) (n_49 : Int) (i_50 : Int) (k_51 : Int) :
    rnd (E_spec_l11Flags n) [] k_spec_l11Flags_2 27 (sub (bodyOf Tryd.f43) [1, 1, 0, 1, 0, 0, 1, 0, 0, 1, 0, 0]) .z (kBlock 2 (kCut [] k_spec_l11Flags_1)) (fun x => l_spec_l11Flags_1 n m x.1.1 x.1.2.1 x.1.2.2.1 x.1.2.2.2.1) ((w_48, n_49, i_50, k_51, ()), ())
      = l_spec_l11Flags_1 n (m + 1) w_48 n_49 i_50 k_51 := by kernel_rfl
theorem lp_spec_l11Flags_1 (n : Nat) : ∀ (m : Nat) (x : Tm.T k_spec_l11Flags_2), b_spec_l11Flags_1 n m x = l_spec_l11Flags_1 n m x.1.1 x.1.2.1 x.1.2.2.1 x.1.2.2.2.1
  | 0, _ => rfl
  | m + 1, x => by
    unfold b_spec_l11Flags_1
    rw [lpF_succ]
    have ih : lpF (E_spec_l11Flags n) [] k_spec_l11Flags_2 27 (sub (bodyOf Tryd.f43) [1, 1, 0, 1, 0, 0, 1, 0, 0, 1, 0, 0]) .z (kBlock 2 (kCut [] k_spec_l11Flags_1)) m = (fun x => l_spec_l11Flags_1 n m x.1.1 x.1.2.1 x.1.2.2.1 x.1.2.2.2.1) := funext fun x => lp_spec_l11Flags_1 n m x
    rw [ih]
    exact r_spec_l11Flags_1 n m x.1.1 x.1.2.1 x.1.2.2.1 x.1.2.2.2.1
noncomputable def b_spec_l11Flags_0 (n m : Nat) (x : Tm.T k_spec_l11Flags_1) : Option ((Int × Unit) × (Unit)) := lpF (E_spec_l11Flags n) [] k_spec_l11Flags_1 27 (sub (bodyOf Tryd.f43) [1, 1, 0, 1, 0, 0]) (.two .z (.two (.one (.two .z (.cut k_spec_l11Flags_1 (.one (.loop k_spec_l11Flags_2 .z))))) .z)) (kBlock 0 (kCut [] k_spec_l11Flags_3)) m x
theorem r_spec_l11Flags_0 (n : Nat) (lp : List Int → Int → Int → Option ((Int × Unit) × (Unit))) (w_32 : List Int) (n_33 : Int) (i_34 : Int) :
    rnd (E_spec_l11Flags n) [] k_spec_l11Flags_1 27 (sub (bodyOf Tryd.f43) [1, 1, 0, 1, 0, 0]) (.two .z (.two (.one (.two .z (.cut k_spec_l11Flags_1 (.one (.loop k_spec_l11Flags_2 .z))))) .z)) (kBlock 0 (kCut [] k_spec_l11Flags_3)) (fun x => lp x.1.1 x.1.2.1 x.1.2.2.1) ((w_32, n_33, i_34, ()), ())
      = s_spec_l11Flags_0 n (fun a0 a1 a2 a3 => b_spec_l11Flags_1 n n ((a0, a1, a2, a3, ()), ())) lp w_32 n_33 i_34 := by kernel_rfl
theorem lp_spec_l11Flags_0 (n : Nat) : ∀ (m : Nat) (x : Tm.T k_spec_l11Flags_1), b_spec_l11Flags_0 n m x = l_spec_l11Flags_0 n m x.1.1 x.1.2.1 x.1.2.2.1
  | 0, _ => rfl
  | m + 1, x => by
    unfold b_spec_l11Flags_0
    rw [lpF_succ]
    have ih : lpF (E_spec_l11Flags n) [] k_spec_l11Flags_1 27 (sub (bodyOf Tryd.f43) [1, 1, 0, 1, 0, 0]) (.two .z (.two (.one (.two .z (.cut k_spec_l11Flags_1 (.one (.loop k_spec_l11Flags_2 .z))))) .z)) (kBlock 0 (kCut [] k_spec_l11Flags_3)) m = (fun x => l_spec_l11Flags_0 n m x.1.1 x.1.2.1 x.1.2.2.1) := funext fun x => lp_spec_l11Flags_0 n m x
    rw [ih]
    refine (r_spec_l11Flags_0 n (l_spec_l11Flags_0 n m) x.1.1 x.1.2.1 x.1.2.2.1).trans ?_
    have e1 : (fun a0 a1 a2 a3 => b_spec_l11Flags_1 n n ((a0, a1, a2, a3, ()), ())) = l_spec_l11Flags_1 n n := by funext a0 a1 a2 a3; exact lp_spec_l11Flags_1 n n _
    rw [e1]
    rfl
theorem e_spec_l11Flags (n : Nat) (w_1 : List Int) :
    evalFn (E_spec_l11Flags n) Tryd.f43 k_spec_l11Flags_0 (.int .i64) [] (.two .z (.two .z (.two (.two .z (.cut k_spec_l11Flags_3 (.one (.loop k_spec_l11Flags_1 (.two .z (.two (.one (.two .z (.cut k_spec_l11Flags_1 (.one (.loop k_spec_l11Flags_2 .z))))) .z)))))) .z))) ((w_1, ()), ())
      = g_spec_l11Flags n w_1 := by
  refine Eq.trans (b := t_spec_l11Flags n (fun a0 a1 a2 => b_spec_l11Flags_0 n n ((a0, a1, a2, ()), ())) w_1) (by kernel_rfl) ?_
  have e0 : (fun a0 a1 a2 => b_spec_l11Flags_0 n n ((a0, a1, a2, ()), ())) = l_spec_l11Flags_0 n n := by funext a0 a1 a2; exact lp_spec_l11Flags_0 n n _
  rw [e0]
  rfl
theorem S_spec_l11Flags {gl : List (Nat × Obj)} : Sat Tryd.prog gl 43 c_spec_l11Flags :=
  sat_eval Tryd.func43 ⟨_, Tryd.func43, by kernel_rfl, by kernel_rfl⟩ (ct_cons S_spec_l11Bit (fun _ _ h => by cases h)) (fun n x y h => ⟨n, [], (e_spec_l11Flags n x.1.1).trans h⟩)

/-! loop.example/g00003/spec.l02Hex -/
abbrev k_spec_l02Hex_0 : Tm := ⟨[(0, (.int .u8))], []⟩
noncomputable def c_spec_l02Hex : Con := ⟨k_spec_l02Hex_0, (.int .i64), [], fun n x => g_spec_l02Hex n x.1.1⟩
noncomputable def ct_spec_l02Hex : List (Nat × Con) := []
noncomputable def E_spec_l02Hex (n : Nat) : Env := { P := Tryd.prog, ct := ct_spec_l02Hex, fuel := n }
abbrev k_spec_l02Hex_1 : Tm := ⟨[(0, (.int .u8)), (3, .bool)], []⟩
abbrev k_spec_l02Hex_2 : Tm := ⟨[(0, (.int .u8)), (13, .bool)], []⟩
abbrev k_spec_l02Hex_3 : Tm := ⟨[(0, (.int .u8)), (24, .bool)], []⟩
theorem e_spec_l02Hex (n : Nat) (c_1 : Int) :
    evalFn (E_spec_l02Hex n) Tryd.f72 k_spec_l02Hex_0 (.int .i64) [] (.two .z (.two (.one (.two (.cut k_spec_l02Hex_1 .z) (.two .z (.two (.cut k_spec_l02Hex_2 .z) (.two .z (.two (.cut k_spec_l02Hex_3 .z) .z)))))) .z)) ((c_1, ()), ())
      = g_spec_l02Hex n c_1 := by kernel_rfl
theorem S_spec_l02Hex {gl : List (Nat × Obj)} : Sat Tryd.prog gl 72 c_spec_l02Hex :=
  sat_eval Tryd.func72 ⟨_, Tryd.func72, by kernel_rfl, by kernel_rfl⟩ (fun _ _ h => by cases h) (fun n x y h => ⟨n, [], (e_spec_l02Hex n x.1.1).trans h⟩)

/-! loop.example/g00003/spec.l11Unhex -/
abbrev k_spec_l11Unhex_0 : Tm := ⟨[(0, .str)], []⟩
noncomputable def c_spec_l11Unhex : Con := ⟨k_spec_l11Unhex_0, (.own 1), [(1, (.arr (.int .u8)))], fun n x => g_spec_l11Unhex n x.1.1⟩
noncomputable def ct_spec_l11Unhex : List (Nat × Con) := [(72, c_spec_l02Hex)]
noncomputable def E_spec_l11Unhex (n : Nat) : Env := { P := Tryd.prog, ct := ct_spec_l11Unhex, fuel := n }
abbrev k_spec_l11Unhex_1 : Tm := ⟨[(3, (.own 5))], [(5, (.arr (.int .u8)))]⟩
abbrev k_spec_l11Unhex_2 : Tm := ⟨[(0, .str), (3, (.own 5)), (4, (.int .i64))], [(5, (.arr (.int .u8)))]⟩
noncomputable def b_spec_l11Unhex_0 (n m : Nat) (x : Tm.T k_spec_l11Unhex_2) : Option ((Unit × Unit) × ((List Int) × Unit)) := lpF (E_spec_l11Unhex n) [] k_spec_l11Unhex_2 29 (sub (bodyOf Tryd.f44) [1, 1, 0, 1, 0, 0]) .z (kBlock 0 (kCut [] k_spec_l11Unhex_1)) m x
theorem r_spec_l11Unhex_0 (n m : Nat) (w_17 : List Int) (i_18 : Int) (a_19 : List Int) :
    rnd (E_spec_l11Unhex n) [] k_spec_l11Unhex_2 29 (sub (bodyOf Tryd.f44) [1, 1, 0, 1, 0, 0]) .z (kBlock 0 (kCut [] k_spec_l11Unhex_1)) (fun x => l_spec_l11Unhex_0 n m x.1.1 x.1.2.2.1 x.2.1) ((w_17, (), i_18, ()), (a_19, ()))
      = l_spec_l11Unhex_0 n (m + 1) w_17 i_18 a_19 := by kernel_rfl
theorem lp_spec_l11Unhex_0 (n : Nat) : ∀ (m : Nat) (x : Tm.T k_spec_l11Unhex_2), b_spec_l11Unhex_0 n m x = l_spec_l11Unhex_0 n m x.1.1 x.1.2.2.1 x.2.1
  | 0, _ => rfl
  | m + 1, x => by
    unfold b_spec_l11Unhex_0
    rw [lpF_succ]
    have ih : lpF (E_spec_l11Unhex n) [] k_spec_l11Unhex_2 29 (sub (bodyOf Tryd.f44) [1, 1, 0, 1, 0, 0]) .z (kBlock 0 (kCut [] k_spec_l11Unhex_1)) m = (fun x => l_spec_l11Unhex_0 n m x.1.1 x.1.2.2.1 x.2.1) := funext fun x => lp_spec_l11Unhex_0 n m x
    rw [ih]
    exact r_spec_l11Unhex_0 n m x.1.1 x.1.2.2.1 x.2.1
theorem e_spec_l11Unhex (n : Nat) (w_1 : List Int) :
    evalFn (E_spec_l11Unhex n) Tryd.f44 k_spec_l11Unhex_0 (.own 1) [(1, (.arr (.int .u8)))] (.two .z (.two .z (.two (.two .z (.cut k_spec_l11Unhex_1 (.one (.loop k_spec_l11Unhex_2 .z)))) .z))) ((w_1, ()), ())
      = g_spec_l11Unhex n w_1 := by
  refine Eq.trans (b := t_spec_l11Unhex n (fun a0 a1 a2 => b_spec_l11Unhex_0 n n ((a0, (), a1, ()), (a2, ()))) w_1) (by kernel_rfl) ?_
  have e0 : (fun a0 a1 a2 => b_spec_l11Unhex_0 n n ((a0, (), a1, ()), (a2, ()))) = l_spec_l11Unhex_0 n n := by funext a0 a1 a2; exact lp_spec_l11Unhex_0 n n _
  rw [e0]
  rfl
theorem S_spec_l11Unhex {gl : List (Nat × Obj)} : Sat Tryd.prog gl 44 c_spec_l11Unhex :=
  sat_eval Tryd.func44 ⟨_, Tryd.func44, by kernel_rfl, by kernel_rfl⟩ (ct_cons S_spec_l02Hex (fun _ _ h => by cases h)) (fun n x y h => ⟨n, [], (e_spec_l11Unhex n x.1.1).trans h⟩)

/-! loop.example/g00003/spec.ReadSegment -/
abbrev k_spec_ReadSegment_0 : Tm := ⟨[(0, .str)], []⟩
noncomputable def c_spec_ReadSegment : Con := ⟨k_spec_ReadSegment_0, (.tup [(.agg [(.int .i64), (.int .i64), (.int .i64), (.int .i64), (.int .i64), (.int .i64), (.int .i64), .bool, (.int .i64), .bool, (.own 1), (.own 2)]), (.int .i64)]), [(1, (.arr (.pair (.int .i64) (.pair (.int .i64) .unit)))), (2, (.arr (.int .u8)))], fun n x => g_spec_ReadSegment n x.1.1⟩
noncomputable def ct_spec_ReadSegment : List (Nat × Con) := [(7, c_spec_ShowSegment), (40, c_spec_l02Cut), (41, c_spec_l11Pair), (42, c_spec_l02Number), (43, c_spec_l11Flags), (44, c_spec_l11Unhex)]
noncomputable def E_spec_ReadSegment (n : Nat) : Env := { P := Tryd.prog, ct := ct_spec_ReadSegment, fuel := n }
abbrev k_spec_ReadSegment_1 : Tm := ⟨[(0, .str), (2, (.ptr 2)), (4, (.own 2031)), (5, (.ptr 5)), (15, (.int .i64)), (16, .str)], [(2, (.box [(.int .i64), (.int .i64), (.int .i64), (.int .i64), (.int .i64), (.int .i64), (.int .i64), .bool, (.int .i64), .bool, .nilsl, .nilsl])), (2031, (.arr .str)), (5, (.box [(.int .i64), (.int .i64), (.int .i64), (.int .i64), (.int .i64), (.int .i64), (.int .i64), .bool, (.int .i64), .bool, (.own 132), (.own 2137)])), (132, (.arr (.pair (.int .i64) (.pair (.int .i64) .unit)))), (2137, (.arr (.int .u8)))]⟩
abbrev k_spec_ReadSegment_2 : Tm := ⟨[(0, .str), (2, (.ptr 2)), (5, (.ptr 5))], [(2, (.box [(.int .i64), (.int .i64), (.int .i64), (.int .i64), (.int .i64), (.int .i64), (.int .i64), .bool, (.int .i64), .bool, .nilsl, .nilsl])), (5, (.box [(.int .i64), (.int .i64), (.int .i64), (.int .i64), (.int .i64), (.int .i64), (.int .i64), .bool, (.int .i64), .bool, (.own 132), (.own 2137)])), (132, (.arr (.pair (.int .i64) (.pair (.int .i64) .unit)))), (2137, (.arr (.int .u8)))]⟩
abbrev k_spec_ReadSegment_3 : Tm := ⟨[(0, .str), (2, (.ptr 2)), (4, (.own 2031)), (5, (.ptr 5)), (15, (.int .i64))], [(2, (.box [(.int .i64), (.int .i64), (.int .i64), (.int .i64), (.int .i64), (.int .i64), (.int .i64), .bool, (.int .i64), .bool, .nilsl, .nilsl])), (2031, (.arr .str)), (5, (.box [(.int .i64), (.int .i64), (.int .i64), (.int .i64), (.int .i64), (.int .i64), (.int .i64), .bool, (.int .i64), .bool, (.own 132), (.own 2137)])), (132, (.arr (.pair (.int .i64) (.pair (.int .i64) .unit)))), (2137, (.arr (.int .u8)))]⟩
noncomputable def b_spec_ReadSegment_0 (n m : Nat) (x : Tm.T k_spec_ReadSegment_3) : Option (((List Int) × Unit × Unit × Unit) × ((Int × Int × Int × Int × Int × Int × Int × Bool × Int × Bool × Unit × Unit × Unit) × (Int × Int × Int × Int × Int × Int × Int × Bool × Int × Bool × Unit × Unit × Unit) × (List (Int × Int × Unit)) × (List Int) × Unit)) := lpF (E_spec_ReadSegment n) [] k_spec_ReadSegment_3 153 (sub (bodyOf Tryd.f11) [1, 1, 1, 1, 1, 1, 1, 1, 1, 1, 0, 1, 0, 0]) (.two .z (.two (.one (.two .z (.two (.two .z (.cut k_spec_ReadSegment_1 .z)) .z))) .z)) (kBlock 0 (kCut [] k_spec_ReadSegment_2)) m x
theorem r_spec_ReadSegment_0 (n m : Nat) (text_112 : List Int) (i_113 : Int) (f0_114 : Int) (f1_115 : Int) (f2_116 : Int) (f3_117 : Int) (f4_118 : Int) (f5_119 : Int) (f6_120 : Int) (f7_121 : Bool) (f8_122 : Int) (f9_123 : Bool) (a_124 : List (List Int)) (f0_125 : Int) (f1_126 : Int) (f2_127 : Int) (f3_128 : Int) (f4_129 : Int) (f5_130 : Int) (f6_131 : Int) (f7_132 : Bool) (f8_133 : Int) (f9_134 : Bool) (a_135 : List (Int × Int × Unit)) (a_136 : List Int) :
    rnd (E_spec_ReadSegment n) [] k_spec_ReadSegment_3 153 (sub (bodyOf Tryd.f11) [1, 1, 1, 1, 1, 1, 1, 1, 1, 1, 0, 1, 0, 0]) (.two .z (.two (.one (.two .z (.two (.two .z (.cut k_spec_ReadSegment_1 .z)) .z))) .z)) (kBlock 0 (kCut [] k_spec_ReadSegment_2)) (fun x => l_spec_ReadSegment_0 n m x.1.1 x.1.2.2.2.2.1 x.2.1.1 x.2.1.2.1 x.2.1.2.2.1 x.2.1.2.2.2.1 x.2.1.2.2.2.2.1 x.2.1.2.2.2.2.2.1 x.2.1.2.2.2.2.2.2.1 x.2.1.2.2.2.2.2.2.2.1 x.2.1.2.2.2.2.2.2.2.2.1 x.2.1.2.2.2.2.2.2.2.2.2.1 x.2.2.1 x.2.2.2.1.1 x.2.2.2.1.2.1 x.2.2.2.1.2.2.1 x.2.2.2.1.2.2.2.1 x.2.2.2.1.2.2.2.2.1 x.2.2.2.1.2.2.2.2.2.1 x.2.2.2.1.2.2.2.2.2.2.1 x.2.2.2.1.2.2.2.2.2.2.2.1 x.2.2.2.1.2.2.2.2.2.2.2.2.1 x.2.2.2.1.2.2.2.2.2.2.2.2.2.1 x.2.2.2.2.1 x.2.2.2.2.2.1) ((text_112, (), (), (), i_113, ()), ((f0_114, f1_115, f2_116, f3_117, f4_118, f5_119, f6_120, f7_121, f8_122, f9_123, (), (), ()), a_124, (f0_125, f1_126, f2_127, f3_128, f4_129, f5_130, f6_131, f7_132, f8_133, f9_134, (), (), ()), a_135, a_136, ()))
      = l_spec_ReadSegment_0 n (m + 1) text_112 i_113 f0_114 f1_115 f2_116 f3_117 f4_118 f5_119 f6_120 f7_121 f8_122 f9_123 a_124 f0_125 f1_126 f2_127 f3_128 f4_129 f5_130 f6_131 f7_132 f8_133 f9_134 a_135 a_136 := by kernel_rfl
theorem lp_spec_ReadSegment_0 (n : Nat) : ∀ (m : Nat) (x : Tm.T k_spec_ReadSegment_3), b_spec_ReadSegment_0 n m x = l_spec_ReadSegment_0 n m x.1.1 x.1.2.2.2.2.1 x.2.1.1 x.2.1.2.1 x.2.1.2.2.1 x.2.1.2.2.2.1 x.2.1.2.2.2.2.1 x.2.1.2.2.2.2.2.1 x.2.1.2.2.2.2.2.2.1 x.2.1.2.2.2.2.2.2.2.1 x.2.1.2.2.2.2.2.2.2.2.1 x.2.1.2.2.2.2.2.2.2.2.2.1 x.2.2.1 x.2.2.2.1.1 x.2.2.2.1.2.1 x.2.2.2.1.2.2.1 x.2.2.2.1.2.2.2.1 x.2.2.2.1.2.2.2.2.1 x.2.2.2.1.2.2.2.2.2.1 x.2.2.2.1.2.2.2.2.2.2.1 x.2.2.2.1.2.2.2.2.2.2.2.1 x.2.2.2.1.2.2.2.2.2.2.2.2.1 x.2.2.2.1.2.2.2.2.2.2.2.2.2.1 x.2.2.2.2.1 x.2.2.2.2.2.1
  | 0, _ => rfl
  | m + 1, x => by
    unfold b_spec_ReadSegment_0
    rw [lpF_succ]
    have ih : lpF (E_spec_ReadSegment n) [] k_spec_ReadSegment_3 153 (sub (bodyOf Tryd.f11) [1, 1, 1, 1, 1, 1, 1, 1, 1, 1, 0, 1, 0, 0]) (.two .z (.two (.one (.two .z (.two (.two .z (.cut k_spec_ReadSegment_1 .z)) .z))) .z)) (kBlock 0 (kCut [] k_spec_ReadSegment_2)) m = (fun x => l_spec_ReadSegment_0 n m x.1.1 x.1.2.2.2.2.1 x.2.1.1 x.2.1.2.1 x.2.1.2.2.1 x.2.1.2.2.2.1 x.2.1.2.2.2.2.1 x.2.1.2.2.2.2.2.1 x.2.1.2.2.2.2.2.2.1 x.2.1.2.2.2.2.2.2.2.1 x.2.1.2.2.2.2.2.2.2.2.1 x.2.1.2.2.2.2.2.2.2.2.2.1 x.2.2.1 x.2.2.2.1.1 x.2.2.2.1.2.1 x.2.2.2.1.2.2.1 x.2.2.2.1.2.2.2.1 x.2.2.2.1.2.2.2.2.1 x.2.2.2.1.2.2.2.2.2.1 x.2.2.2.1.2.2.2.2.2.2.1 x.2.2.2.1.2.2.2.2.2.2.2.1 x.2.2.2.1.2.2.2.2.2.2.2.2.1 x.2.2.2.1.2.2.2.2.2.2.2.2.2.1 x.2.2.2.2.1 x.2.2.2.2.2.1) := funext fun x => lp_spec_ReadSegment_0 n m x
    rw [ih]
    exact r_spec_ReadSegment_0 n m x.1.1 x.1.2.2.2.2.1 x.2.1.1 x.2.1.2.1 x.2.1.2.2.1 x.2.1.2.2.2.1 x.2.1.2.2.2.2.1 x.2.1.2.2.2.2.2.1 x.2.1.2.2.2.2.2.2.1 x.2.1.2.2.2.2.2.2.2.1 x.2.1.2.2.2.2.2.2.2.2.1 x.2.1.2.2.2.2.2.2.2.2.2.1 x.2.2.1 x.2.2.2.1.1 x.2.2.2.1.2.1 x.2.2.2.1.2.2.1 x.2.2.2.1.2.2.2.1 x.2.2.2.1.2.2.2.2.1 x.2.2.2.1.2.2.2.2.2.1 x.2.2.2.1.2.2.2.2.2.2.1 x.2.2.2.1.2.2.2.2.2.2.2.1 x.2.2.2.1.2.2.2.2.2.2.2.2.1 x.2.2.2.1.2.2.2.2.2.2.2.2.2.1 x.2.2.2.2.1 x.2.2.2.2.2.1
abbrev k_spec_ReadSegment_4 : Tm := ⟨[(2, (.ptr 2)), (5, (.ptr 5)), (150, .bool)], [(2, (.box [(.int .i64), (.int .i64), (.int .i64), (.int .i64), (.int .i64), (.int .i64), (.int .i64), .bool, (.int .i64), .bool, .nilsl, .nilsl])), (5, (.box [(.int .i64), (.int .i64), (.int .i64), (.int .i64), (.int .i64), (.int .i64), (.int .i64), .bool, (.int .i64), .bool, (.own 132), (.own 2137)])), (132, (.arr (.pair (.int .i64) (.pair (.int .i64) .unit)))), (2137, (.arr (.int .u8)))]⟩
theorem e_spec_ReadSegment (n : Nat) (text_1 : List Int) :
    evalFn (E_spec_ReadSegment n) Tryd.f11 k_spec_ReadSegment_0 (.tup [(.agg [(.int .i64), (.int .i64), (.int .i64), (.int .i64), (.int .i64), (.int .i64), (.int .i64), .bool, (.int .i64), .bool, (.own 1), (.own 2)]), (.int .i64)]) [(1, (.arr (.pair (.int .i64) (.pair (.int .i64) .unit)))), (2, (.arr (.int .u8)))] (.two .z (.two .z (.two .z (.two .z (.two .z (.two .z (.two .z (.two .z (.two .z (.two .z (.two (.two .z (.cut k_spec_ReadSegment_2 (.one (.loop k_spec_ReadSegment_3 (.two .z (.two (.one (.two .z (.two (.two .z (.cut k_spec_ReadSegment_1 .z)) .z))) .z)))))) (.two .z (.two (.two (.cut k_spec_ReadSegment_4 .z) .z) .z))))))))))))) ((text_1, ()), ())
      = g_spec_ReadSegment n text_1 := by
  refine Eq.trans (b := t_spec_ReadSegment n (fun a0 a1 a2 a3 a4 a5 a6 a7 a8 a9 a10 a11 a12 a13 a14 a15 a16 a17 a18 a19 a20 a21 a22 a23 a24 => b_spec_ReadSegment_0 n n ((a0, (), (), (), a1, ()), ((a2, a3, a4, a5, a6, a7, a8, a9, a10, a11, (), (), ()), a12, (a13, a14, a15, a16, a17, a18, a19, a20, a21, a22, (), (), ()), a23, a24, ()))) text_1) (by kernel_rfl) ?_
  have e0 : (fun a0 a1 a2 a3 a4 a5 a6 a7 a8 a9 a10 a11 a12 a13 a14 a15 a16 a17 a18 a19 a20 a21 a22 a23 a24 => b_spec_ReadSegment_0 n n ((a0, (), (), (), a1, ()), ((a2, a3, a4, a5, a6, a7, a8, a9, a10, a11, (), (), ()), a12, (a13, a14, a15, a16, a17, a18, a19, a20, a21, a22, (), (), ()), a23, a24, ()))) = l_spec_ReadSegment_0 n n := by funext a0 a1 a2 a3 a4 a5 a6 a7 a8 a9 a10 a11 a12 a13 a14 a15 a16 a17 a18 a19 a20 a21 a22 a23 a24; exact lp_spec_ReadSegment_0 n n _
  rw [e0]
  rfl
theorem S_spec_ReadSegment {gl : List (Nat × Obj)} : Sat Tryd.prog gl 11 c_spec_ReadSegment :=
  sat_eval Tryd.func11 ⟨_, Tryd.func11, by kernel_rfl, by kernel_rfl⟩ (ct_cons S_spec_ShowSegment (ct_cons S_spec_l02Cut (ct_cons S_spec_l11Pair (ct_cons S_spec_l02Number (ct_cons S_spec_l11Flags (ct_cons S_spec_l11Unhex (fun _ _ h => by cases h))))))) (fun n x y h => ⟨n, [], (e_spec_ReadSegment n x.1.1).trans h⟩)

/-! loop.example/g00003/laws.FnSegmentText -/
abbrev k_laws_FnSegmentText_0 : Tm := ⟨[(0, (.ro (.int .u8)))], []⟩
noncomputable def c_laws_FnSegmentText : Con := ⟨k_laws_FnSegmentText_0, .bool, [], fun n x => g_laws_FnSegmentText n x.1.1⟩
noncomputable def ct_laws_FnSegmentText : List (Nat × Con) := [(5, c_spec_DrawShowSegment), (6, c_impl_ShowSegment), (7, c_spec_ShowSegment), (8, c_impl_ReadSegment), (9, c_laws_lwSegment), (10, c_spec_DrawReadSegment), (11, c_spec_ReadSegment)]
noncomputable def E_laws_FnSegmentText (n : Nat) : Env := { P := Tryd.prog, ct := ct_laws_FnSegmentText, fuel := n }
abbrev k_laws_FnSegmentText_1 : Tm := ⟨[(0, (.ro (.int .u8))), (3, (.ptr 3)), (4, .str), (5, (.int .i64)), (39, .bool)], [(3, (.box [(.int .i64), (.int .i64), (.int .i64), (.int .i64), (.int .i64), (.int .i64), (.int .i64), .bool, (.int .i64), .bool, (.own 2021), (.ro (.int .u8))])), (2021, (.arr (.pair (.int .i64) (.pair (.int .i64) .unit))))]⟩
abbrev k_laws_FnSegmentText_2 : Tm := ⟨[(0, (.ro (.int .u8))), (54, .bool)], []⟩
theorem e_laws_FnSegmentText (n : Nat) (code_1 : List Int) :
    evalFn (E_laws_FnSegmentText n) Tryd.f3 k_laws_FnSegmentText_0 .bool [] (.two .z (.two .z (.two .z (.two .z (.two .z (.two (.two (.cut k_laws_FnSegmentText_1 .z) .z) (.two (.two .z (.cutr k_laws_FnSegmentText_0 (.two (.two .z (.two (.cut k_laws_FnSegmentText_2 .z) .z)) .z))) .z))))))) ((code_1, ()), ())
      = g_laws_FnSegmentText n code_1 := by kernel_rfl
theorem S_laws_FnSegmentText {gl : List (Nat × Obj)} (hL : LibG gl) : Sat Tryd.prog gl 3 c_laws_FnSegmentText :=
  sat_eval Tryd.func3 ⟨_, Tryd.func3, by kernel_rfl, by kernel_rfl⟩ (ct_cons S_spec_DrawShowSegment (ct_cons (S_impl_ShowSegment hL) (ct_cons S_spec_ShowSegment (ct_cons (S_impl_ReadSegment hL) (ct_cons S_laws_lwSegment (ct_cons S_spec_DrawReadSegment (ct_cons S_spec_ReadSegment (fun _ _ h => by cases h)))))))) (fun n x y h => ⟨n, [], (e_laws_FnSegmentText n x.1.1).trans h⟩)

/-! loop.example/g00003/laws.eqStretch -/
abbrev k_laws_eqStretch_0 : Tm := ⟨[(0, (.agg [(.int .i64), (.int .i64)])), (1, (.agg [(.int .i64), (.int .i64)]))], []⟩
noncomputable def c_laws_eqStretch : Con := ⟨k_laws_eqStretch_0, .bool, [], fun n x => g_laws_eqStretch n x.1.1.1 x.1.1.2.1 x.1.2.1.1 x.1.2.1.2.1⟩
noncomputable def ct_laws_eqStretch : List (Nat × Con) := []
noncomputable def E_laws_eqStretch (n : Nat) : Env := { P := Tryd.prog, ct := ct_laws_eqStretch, fuel := n }
theorem e_laws_eqStretch (n : Nat) (a_1 : Int) (a_2 : Int) (b_3 : Int) (b_4 : Int) :
    evalFn (E_laws_eqStretch n) Tryd.f73 k_laws_eqStretch_0 .bool [] .z (((a_1, a_2, ()), (b_3, b_4, ()), ()), ())
      = g_laws_eqStretch n a_1 a_2 b_3 b_4 := by kernel_rfl
theorem S_laws_eqStretch {gl : List (Nat × Obj)} : Sat Tryd.prog gl 73 c_laws_eqStretch :=
  sat_eval Tryd.func73 ⟨_, Tryd.func73, by kernel_rfl, by kernel_rfl⟩ (fun _ _ h => by cases h) (fun n x y h => ⟨n, [], (e_laws_eqStretch n x.1.1.1 x.1.1.2.1 x.1.2.1.1 x.1.2.1.2.1).trans h⟩)

/-! loop.example/g00003/laws.eqStretchS -/
abbrev k_laws_eqStretchS_0 : Tm := ⟨[(0, (.ro (.pair (.int .i64) (.pair (.int .i64) .unit)))), (1, (.ro (.pair (.int .i64) (.pair (.int .i64) .unit))))], []⟩
noncomputable def c_laws_eqStretchS : Con := ⟨k_laws_eqStretchS_0, .bool, [], fun n x => g_laws_eqStretchS n x.1.1 x.1.2.1⟩
noncomputable def ct_laws_eqStretchS : List (Nat × Con) := [(73, c_laws_eqStretch)]
noncomputable def E_laws_eqStretchS (n : Nat) : Env := { P := Tryd.prog, ct := ct_laws_eqStretchS, fuel := n }
abbrev k_laws_eqStretchS_1 : Tm := ⟨[(0, (.ro (.pair (.int .i64) (.pair (.int .i64) .unit)))), (1, (.ro (.pair (.int .i64) (.pair (.int .i64) .unit)))), (5, (.int .i64))], []⟩
noncomputable def b_laws_eqStretchS_0 (n m : Nat) (x : Tm.T k_laws_eqStretchS_1) : Option ((Bool) × (Unit) ⊕ ((Unit) × (Unit))) := lpF (E_laws_eqStretchS n) [] k_laws_eqStretchS_1 27 (sub (bodyOf Tryd.f45) [1, 1, 0, 1, 0, 0]) .z (kBlock 0 (kCutr [] ⟨[], []⟩ (kFinR (E_laws_eqStretchS n) Tryd.f45 .bool []))) m x
theorem r_laws_eqStretchS_0 (n m : Nat) (a_12 : List (Int × Int × Unit)) (b_13 : List (Int × Int × Unit)) (i_14 : Int) :
    rnd (E_laws_eqStretchS n) [] k_laws_eqStretchS_1 27 (sub (bodyOf Tryd.f45) [1, 1, 0, 1, 0, 0]) .z (kBlock 0 (kCutr [] ⟨[], []⟩ (kFinR (E_laws_eqStretchS n) Tryd.f45 .bool []))) (fun x => l_laws_eqStretchS_0 n m x.1.1 x.1.2.1 x.1.2.2.1) ((a_12, b_13, i_14, ()), ())
      = l_laws_eqStretchS_0 n (m + 1) a_12 b_13 i_14 := by kernel_rfl
theorem lp_laws_eqStretchS_0 (n : Nat) : ∀ (m : Nat) (x : Tm.T k_laws_eqStretchS_1), b_laws_eqStretchS_0 n m x = l_laws_eqStretchS_0 n m x.1.1 x.1.2.1 x.1.2.2.1
  | 0, _ => rfl
  | m + 1, x => by
    unfold b_laws_eqStretchS_0
    rw [lpF_succ]
    have ih : lpF (E_laws_eqStretchS n) [] k_laws_eqStretchS_1 27 (sub (bodyOf Tryd.f45) [1, 1, 0, 1, 0, 0]) .z (kBlock 0 (kCutr [] ⟨[], []⟩ (kFinR (E_laws_eqStretchS n) Tryd.f45 .bool []))) m = (fun x => l_laws_eqStretchS_0 n m x.1.1 x.1.2.1 x.1.2.2.1) := funext fun x => lp_laws_eqStretchS_0 n m x
    rw [ih]
    exact r_laws_eqStretchS_0 n m x.1.1 x.1.2.1 x.1.2.2.1
theorem e_laws_eqStretchS (n : Nat) (a_1 : List (Int × Int × Unit)) (b_2 : List (Int × Int × Unit)) :
    evalFn (E_laws_eqStretchS n) Tryd.f45 k_laws_eqStretchS_0 .bool [] (.two .z (.two .z (.two (.two .z (.cutr ⟨[], []⟩ (.one (.loop k_laws_eqStretchS_1 .z)))) .z))) ((a_1, b_2, ()), ())
      = g_laws_eqStretchS n a_1 b_2 := by
  refine Eq.trans (b := t_laws_eqStretchS n (fun a0 a1 a2 => b_laws_eqStretchS_0 n n ((a0, a1, a2, ()), ())) a_1 b_2) (by kernel_rfl) ?_
  have e0 : (fun a0 a1 a2 => b_laws_eqStretchS_0 n n ((a0, a1, a2, ()), ())) = l_laws_eqStretchS_0 n n := by funext a0 a1 a2; exact lp_laws_eqStretchS_0 n n _
  rw [e0]
  rfl
theorem S_laws_eqStretchS {gl : List (Nat × Obj)} : Sat Tryd.prog gl 45 c_laws_eqStretchS :=
  sat_eval Tryd.func45 ⟨_, Tryd.func45, by kernel_rfl, by kernel_rfl⟩ (ct_cons S_laws_eqStretch (fun _ _ h => by cases h)) (fun n x y h => ⟨n, [], (e_laws_eqStretchS n x.1.1 x.1.2.1).trans h⟩)

/-! loop.example/g00003/laws.eqByteS -/
abbrev k_laws_eqByteS_0 : Tm := ⟨[(0, (.ro (.int .u8))), (1, (.ro (.int .u8)))], []⟩
noncomputable def c_laws_eqByteS : Con := ⟨k_laws_eqByteS_0, .bool, [], fun n x => g_laws_eqByteS n x.1.1 x.1.2.1⟩
noncomputable def ct_laws_eqByteS : List (Nat × Con) := []
noncomputable def E_laws_eqByteS (n : Nat) : Env := { P := Tryd.prog, ct := ct_laws_eqByteS, fuel := n }
abbrev k_laws_eqByteS_1 : Tm := ⟨[(0, (.ro (.int .u8))), (1, (.ro (.int .u8))), (5, (.int .i64))], []⟩
noncomputable def b_laws_eqByteS_0 (n m : Nat) (x : Tm.T k_laws_eqByteS_1) : Option ((Bool) × (Unit) ⊕ ((Unit) × (Unit))) := lpF (E_laws_eqByteS n) [] k_laws_eqByteS_1 26 (sub (bodyOf Tryd.f46) [1, 1, 0, 1, 0, 0]) .z (kBlock 0 (kCutr [] ⟨[], []⟩ (kFinR (E_laws_eqByteS n) Tryd.f46 .bool []))) m x
theorem r_laws_eqByteS_0 (n m : Nat) (a_12 : List Int) (b_13 : List Int) (i_14 : Int) :
    rnd (E_laws_eqByteS n) [] k_laws_eqByteS_1 26 (sub (bodyOf Tryd.f46) [1, 1, 0, 1, 0, 0]) .z (kBlock 0 (kCutr [] ⟨[], []⟩ (kFinR (E_laws_eqByteS n) Tryd.f46 .bool []))) (fun x => l_laws_eqByteS_0 n m x.1.1 x.1.2.1 x.1.2.2.1) ((a_12, b_13, i_14, ()), ())
      = l_laws_eqByteS_0 n (m + 1) a_12 b_13 i_14 := by kernel_rfl
theorem lp_laws_eqByteS_0 (n : Nat) : ∀ (m : Nat) (x : Tm.T k_laws_eqByteS_1), b_laws_eqByteS_0 n m x = l_laws_eqByteS_0 n m x.1.1 x.1.2.1 x.1.2.2.1
  | 0, _ => rfl
  | m + 1, x => by
    unfold b_laws_eqByteS_0
    rw [lpF_succ]
    have ih : lpF (E_laws_eqByteS n) [] k_laws_eqByteS_1 26 (sub (bodyOf Tryd.f46) [1, 1, 0, 1, 0, 0]) .z (kBlock 0 (kCutr [] ⟨[], []⟩ (kFinR (E_laws_eqByteS n) Tryd.f46 .bool []))) m = (fun x => l_laws_eqByteS_0 n m x.1.1 x.1.2.1 x.1.2.2.1) := funext fun x => lp_laws_eqByteS_0 n m x
    rw [ih]
    exact r_laws_eqByteS_0 n m x.1.1 x.1.2.1 x.1.2.2.1
theorem e_laws_eqByteS (n : Nat) (a_1 : List Int) (b_2 : List Int) :
    evalFn (E_laws_eqByteS n) Tryd.f46 k_laws_eqByteS_0 .bool [] (.two .z (.two .z (.two (.two .z (.cutr ⟨[], []⟩ (.one (.loop k_laws_eqByteS_1 .z)))) .z))) ((a_1, b_2, ()), ())
      = g_laws_eqByteS n a_1 b_2 := by
  refine Eq.trans (b := t_laws_eqByteS n (fun a0 a1 a2 => b_laws_eqByteS_0 n n ((a0, a1, a2, ()), ())) a_1 b_2) (by kernel_rfl) ?_
  have e0 : (fun a0 a1 a2 => b_laws_eqByteS_0 n n ((a0, a1, a2, ()), ())) = l_laws_eqByteS_0 n n := by funext a0 a1 a2; exact lp_laws_eqByteS_0 n n _
  rw [e0]
  rfl
theorem S_laws_eqByteS {gl : List (Nat × Obj)} : Sat Tryd.prog gl 46 c_laws_eqByteS :=
  sat_eval Tryd.func46 ⟨_, Tryd.func46, by kernel_rfl, by kernel_rfl⟩ (fun _ _ h => by cases h) (fun n x y h => ⟨n, [], (e_laws_eqByteS n x.1.1 x.1.2.1).trans h⟩)

/-! loop.example/g00003/laws.eqSegment -/
abbrev k_laws_eqSegment_0 : Tm := ⟨[(0, (.agg [(.int .i64), (.int .i64), (.int .i64), (.int .i64), (.int .i64), (.int .i64), (.int .i64), .bool, (.int .i64), .bool, (.ro (.pair (.int .i64) (.pair (.int .i64) .unit))), (.ro (.int .u8))])), (1, (.agg [(.int .i64), (.int .i64), (.int .i64), (.int .i64), (.int .i64), (.int .i64), (.int .i64), .bool, (.int .i64), .bool, (.ro (.pair (.int .i64) (.pair (.int .i64) .unit))), (.ro (.int .u8))]))], []⟩
noncomputable def c_laws_eqSegment : Con := ⟨k_laws_eqSegment_0, .bool, [], fun n x => g_laws_eqSegment n x.1.1.1 x.1.1.2.1 x.1.1.2.2.1 x.1.1.2.2.2.1 x.1.1.2.2.2.2.1 x.1.1.2.2.2.2.2.1 x.1.1.2.2.2.2.2.2.1 x.1.1.2.2.2.2.2.2.2.1 x.1.1.2.2.2.2.2.2.2.2.1 x.1.1.2.2.2.2.2.2.2.2.2.1 x.1.1.2.2.2.2.2.2.2.2.2.2.1 x.1.1.2.2.2.2.2.2.2.2.2.2.2.1 x.1.2.1.1 x.1.2.1.2.1 x.1.2.1.2.2.1 x.1.2.1.2.2.2.1 x.1.2.1.2.2.2.2.1 x.1.2.1.2.2.2.2.2.1 x.1.2.1.2.2.2.2.2.2.1 x.1.2.1.2.2.2.2.2.2.2.1 x.1.2.1.2.2.2.2.2.2.2.2.1 x.1.2.1.2.2.2.2.2.2.2.2.2.1 x.1.2.1.2.2.2.2.2.2.2.2.2.2.1 x.1.2.1.2.2.2.2.2.2.2.2.2.2.2.1⟩
noncomputable def ct_laws_eqSegment : List (Nat × Con) := [(45, c_laws_eqStretchS), (46, c_laws_eqByteS)]
noncomputable def E_laws_eqSegment (n : Nat) : Env := { P := Tryd.prog, ct := ct_laws_eqSegment, fuel := n }
theorem e_laws_eqSegment (n : Nat) (a_1 : Int) (a_2 : Int) (a_3 : Int) (a_4 : Int) (a_5 : Int) (a_6 : Int) (a_7 : Int) (a_8 : Bool) (a_9 : Int) (a_10 : Bool) (a_11 : List (Int × Int × Unit)) (a_12 : List Int) (b_13 : Int) (b_14 : Int) (b_15 : Int) (b_16 : Int) (b_17 : Int) (b_18 : Int) (b_19 : Int) (b_20 : Bool) (b_21 : Int) (b_22 : Bool) (b_23 : List (Int × Int × Unit)) (b_24 : List Int) :
    evalFn (E_laws_eqSegment n) Tryd.f12 k_laws_eqSegment_0 .bool [] .z (((a_1, a_2, a_3, a_4, a_5, a_6, a_7, a_8, a_9, a_10, a_11, a_12, ()), (b_13, b_14, b_15, b_16, b_17, b_18, b_19, b_20, b_21, b_22, b_23, b_24, ()), ()), ())
      = g_laws_eqSegment n a_1 a_2 a_3 a_4 a_5 a_6 a_7 a_8 a_9 a_10 a_11 a_12 b_13 b_14 b_15 b_16 b_17 b_18 b_19 b_20 b_21 b_22 b_23 b_24 := by kernel_rfl
theorem S_laws_eqSegment {gl : List (Nat × Obj)} : Sat Tryd.prog gl 12 c_laws_eqSegment :=
  sat_eval Tryd.func12 ⟨_, Tryd.func12, by kernel_rfl, by kernel_rfl⟩ (ct_cons S_laws_eqStretchS (ct_cons S_laws_eqByteS (fun _ _ h => by cases h))) (fun n x y h => ⟨n, [], (e_laws_eqSegment n x.1.1.1 x.1.1.2.1 x.1.1.2.2.1 x.1.1.2.2.2.1 x.1.1.2.2.2.2.1 x.1.1.2.2.2.2.2.1 x.1.1.2.2.2.2.2.2.1 x.1.1.2.2.2.2.2.2.2.1 x.1.1.2.2.2.2.2.2.2.2.1 x.1.1.2.2.2.2.2.2.2.2.2.1 x.1.1.2.2.2.2.2.2.2.2.2.2.1 x.1.1.2.2.2.2.2.2.2.2.2.2.2.1 x.1.2.1.1 x.1.2.1.2.1 x.1.2.1.2.2.1 x.1.2.1.2.2.2.1 x.1.2.1.2.2.2.2.1 x.1.2.1.2.2.2.2.2.1 x.1.2.1.2.2.2.2.2.2.1 x.1.2.1.2.2.2.2.2.2.2.1 x.1.2.1.2.2.2.2.2.2.2.2.1 x.1.2.1.2.2.2.2.2.2.2.2.2.1 x.1.2.1.2.2.2.2.2.2.2.2.2.2.1 x.1.2.1.2.2.2.2.2.2.2.2.2.2.2.1).trans h⟩)

/-! loop.example/g00003/laws.markStretchS -/
abbrev k_laws_markStretchS_0 : Tm := ⟨[(0, (.own 100001)), (1, (.int .i64))], [(100001, (.arr (.pair (.int .i64) (.pair (.int .i64) .unit))))]⟩
noncomputable def c_laws_markStretchS : Con := ⟨k_laws_markStretchS_0, (.int .i64), [(100001, (.arr (.pair (.int .i64) (.pair (.int .i64) .unit))))], fun n x => g_laws_markStretchS n x.1.2.1 x.2.1⟩
noncomputable def ct_laws_markStretchS : List (Nat × Con) := []
noncomputable def E_laws_markStretchS (n : Nat) : Env := { P := Tryd.prog, ct := ct_laws_markStretchS, fuel := n }
abbrev k_laws_markStretchS_1 : Tm := ⟨[(0, (.own 100001)), (1, (.int .i64)), (5, (.int .i64))], [(100001, (.arr (.pair (.int .i64) (.pair (.int .i64) .unit))))]⟩
noncomputable def b_laws_markStretchS_0 (n m : Nat) (x : Tm.T k_laws_markStretchS_1) : Option ((Unit × Int × Unit) × ((List (Int × Int × Unit)) × Unit)) := lpF (E_laws_markStretchS n) [100001] k_laws_markStretchS_1 27 (sub (bodyOf Tryd.f47) [1, 0, 1, 0, 0]) .z (kBlock 0 (kCut [100001] k_laws_markStretchS_0)) m x
theorem r_laws_markStretchS_0 (n m : Nat) (k_10 : Int) (i_11 : Int) (a_12 : List (Int × Int × Unit)) :
    rnd (E_laws_markStretchS n) [100001] k_laws_markStretchS_1 27 (sub (bodyOf Tryd.f47) [1, 0, 1, 0, 0]) .z (kBlock 0 (kCut [100001] k_laws_markStretchS_0)) (fun x => l_laws_markStretchS_0 n m x.1.2.1 x.1.2.2.1 x.2.1) (((), k_10, i_11, ()), (a_12, ()))
      = l_laws_markStretchS_0 n (m + 1) k_10 i_11 a_12 := by kernel_rfl
theorem lp_laws_markStretchS_0 (n : Nat) : ∀ (m : Nat) (x : Tm.T k_laws_markStretchS_1), b_laws_markStretchS_0 n m x = l_laws_markStretchS_0 n m x.1.2.1 x.1.2.2.1 x.2.1
  | 0, _ => rfl
  | m + 1, x => by
    unfold b_laws_markStretchS_0
    rw [lpF_succ]
    have ih : lpF (E_laws_markStretchS n) [100001] k_laws_markStretchS_1 27 (sub (bodyOf Tryd.f47) [1, 0, 1, 0, 0]) .z (kBlock 0 (kCut [100001] k_laws_markStretchS_0)) m = (fun x => l_laws_markStretchS_0 n m x.1.2.1 x.1.2.2.1 x.2.1) := funext fun x => lp_laws_markStretchS_0 n m x
    rw [ih]
    exact r_laws_markStretchS_0 n m x.1.2.1 x.1.2.2.1 x.2.1
theorem e_laws_markStretchS (n : Nat) (k_1 : Int) (a_2 : List (Int × Int × Unit)) :
    evalFn (E_laws_markStretchS n) Tryd.f47 k_laws_markStretchS_0 (.int .i64) [(100001, (.arr (.pair (.int .i64) (.pair (.int .i64) .unit))))] (.two .z (.two (.two .z (.cut k_laws_markStretchS_0 (.one (.loop k_laws_markStretchS_1 .z)))) .z)) (((), k_1, ()), (a_2, ()))
      = g_laws_markStretchS n k_1 a_2 := by
  refine Eq.trans (b := t_laws_markStretchS n (fun a0 a1 a2 => b_laws_markStretchS_0 n n (((), a0, a1, ()), (a2, ()))) k_1 a_2) (by kernel_rfl) ?_
  have e0 : (fun a0 a1 a2 => b_laws_markStretchS_0 n n (((), a0, a1, ()), (a2, ()))) = l_laws_markStretchS_0 n n := by funext a0 a1 a2; exact lp_laws_markStretchS_0 n n _
  rw [e0]
  rfl
theorem S_laws_markStretchS {gl : List (Nat × Obj)} : Sat Tryd.prog gl 47 c_laws_markStretchS :=
  sat_eval Tryd.func47 ⟨_, Tryd.func47, by kernel_rfl, by kernel_rfl⟩ (fun _ _ h => by cases h) (fun n x y h => ⟨n, [], (e_laws_markStretchS n x.1.2.1 x.2.1).trans h⟩)

/-! loop.example/g00003/laws.markByteS -/
abbrev k_laws_markByteS_0 : Tm := ⟨[(0, (.own 100001)), (1, (.int .i64))], [(100001, (.arr (.int .u8)))]⟩
noncomputable def c_laws_markByteS : Con := ⟨k_laws_markByteS_0, (.int .i64), [(100001, (.arr (.int .u8)))], fun n x => g_laws_markByteS n x.1.2.1 x.2.1⟩
noncomputable def ct_laws_markByteS : List (Nat × Con) := []
noncomputable def E_laws_markByteS (n : Nat) : Env := { P := Tryd.prog, ct := ct_laws_markByteS, fuel := n }
abbrev k_laws_markByteS_1 : Tm := ⟨[(0, (.own 100001)), (1, (.int .i64)), (5, (.int .i64))], [(100001, (.arr (.int .u8)))]⟩
noncomputable def b_laws_markByteS_0 (n m : Nat) (x : Tm.T k_laws_markByteS_1) : Option ((Unit × Int × Unit) × ((List Int) × Unit)) := lpF (E_laws_markByteS n) [100001] k_laws_markByteS_1 20 (sub (bodyOf Tryd.f48) [1, 0, 1, 0, 0]) .z (kBlock 0 (kCut [100001] k_laws_markByteS_0)) m x
theorem r_laws_markByteS_0 (n m : Nat) (k_10 : Int) (i_11 : Int) (a_12 : List Int) :
    rnd (E_laws_markByteS n) [100001] k_laws_markByteS_1 20 (sub (bodyOf Tryd.f48) [1, 0, 1, 0, 0]) .z (kBlock 0 (kCut [100001] k_laws_markByteS_0)) (fun x => l_laws_markByteS_0 n m x.1.2.1 x.1.2.2.1 x.2.1) (((), k_10, i_11, ()), (a_12, ()))
      = l_laws_markByteS_0 n (m + 1) k_10 i_11 a_12 := by kernel_rfl
theorem lp_laws_markByteS_0 (n : Nat) : ∀ (m : Nat) (x : Tm.T k_laws_markByteS_1), b_laws_markByteS_0 n m x = l_laws_markByteS_0 n m x.1.2.1 x.1.2.2.1 x.2.1
  | 0, _ => rfl
  | m + 1, x => by
    unfold b_laws_markByteS_0
    rw [lpF_succ]
    have ih : lpF (E_laws_markByteS n) [100001] k_laws_markByteS_1 20 (sub (bodyOf Tryd.f48) [1, 0, 1, 0, 0]) .z (kBlock 0 (kCut [100001] k_laws_markByteS_0)) m = (fun x => l_laws_markByteS_0 n m x.1.2.1 x.1.2.2.1 x.2.1) := funext fun x => lp_laws_markByteS_0 n m x
    rw [ih]
    exact r_laws_markByteS_0 n m x.1.2.1 x.1.2.2.1 x.2.1
theorem e_laws_markByteS (n : Nat) (k_1 : Int) (a_2 : List Int) :
    evalFn (E_laws_markByteS n) Tryd.f48 k_laws_markByteS_0 (.int .i64) [(100001, (.arr (.int .u8)))] (.two .z (.two (.two .z (.cut k_laws_markByteS_0 (.one (.loop k_laws_markByteS_1 .z)))) .z)) (((), k_1, ()), (a_2, ()))
      = g_laws_markByteS n k_1 a_2 := by
  refine Eq.trans (b := t_laws_markByteS n (fun a0 a1 a2 => b_laws_markByteS_0 n n (((), a0, a1, ()), (a2, ()))) k_1 a_2) (by kernel_rfl) ?_
  have e0 : (fun a0 a1 a2 => b_laws_markByteS_0 n n (((), a0, a1, ()), (a2, ()))) = l_laws_markByteS_0 n n := by funext a0 a1 a2; exact lp_laws_markByteS_0 n n _
  rw [e0]
  rfl
theorem S_laws_markByteS {gl : List (Nat × Obj)} : Sat Tryd.prog gl 48 c_laws_markByteS :=
  sat_eval Tryd.func48 ⟨_, Tryd.func48, by kernel_rfl, by kernel_rfl⟩ (fun _ _ h => by cases h) (fun n x y h => ⟨n, [], (e_laws_markByteS n x.1.2.1 x.2.1).trans h⟩)

/-! loop.example/g00003/laws.markSegment -/
abbrev k_laws_markSegment_0 : Tm := ⟨[(0, (.agg [(.int .i64), (.int .i64), (.int .i64), (.int .i64), (.int .i64), (.int .i64), (.int .i64), .bool, (.int .i64), .bool, (.own 100001), (.own 100002)])), (1, (.int .i64))], [(100001, (.arr (.pair (.int .i64) (.pair (.int .i64) .unit)))), (100002, (.arr (.int .u8)))]⟩
noncomputable def c_laws_markSegment : Con := ⟨k_laws_markSegment_0, (.int .i64), [(100001, (.arr (.pair (.int .i64) (.pair (.int .i64) .unit)))), (100002, (.arr (.int .u8)))], fun n x => g_laws_markSegment n x.1.1.1 x.1.1.2.1 x.1.1.2.2.1 x.1.1.2.2.2.1 x.1.1.2.2.2.2.1 x.1.1.2.2.2.2.2.1 x.1.1.2.2.2.2.2.2.1 x.1.1.2.2.2.2.2.2.2.1 x.1.1.2.2.2.2.2.2.2.2.1 x.1.1.2.2.2.2.2.2.2.2.2.1 x.1.2.1 x.2.1 x.2.2.1⟩
noncomputable def ct_laws_markSegment : List (Nat × Con) := [(47, c_laws_markStretchS), (48, c_laws_markByteS)]
noncomputable def E_laws_markSegment (n : Nat) : Env := { P := Tryd.prog, ct := ct_laws_markSegment, fuel := n }
theorem e_laws_markSegment (n : Nat) (a_1 : Int) (a_2 : Int) (a_3 : Int) (a_4 : Int) (a_5 : Int) (a_6 : Int) (a_7 : Int) (a_8 : Bool) (a_9 : Int) (a_10 : Bool) (k_11 : Int) (a_12 : List (Int × Int × Unit)) (a_13 : List Int) :
    evalFn (E_laws_markSegment n) Tryd.f13 k_laws_markSegment_0 (.int .i64) [(100001, (.arr (.pair (.int .i64) (.pair (.int .i64) .unit)))), (100002, (.arr (.int .u8)))] .z (((a_1, a_2, a_3, a_4, a_5, a_6, a_7, a_8, a_9, a_10, (), (), ()), k_11, ()), (a_12, a_13, ()))
      = g_laws_markSegment n a_1 a_2 a_3 a_4 a_5 a_6 a_7 a_8 a_9 a_10 k_11 a_12 a_13 := by kernel_rfl
theorem S_laws_markSegment {gl : List (Nat × Obj)} : Sat Tryd.prog gl 13 c_laws_markSegment :=
  sat_eval Tryd.func13 ⟨_, Tryd.func13, by kernel_rfl, by kernel_rfl⟩ (ct_cons S_laws_markStretchS (ct_cons S_laws_markByteS (fun _ _ h => by cases h))) (fun n x y h => ⟨n, [], (e_laws_markSegment n x.1.1.1 x.1.1.2.1 x.1.1.2.2.1 x.1.1.2.2.2.1 x.1.1.2.2.2.2.1 x.1.1.2.2.2.2.2.1 x.1.1.2.2.2.2.2.2.1 x.1.1.2.2.2.2.2.2.2.1 x.1.1.2.2.2.2.2.2.2.2.1 x.1.1.2.2.2.2.2.2.2.2.2.1 x.1.2.1 x.2.1 x.2.2.1).trans h⟩)

/-! loop.example/g00003/laws.heldStretchS -/
abbrev k_laws_heldStretchS_0 : Tm := ⟨[(0, (.ro (.pair (.int .i64) (.pair (.int .i64) .unit)))), (1, (.int .i64))], []⟩
noncomputable def c_laws_heldStretchS : Con := ⟨k_laws_heldStretchS_0, (.int .i64), [], fun n x => g_laws_heldStretchS n x.1.1 x.1.2.1⟩
noncomputable def ct_laws_heldStretchS : List (Nat × Con) := []
noncomputable def E_laws_heldStretchS (n : Nat) : Env := { P := Tryd.prog, ct := ct_laws_heldStretchS, fuel := n }
abbrev k_laws_heldStretchS_1 : Tm := ⟨[(1, (.int .i64))], []⟩
abbrev k_laws_heldStretchS_2 : Tm := ⟨[(0, (.ro (.pair (.int .i64) (.pair (.int .i64) .unit)))), (1, (.int .i64)), (5, (.int .i64))], []⟩
noncomputable def b_laws_heldStretchS_0 (n m : Nat) (x : Tm.T k_laws_heldStretchS_2) : Option ((Int) × (Unit) ⊕ ((Int × Unit) × (Unit))) := lpF (E_laws_heldStretchS n) [] k_laws_heldStretchS_2 31 (sub (bodyOf Tryd.f49) [1, 0, 1, 0, 0]) .z (kBlock 0 (kCutr [] k_laws_heldStretchS_1 (kFinR (E_laws_heldStretchS n) Tryd.f49 (.int .i64) []))) m x
theorem r_laws_heldStretchS_0 (n m : Nat) (a_14 : List (Int × Int × Unit)) (k_15 : Int) (i_16 : Int) :
    rnd (E_laws_heldStretchS n) [] k_laws_heldStretchS_2 31 (sub (bodyOf Tryd.f49) [1, 0, 1, 0, 0]) .z (kBlock 0 (kCutr [] k_laws_heldStretchS_1 (kFinR (E_laws_heldStretchS n) Tryd.f49 (.int .i64) []))) (fun x => l_laws_heldStretchS_0 n m x.1.1 x.1.2.1 x.1.2.2.1) ((a_14, k_15, i_16, ()), ())
      = l_laws_heldStretchS_0 n (m + 1) a_14 k_15 i_16 := by kernel_rfl
theorem lp_laws_heldStretchS_0 (n : Nat) : ∀ (m : Nat) (x : Tm.T k_laws_heldStretchS_2), b_laws_heldStretchS_0 n m x = l_laws_heldStretchS_0 n m x.1.1 x.1.2.1 x.1.2.2.1
  | 0, _ => rfl
  | m + 1, x => by
    unfold b_laws_heldStretchS_0
    rw [lpF_succ]
    have ih : lpF (E_laws_heldStretchS n) [] k_laws_heldStretchS_2 31 (sub (bodyOf Tryd.f49) [1, 0, 1, 0, 0]) .z (kBlock 0 (kCutr [] k_laws_heldStretchS_1 (kFinR (E_laws_heldStretchS n) Tryd.f49 (.int .i64) []))) m = (fun x => l_laws_heldStretchS_0 n m x.1.1 x.1.2.1 x.1.2.2.1) := funext fun x => lp_laws_heldStretchS_0 n m x
    rw [ih]
    exact r_laws_heldStretchS_0 n m x.1.1 x.1.2.1 x.1.2.2.1
theorem e_laws_heldStretchS (n : Nat) (a_1 : List (Int × Int × Unit)) (k_2 : Int) :
    evalFn (E_laws_heldStretchS n) Tryd.f49 k_laws_heldStretchS_0 (.int .i64) [] (.two .z (.two (.two .z (.cutr k_laws_heldStretchS_1 (.one (.loop k_laws_heldStretchS_2 .z)))) .z)) ((a_1, k_2, ()), ())
      = g_laws_heldStretchS n a_1 k_2 := by
  refine Eq.trans (b := t_laws_heldStretchS n (fun a0 a1 a2 => b_laws_heldStretchS_0 n n ((a0, a1, a2, ()), ())) a_1 k_2) (by kernel_rfl) ?_
  have e0 : (fun a0 a1 a2 => b_laws_heldStretchS_0 n n ((a0, a1, a2, ()), ())) = l_laws_heldStretchS_0 n n := by funext a0 a1 a2; exact lp_laws_heldStretchS_0 n n _
  rw [e0]
  rfl
theorem S_laws_heldStretchS {gl : List (Nat × Obj)} : Sat Tryd.prog gl 49 c_laws_heldStretchS :=
  sat_eval Tryd.func49 ⟨_, Tryd.func49, by kernel_rfl, by kernel_rfl⟩ (fun _ _ h => by cases h) (fun n x y h => ⟨n, [], (e_laws_heldStretchS n x.1.1 x.1.2.1).trans h⟩)

/-! loop.example/g00003/laws.heldByteS -/
abbrev k_laws_heldByteS_0 : Tm := ⟨[(0, (.ro (.int .u8))), (1, (.int .i64))], []⟩
noncomputable def c_laws_heldByteS : Con := ⟨k_laws_heldByteS_0, (.int .i64), [], fun n x => g_laws_heldByteS n x.1.1 x.1.2.1⟩
noncomputable def ct_laws_heldByteS : List (Nat × Con) := []
noncomputable def E_laws_heldByteS (n : Nat) : Env := { P := Tryd.prog, ct := ct_laws_heldByteS, fuel := n }
abbrev k_laws_heldByteS_1 : Tm := ⟨[(1, (.int .i64))], []⟩
abbrev k_laws_heldByteS_2 : Tm := ⟨[(0, (.ro (.int .u8))), (1, (.int .i64)), (5, (.int .i64))], []⟩
noncomputable def b_laws_heldByteS_0 (n m : Nat) (x : Tm.T k_laws_heldByteS_2) : Option ((Int) × (Unit) ⊕ ((Int × Unit) × (Unit))) := lpF (E_laws_heldByteS n) [] k_laws_heldByteS_2 22 (sub (bodyOf Tryd.f50) [1, 0, 1, 0, 0]) .z (kBlock 0 (kCutr [] k_laws_heldByteS_1 (kFinR (E_laws_heldByteS n) Tryd.f50 (.int .i64) []))) m x
theorem r_laws_heldByteS_0 (n m : Nat) (a_12 : List Int) (k_13 : Int) (i_14 : Int) :
    rnd (E_laws_heldByteS n) [] k_laws_heldByteS_2 22 (sub (bodyOf Tryd.f50) [1, 0, 1, 0, 0]) .z (kBlock 0 (kCutr [] k_laws_heldByteS_1 (kFinR (E_laws_heldByteS n) Tryd.f50 (.int .i64) []))) (fun x => l_laws_heldByteS_0 n m x.1.1 x.1.2.1 x.1.2.2.1) ((a_12, k_13, i_14, ()), ())
      = l_laws_heldByteS_0 n (m + 1) a_12 k_13 i_14 := by kernel_rfl
theorem lp_laws_heldByteS_0 (n : Nat) : ∀ (m : Nat) (x : Tm.T k_laws_heldByteS_2), b_laws_heldByteS_0 n m x = l_laws_heldByteS_0 n m x.1.1 x.1.2.1 x.1.2.2.1
  | 0, _ => rfl
  | m + 1, x => by
    unfold b_laws_heldByteS_0
    rw [lpF_succ]
    have ih : lpF (E_laws_heldByteS n) [] k_laws_heldByteS_2 22 (sub (bodyOf Tryd.f50) [1, 0, 1, 0, 0]) .z (kBlock 0 (kCutr [] k_laws_heldByteS_1 (kFinR (E_laws_heldByteS n) Tryd.f50 (.int .i64) []))) m = (fun x => l_laws_heldByteS_0 n m x.1.1 x.1.2.1 x.1.2.2.1) := funext fun x => lp_laws_heldByteS_0 n m x
    rw [ih]
    exact r_laws_heldByteS_0 n m x.1.1 x.1.2.1 x.1.2.2.1
theorem e_laws_heldByteS (n : Nat) (a_1 : List Int) (k_2 : Int) :
    evalFn (E_laws_heldByteS n) Tryd.f50 k_laws_heldByteS_0 (.int .i64) [] (.two .z (.two (.two .z (.cutr k_laws_heldByteS_1 (.one (.loop k_laws_heldByteS_2 .z)))) .z)) ((a_1, k_2, ()), ())
      = g_laws_heldByteS n a_1 k_2 := by
  refine Eq.trans (b := t_laws_heldByteS n (fun a0 a1 a2 => b_laws_heldByteS_0 n n ((a0, a1, a2, ()), ())) a_1 k_2) (by kernel_rfl) ?_
  have e0 : (fun a0 a1 a2 => b_laws_heldByteS_0 n n ((a0, a1, a2, ()), ())) = l_laws_heldByteS_0 n n := by funext a0 a1 a2; exact lp_laws_heldByteS_0 n n _
  rw [e0]
  rfl
theorem S_laws_heldByteS {gl : List (Nat × Obj)} : Sat Tryd.prog gl 50 c_laws_heldByteS :=
  sat_eval Tryd.func50 ⟨_, Tryd.func50, by kernel_rfl, by kernel_rfl⟩ (fun _ _ h => by cases h) (fun n x y h => ⟨n, [], (e_laws_heldByteS n x.1.1 x.1.2.1).trans h⟩)

/-! loop.example/g00003/laws.heldSegment -/
abbrev k_laws_heldSegment_0 : Tm := ⟨[(0, (.agg [(.int .i64), (.int .i64), (.int .i64), (.int .i64), (.int .i64), (.int .i64), (.int .i64), .bool, (.int .i64), .bool, (.ro (.pair (.int .i64) (.pair (.int .i64) .unit))), (.ro (.int .u8))])), (1, (.int .i64))], []⟩
noncomputable def c_laws_heldSegment : Con := ⟨k_laws_heldSegment_0, (.int .i64), [], fun n x => g_laws_heldSegment n x.1.1.1 x.1.1.2.1 x.1.1.2.2.1 x.1.1.2.2.2.1 x.1.1.2.2.2.2.1 x.1.1.2.2.2.2.2.1 x.1.1.2.2.2.2.2.2.1 x.1.1.2.2.2.2.2.2.2.1 x.1.1.2.2.2.2.2.2.2.2.1 x.1.1.2.2.2.2.2.2.2.2.2.1 x.1.1.2.2.2.2.2.2.2.2.2.2.1 x.1.1.2.2.2.2.2.2.2.2.2.2.2.1 x.1.2.1⟩
noncomputable def ct_laws_heldSegment : List (Nat × Con) := [(49, c_laws_heldStretchS), (50, c_laws_heldByteS)]
noncomputable def E_laws_heldSegment (n : Nat) : Env := { P := Tryd.prog, ct := ct_laws_heldSegment, fuel := n }
theorem e_laws_heldSegment (n : Nat) (a_1 : Int) (a_2 : Int) (a_3 : Int) (a_4 : Int) (a_5 : Int) (a_6 : Int) (a_7 : Int) (a_8 : Bool) (a_9 : Int) (a_10 : Bool) (a_11 : List (Int × Int × Unit)) (a_12 : List Int) (k_13 : Int) :
    evalFn (E_laws_heldSegment n) Tryd.f14 k_laws_heldSegment_0 (.int .i64) [] .z (((a_1, a_2, a_3, a_4, a_5, a_6, a_7, a_8, a_9, a_10, a_11, a_12, ()), k_13, ()), ())
      = g_laws_heldSegment n a_1 a_2 a_3 a_4 a_5 a_6 a_7 a_8 a_9 a_10 a_11 a_12 k_13 := by kernel_rfl
theorem S_laws_heldSegment {gl : List (Nat × Obj)} : Sat Tryd.prog gl 14 c_laws_heldSegment :=
  sat_eval Tryd.func14 ⟨_, Tryd.func14, by kernel_rfl, by kernel_rfl⟩ (ct_cons S_laws_heldStretchS (ct_cons S_laws_heldByteS (fun _ _ h => by cases h))) (fun n x y h => ⟨n, [], (e_laws_heldSegment n x.1.1.1 x.1.1.2.1 x.1.1.2.2.1 x.1.1.2.2.2.1 x.1.1.2.2.2.2.1 x.1.1.2.2.2.2.2.1 x.1.1.2.2.2.2.2.2.1 x.1.1.2.2.2.2.2.2.2.1 x.1.1.2.2.2.2.2.2.2.2.1 x.1.1.2.2.2.2.2.2.2.2.2.1 x.1.1.2.2.2.2.2.2.2.2.2.2.1 x.1.1.2.2.2.2.2.2.2.2.2.2.2.1 x.1.2.1).trans h⟩)

/-! loop.example/g00003/laws.FnExactReadSegment -/
abbrev k_laws_FnExactReadSegment_0 : Tm := ⟨[(0, .str)], []⟩
noncomputable def c_laws_FnExactReadSegment : Con := ⟨k_laws_FnExactReadSegment_0, .bool, [], fun n x => g_laws_FnExactReadSegment n x.1.1⟩
noncomputable def ct_laws_FnExactReadSegment : List (Nat × Con) := [(8, c_impl_ReadSegment), (11, c_spec_ReadSegment), (12, c_laws_eqSegment), (13, c_laws_markSegment), (14, c_laws_heldSegment)]
noncomputable def E_laws_FnExactReadSegment (n : Nat) : Env := { P := Tryd.prog, ct := ct_laws_FnExactReadSegment, fuel := n }
abbrev k_laws_FnExactReadSegment_1 : Tm := ⟨[(0, .str), (3, (.ptr 3)), (4, (.int .i64)), (5, (.ptr 5)), (32, .bool)], [(3, (.box [(.int .i64), (.int .i64), (.int .i64), (.int .i64), (.int .i64), (.int .i64), (.int .i64), .bool, (.int .i64), .bool, (.own 2016), (.own 3016)])), (5, (.box [(.int .i64), (.int .i64), (.int .i64), (.int .i64), (.int .i64), (.int .i64), (.int .i64), .bool, (.int .i64), .bool, (.own 2021), (.own 3021)])), (2016, (.arr (.pair (.int .i64) (.pair (.int .i64) .unit)))), (3016, (.arr (.int .u8))), (2021, (.arr (.pair (.int .i64) (.pair (.int .i64) .unit)))), (3021, (.arr (.int .u8)))]⟩
abbrev k_laws_FnExactReadSegment_2 : Tm := ⟨[(5, (.ptr 5)), (7, (.int .i64)), (57, .bool)], [(5, (.box [(.int .i64), (.int .i64), (.int .i64), (.int .i64), (.int .i64), (.int .i64), (.int .i64), .bool, (.int .i64), .bool, (.own 2021), (.own 3021)])), (2021, (.arr (.pair (.int .i64) (.pair (.int .i64) .unit)))), (3021, (.arr (.int .u8)))]⟩
theorem e_laws_FnExactReadSegment (n : Nat) (aText_1 : List Int) :
    evalFn (E_laws_FnExactReadSegment n) Tryd.f4 k_laws_FnExactReadSegment_0 .bool [] (.two .z (.two .z (.two .z (.two .z (.two (.two (.cut k_laws_FnExactReadSegment_1 .z) .z) (.two .z (.two .z (.two .z (.two .z (.two .z (.two .z (.two .z (.two (.two (.cut k_laws_FnExactReadSegment_2 .z) .z) .z))))))))))))) ((aText_1, ()), ())
      = g_laws_FnExactReadSegment n aText_1 := by kernel_rfl
theorem S_laws_FnExactReadSegment {gl : List (Nat × Obj)} (hL : LibG gl) : Sat Tryd.prog gl 4 c_laws_FnExactReadSegment :=
  sat_eval Tryd.func4 ⟨_, Tryd.func4, by kernel_rfl, by kernel_rfl⟩ (ct_cons (S_impl_ReadSegment hL) (ct_cons S_spec_ReadSegment (ct_cons S_laws_eqSegment (ct_cons S_laws_markSegment (ct_cons S_laws_heldSegment (fun _ _ h => by cases h)))))) (fun n x y h => ⟨n, [], (e_laws_FnExactReadSegment n x.1.1).trans h⟩)

end Go.Vm
