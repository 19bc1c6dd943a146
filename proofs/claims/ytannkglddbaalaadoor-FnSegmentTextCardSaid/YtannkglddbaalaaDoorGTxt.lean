/- printed -/
import Derived.Test.YtannkglddbaalaaDoorVmLibPure
set_option linter.unusedSimpArgs false
set_option linter.unusedVariables false
namespace Go.Vm

def l_spec_l01Begin_0 (n : Nat) : Nat → List Int → Int → Int → Int → List Int → Int → Int → Option ((Unit × Unit × Unit) × ((Unit × Int × Int × Unit) × ((List Int) × Int × Int × Unit) × Unit))
  | 0, _, _, _, _, _, _, _ => none
  | m + 1, code_15, i_16, f1_17, f2_18, f0_19, f1_20, f2_21 =>
    if (decide (i_16 < (code_15.length : Int))) then
      gd (0 ≤ i_16 ∧ i_16 < (code_15.length : Int)) <|
      l_spec_l01Begin_0 n m code_15 (wi64 (i_16 + 1)) f1_17 f2_18 f0_19 f1_20 (wu64 ((ixor .u64 f2_21 (wu64 (code_15.getD (Int.toNat i_16) 0))) * 1099511628211))
    else
      some (((), (), ()), (((), f1_17, f2_18, ()), (f0_19, f1_20, f2_21, ()), ()))

def t_spec_l01Begin (n : Nat) (L0 : List Int → Int → Int → Int → List Int → Int → Int → Option ((Unit × Unit × Unit) × ((Unit × Int × Int × Unit) × ((List Int) × Int × Int × Unit) × Unit))) (code_1 : List Int) : Option (((List Int) × Int × Int × Unit) × (Unit)) :=
  (L0 code_1 0 0 0 code_1 0 1469598103934665603).bind fun x_28 =>
  some ((x_28.2.2.1.1, x_28.2.2.1.2.1, x_28.2.2.1.2.2.1, ()), ())

def g_spec_l01Begin (n : Nat) (code_1 : List Int) : Option (((List Int) × Int × Int × Unit) × (Unit)) := t_spec_l01Begin n (l_spec_l01Begin_0 n n) code_1

def g_spec_l01Next (n : Nat) (n_1 : Int) (code_2 : List Int) (pos_3 : Int) (state_4 : Int) : Option ((Int) × (((List Int) × Int × Int × Unit) × Unit)) :=
  if (decide (n_1 ≤ 0)) then
    some (0, ((code_2, pos_3, state_4, ()), ()))
  else
    let t_7 := wu64 ((wu64 (state_4 * 6364136223846793005)) + 1442695040888963407)
    let t_8 := ishr .u64 t_7 33
    if (decide (pos_3 < (code_2.length : Int))) then
      gd (0 ≤ pos_3 ∧ pos_3 < (code_2.length : Int)) <|
      let t_14 := wu64 n_1
      ngd (t_14 = 0) <|
      some ((wi64 (Int.tmod (ixor .u64 t_8 (wu64 (code_2.getD (Int.toNat pos_3) 0))) t_14)), ((code_2, (wi64 (pos_3 + 1)), t_7, ()), ()))
    else
      let t_17 := wu64 n_1
      ngd (t_17 = 0) <|
      some ((wi64 (Int.tmod t_8 t_17)), ((code_2, pos_3, t_7, ()), ()))

def g_spec_l01Seq (n : Nat) (code_1 : List Int) (pos_2 : Int) (state_3 : Int) : Option ((Int) × (((List Int) × Int × Int × Unit) × Unit)) :=
  (g_spec_l01Next n 4 code_1 pos_2 state_3).bind fun y_4 =>
  if (y_4.1 == 0) then
    (g_spec_l01Next n 3000 y_4.2.1.1 y_4.2.1.2.1 y_4.2.1.2.2.1).bind fun y_6 =>
    some ((wi64 (4294967295 - y_6.1)), ((y_6.2.1.1, y_6.2.1.2.1, y_6.2.1.2.2.1, ()), ()))
  else
    if (y_4.1 == 1) then
      (g_spec_l01Next n 3000 y_4.2.1.1 y_4.2.1.2.1 y_4.2.1.2.2.1).bind fun y_9 =>
      some (y_9.1, ((y_9.2.1.1, y_9.2.1.2.1, y_9.2.1.2.2.1, ()), ()))
    else
      if (y_4.1 == 2) then
        (g_spec_l01Next n 4 y_4.2.1.1 y_4.2.1.2.1 y_4.2.1.2.2.1).bind fun y_11 =>
        some ((wi64 (2147483646 + y_11.1)), ((y_11.2.1.1, y_11.2.1.2.1, y_11.2.1.2.2.1, ()), ()))
      else
        (g_spec_l01Next n 2147483648 y_4.2.1.1 y_4.2.1.2.1 y_4.2.1.2.2.1).bind fun y_13 =>
        some ((wi64 (y_13.1 * 2)), ((y_13.2.1.1, y_13.2.1.2.1, y_13.2.1.2.2.1, ()), ()))

def l_spec_l01Bytes_0 (n : Nat) : Nat → Int → Int → List Int → Int → Int → List Int → Option ((Unit × Unit × Unit) × ((List Int) × ((List Int) × Int × Int × Unit) × Unit))
  | 0, _, _, _, _, _, _ => none
  | m + 1, n_16, i_17, f0_18, f1_19, f2_20, a_21 =>
    if (decide (i_17 < n_16)) then
      (g_spec_l01Next n 256 f0_18 f1_19 f2_20).bind fun y_23 =>
      let t_24 := wu8 y_23.1
      gd (a_21.length + ([t_24] : List Int).length ≤ lim) <|
      l_spec_l01Bytes_0 n m n_16 (wi64 (i_17 + 1)) y_23.2.1.1 y_23.2.1.2.1 y_23.2.1.2.2.1 (a_21 ++ [t_24])
    else
      some (((), (), ()), (a_21, (f0_18, f1_19, f2_20, ()), ()))

def t_spec_l01Bytes (n : Nat) (L0 : Int → Int → List Int → Int → Int → List Int → Option ((Unit × Unit × Unit) × ((List Int) × ((List Int) × Int × Int × Unit) × Unit))) (n_1 : Int) (code_2 : List Int) (pos_3 : Int) (state_4 : Int) : Option ((Unit) × ((List Int) × ((List Int) × Int × Int × Unit) × Unit)) :=
  (L0 n_1 0 code_2 pos_3 state_4 []).bind fun x_27 =>
  some ((), (x_27.2.1, (x_27.2.2.1.1, x_27.2.2.1.2.1, x_27.2.2.1.2.2.1, ()), ()))

def g_spec_l01Bytes (n : Nat) (n_1 : Int) (code_2 : List Int) (pos_3 : Int) (state_4 : Int) : Option ((Unit) × ((List Int) × ((List Int) × Int × Int × Unit) × Unit)) := t_spec_l01Bytes n (l_spec_l01Bytes_0 n n) n_1 code_2 pos_3 state_4

def g_spec_l01Bool (n : Nat) (code_1 : List Int) (pos_2 : Int) (state_3 : Int) : Option ((Bool) × (((List Int) × Int × Int × Unit) × Unit)) :=
  (g_spec_l01Next n 2 code_1 pos_2 state_3).bind fun y_4 =>
  some ((y_4.1 == 0), ((y_4.2.1.1, y_4.2.1.2.1, y_4.2.1.2.2.1, ()), ()))

def l_spec_l11Draw_0 (n : Nat) : Nat → Int → Int → List Int → Int → Int → Int → Int → Int → Int → Int → Int → Int → Bool → Int → Bool → Int → Int → Int → Int → Int → Int → Int → Bool → Int → Bool → (List (Int × Int × Unit)) → List Int → Option ((Unit × Unit × Unit × Unit) × ((Int × Int × Int × Int × Int × Int × Int × Bool × Int × Bool × Unit × Unit × Unit) × (Int × Int × Int × Int × Int × Int × Int × Bool × Int × Bool × Unit × Unit × Unit) × ((List Int) × Int × Int × Unit) × (List (Int × Int × Unit)) × (List Int) × Unit))
  | 0, _, _, _, _, _, _, _, _, _, _, _, _, _, _, _, _, _, _, _, _, _, _, _, _, _, _, _ => none
  | m + 1, n_95, i_96, f0_97, f1_98, f2_99, f0_100, f1_101, f2_102, f3_103, f4_104, f5_105, f6_106, f7_107, f8_108, f9_109, f0_110, f1_111, f2_112, f3_113, f4_114, f5_115, f6_116, f7_117, f8_118, f9_119, a_120, a_121 =>
    if (decide (i_96 < n_95)) then
      (g_spec_l01Seq n f0_97 f1_98 f2_99).bind fun y_123 =>
      (g_spec_l01Seq n y_123.2.1.1 y_123.2.1.2.1 y_123.2.1.2.2.1).bind fun y_124 =>
      gd (a_120.length + ([(y_123.1, (y_124.1, ()))] : List (Int × Int × Unit)).length ≤ lim) <|
      l_spec_l11Draw_0 n m n_95 (wi64 (i_96 + 1)) y_124.2.1.1 y_124.2.1.2.1 y_124.2.1.2.2.1 f0_100 f1_101 f2_102 f3_103 f4_104 f5_105 f6_106 f7_107 f8_108 f9_109 f0_110 f1_111 f2_112 f3_113 f4_114 f5_115 f6_116 f7_117 f8_118 f9_119 (a_120 ++ [(y_123.1, (y_124.1, ()))]) a_121
    else
      some (((), (), (), ()), ((f0_100, f1_101, f2_102, f3_103, f4_104, f5_105, f6_106, f7_107, f8_108, f9_109, (), (), ()), (f0_110, f1_111, f2_112, f3_113, f4_114, f5_115, f6_116, f7_117, f8_118, f9_119, (), (), ()), (f0_97, f1_98, f2_99, ()), a_120, a_121, ()))

def t_spec_l11Draw (n : Nat) (L0 : Int → Int → List Int → Int → Int → Int → Int → Int → Int → Int → Int → Int → Bool → Int → Bool → Int → Int → Int → Int → Int → Int → Int → Bool → Int → Bool → (List (Int × Int × Unit)) → List Int → Option ((Unit × Unit × Unit × Unit) × ((Int × Int × Int × Int × Int × Int × Int × Bool × Int × Bool × Unit × Unit × Unit) × (Int × Int × Int × Int × Int × Int × Int × Bool × Int × Bool × Unit × Unit × Unit) × ((List Int) × Int × Int × Unit) × (List (Int × Int × Unit)) × (List Int) × Unit))) (most_1 : Int) (code_2 : List Int) (pos_3 : Int) (state_4 : Int) : Option ((Int × Int × Int × Int × Int × Int × Int × Bool × Int × Bool × Unit × Unit × Unit) × ((List (Int × Int × Unit)) × (List Int) × ((List Int) × Int × Int × Unit) × Unit)) :=
  (g_spec_l01Next n 2 code_2 pos_3 state_4).bind fun y_5 =>
  let t_6 := wi64 (1000 + y_5.1)
  (g_spec_l01Next n 4 y_5.2.1.1 y_5.2.1.2.1 y_5.2.1.2.2.1).bind fun y_7 =>
  let t_8 := wi64 (50 + y_7.1)
  (g_spec_l01Seq n y_7.2.1.1 y_7.2.1.2.1 y_7.2.1.2.2.1).bind fun y_9 =>
  (g_spec_l01Seq n y_9.2.1.1 y_9.2.1.2.1 y_9.2.1.2.2.1).bind fun y_10 =>
  (g_spec_l01Next n 8 y_10.2.1.1 y_10.2.1.2.1 y_10.2.1.2.2.1).bind fun y_11 =>
  gd (0 ≤ y_11.1 ∧ y_11.1 < ([2, 18, 16, 24, 17, 4, 20, 0].length : Int)) <|
  (g_spec_l01Next n 65536 y_11.2.1.1 y_11.2.1.2.1 y_11.2.1.2.2.1).bind fun y_13 =>
  (g_spec_l01Next n most_1 y_13.2.1.1 y_13.2.1.2.1 y_13.2.1.2.2.1).bind fun y_14 =>
  (g_spec_l01Bytes n y_14.1 y_14.2.1.1 y_14.2.1.2.1 y_14.2.1.2.2.1).bind fun y_15 =>
  (g_spec_l01Next n 12 y_15.2.2.1.1 y_15.2.2.1.2.1 y_15.2.2.1.2.2.1).bind fun y_16 =>
  (
    if (y_16.1 == 0) then
      (g_spec_l01Next n 64 y_16.2.1.1 y_16.2.1.2.1 y_16.2.1.2.2.1).bind fun y_19 =>
      some (((), (), (), ()), ((y_19.2.1.1, y_19.2.1.2.1, y_19.2.1.2.2.1, ()), (0, 0, 0, 0, 0, 0, 0, false, 0, false, (), (), ()), (t_6, t_8, y_9.1, y_10.1, y_19.1, y_13.1, 0, false, 0, false, (), (), ()), y_15.2.1, ()))
    else
      some (((), (), (), ()), ((y_16.2.1.1, y_16.2.1.2.1, y_16.2.1.2.2.1, ()), (0, 0, 0, 0, 0, 0, 0, false, 0, false, (), (), ()), (t_6, t_8, y_9.1, y_10.1, ([2, 18, 16, 24, 17, 4, 20, 0].getD (Int.toNat y_11.1) 0), y_13.1, 0, false, 0, false, (), (), ()), y_15.2.1, ()))
    : Option ((Unit × Unit × Unit × Unit) × (((List Int) × Int × Int × Unit) × (Int × Int × Int × Int × Int × Int × Int × Bool × Int × Bool × Unit × Unit × Unit) × (Int × Int × Int × Int × Int × Int × Int × Bool × Int × Bool × Unit × Unit × Unit) × (List Int) × Unit))).bind fun x_20 =>
  (g_spec_l01Bool n x_20.2.1.1 x_20.2.1.2.1 x_20.2.1.2.2.1).bind fun y_21 =>
  (
    if y_21.1 then
      (g_spec_l01Next n 1000 y_21.2.1.1 y_21.2.1.2.1 y_21.2.1.2.2.1).bind fun y_24 =>
      some (((), (), (), ()), ((y_24.2.1.1, y_24.2.1.2.1, y_24.2.1.2.2.1, ()), (x_20.2.2.1.1, x_20.2.2.1.2.1, x_20.2.2.1.2.2.1, x_20.2.2.1.2.2.2.1, x_20.2.2.1.2.2.2.2.1, x_20.2.2.1.2.2.2.2.2.1, x_20.2.2.1.2.2.2.2.2.2.1, x_20.2.2.1.2.2.2.2.2.2.2.1, x_20.2.2.1.2.2.2.2.2.2.2.2.1, x_20.2.2.1.2.2.2.2.2.2.2.2.2.1, (), (), ()), (x_20.2.2.2.1.1, x_20.2.2.2.1.2.1, x_20.2.2.2.1.2.2.1, x_20.2.2.2.1.2.2.2.1, x_20.2.2.2.1.2.2.2.2.1, x_20.2.2.2.1.2.2.2.2.2.1, (wi64 (536 + y_24.1)), x_20.2.2.2.1.2.2.2.2.2.2.2.1, x_20.2.2.2.1.2.2.2.2.2.2.2.2.1, x_20.2.2.2.1.2.2.2.2.2.2.2.2.2.1, (), (), ()), x_20.2.2.2.2.1, ()))
    else
      some (((), (), (), ()), ((y_21.2.1.1, y_21.2.1.2.1, y_21.2.1.2.2.1, ()), (x_20.2.2.1.1, x_20.2.2.1.2.1, x_20.2.2.1.2.2.1, x_20.2.2.1.2.2.2.1, x_20.2.2.1.2.2.2.2.1, x_20.2.2.1.2.2.2.2.2.1, x_20.2.2.1.2.2.2.2.2.2.1, x_20.2.2.1.2.2.2.2.2.2.2.1, x_20.2.2.1.2.2.2.2.2.2.2.2.1, x_20.2.2.1.2.2.2.2.2.2.2.2.2.1, (), (), ()), (x_20.2.2.2.1.1, x_20.2.2.2.1.2.1, x_20.2.2.2.1.2.2.1, x_20.2.2.2.1.2.2.2.1, x_20.2.2.2.1.2.2.2.2.1, x_20.2.2.2.1.2.2.2.2.2.1, x_20.2.2.2.1.2.2.2.2.2.2.1, x_20.2.2.2.1.2.2.2.2.2.2.2.1, x_20.2.2.2.1.2.2.2.2.2.2.2.2.1, x_20.2.2.2.1.2.2.2.2.2.2.2.2.2.1, (), (), ()), x_20.2.2.2.2.1, ()))
    : Option ((Unit × Unit × Unit × Unit) × (((List Int) × Int × Int × Unit) × (Int × Int × Int × Int × Int × Int × Int × Bool × Int × Bool × Unit × Unit × Unit) × (Int × Int × Int × Int × Int × Int × Int × Bool × Int × Bool × Unit × Unit × Unit) × (List Int) × Unit))).bind fun x_26 =>
  (g_spec_l01Bool n x_26.2.1.1 x_26.2.1.2.1 x_26.2.1.2.2.1).bind fun y_27 =>
  (
    if y_27.1 then
      (g_spec_l01Next n 15 y_27.2.1.1 y_27.2.1.2.1 y_27.2.1.2.2.1).bind fun y_29 =>
      some (((), (), (), ()), ((y_29.2.1.1, y_29.2.1.2.1, y_29.2.1.2.2.1, ()), (x_26.2.2.1.1, x_26.2.2.1.2.1, x_26.2.2.1.2.2.1, x_26.2.2.1.2.2.2.1, x_26.2.2.1.2.2.2.2.1, x_26.2.2.1.2.2.2.2.2.1, x_26.2.2.1.2.2.2.2.2.2.1, x_26.2.2.1.2.2.2.2.2.2.2.1, x_26.2.2.1.2.2.2.2.2.2.2.2.1, x_26.2.2.1.2.2.2.2.2.2.2.2.2.1, (), (), ()), (x_26.2.2.2.1.1, x_26.2.2.2.1.2.1, x_26.2.2.2.1.2.2.1, x_26.2.2.2.1.2.2.2.1, x_26.2.2.2.1.2.2.2.2.1, x_26.2.2.2.1.2.2.2.2.2.1, x_26.2.2.2.1.2.2.2.2.2.2.1, true, y_29.1, x_26.2.2.2.1.2.2.2.2.2.2.2.2.2.1, (), (), ()), x_26.2.2.2.2.1, ()))
    else
      some (((), (), (), ()), ((y_27.2.1.1, y_27.2.1.2.1, y_27.2.1.2.2.1, ()), (x_26.2.2.1.1, x_26.2.2.1.2.1, x_26.2.2.1.2.2.1, x_26.2.2.1.2.2.2.1, x_26.2.2.1.2.2.2.2.1, x_26.2.2.1.2.2.2.2.2.1, x_26.2.2.1.2.2.2.2.2.2.1, x_26.2.2.1.2.2.2.2.2.2.2.1, x_26.2.2.1.2.2.2.2.2.2.2.2.1, x_26.2.2.1.2.2.2.2.2.2.2.2.2.1, (), (), ()), (x_26.2.2.2.1.1, x_26.2.2.2.1.2.1, x_26.2.2.2.1.2.2.1, x_26.2.2.2.1.2.2.2.1, x_26.2.2.2.1.2.2.2.2.1, x_26.2.2.2.1.2.2.2.2.2.1, x_26.2.2.2.1.2.2.2.2.2.2.1, x_26.2.2.2.1.2.2.2.2.2.2.2.1, x_26.2.2.2.1.2.2.2.2.2.2.2.2.1, x_26.2.2.2.1.2.2.2.2.2.2.2.2.2.1, (), (), ()), x_26.2.2.2.2.1, ()))
    : Option ((Unit × Unit × Unit × Unit) × (((List Int) × Int × Int × Unit) × (Int × Int × Int × Int × Int × Int × Int × Bool × Int × Bool × Unit × Unit × Unit) × (Int × Int × Int × Int × Int × Int × Int × Bool × Int × Bool × Unit × Unit × Unit) × (List Int) × Unit))).bind fun x_30 =>
  (g_spec_l01Bool n x_30.2.1.1 x_30.2.1.2.1 x_30.2.1.2.2.1).bind fun y_31 =>
  (g_spec_l01Next n 5 y_31.2.1.1 y_31.2.1.2.1 y_31.2.1.2.2.1).bind fun y_32 =>
  (L0 y_32.1 1 y_32.2.1.1 y_32.2.1.2.1 y_32.2.1.2.2.1 x_30.2.2.1.1 x_30.2.2.1.2.1 x_30.2.2.1.2.2.1 x_30.2.2.1.2.2.2.1 x_30.2.2.1.2.2.2.2.1 x_30.2.2.1.2.2.2.2.2.1 x_30.2.2.1.2.2.2.2.2.2.1 x_30.2.2.1.2.2.2.2.2.2.2.1 x_30.2.2.1.2.2.2.2.2.2.2.2.1 x_30.2.2.1.2.2.2.2.2.2.2.2.2.1 x_30.2.2.2.1.1 x_30.2.2.2.1.2.1 x_30.2.2.2.1.2.2.1 x_30.2.2.2.1.2.2.2.1 x_30.2.2.2.1.2.2.2.2.1 x_30.2.2.2.1.2.2.2.2.2.1 x_30.2.2.2.1.2.2.2.2.2.2.1 x_30.2.2.2.1.2.2.2.2.2.2.2.1 x_30.2.2.2.1.2.2.2.2.2.2.2.2.1 y_31.1 [] x_30.2.2.2.2.1).bind fun x_127 =>
  some ((x_127.2.2.1.1, x_127.2.2.1.2.1, x_127.2.2.1.2.2.1, x_127.2.2.1.2.2.2.1, x_127.2.2.1.2.2.2.2.1, x_127.2.2.1.2.2.2.2.2.1, x_127.2.2.1.2.2.2.2.2.2.1, x_127.2.2.1.2.2.2.2.2.2.2.1, x_127.2.2.1.2.2.2.2.2.2.2.2.1, x_127.2.2.1.2.2.2.2.2.2.2.2.2.1, (), (), ()), (x_127.2.2.2.2.1, x_127.2.2.2.2.2.1, (x_127.2.2.2.1.1, x_127.2.2.2.1.2.1, x_127.2.2.2.1.2.2.1, ()), ()))

def g_spec_l11Draw (n : Nat) (most_1 : Int) (code_2 : List Int) (pos_3 : Int) (state_4 : Int) : Option ((Int × Int × Int × Int × Int × Int × Int × Bool × Int × Bool × Unit × Unit × Unit) × ((List (Int × Int × Unit)) × (List Int) × ((List Int) × Int × Int × Unit) × Unit)) := t_spec_l11Draw n (l_spec_l11Draw_0 n n) most_1 code_2 pos_3 state_4

def g_spec_l11Bend (n : Nat) (g_1 : Int) (g_2 : Int) (g_3 : Int) (g_4 : Int) (g_5 : Int) (g_6 : Int) (g_7 : Int) (g_8 : Bool) (g_9 : Int) (g_10 : Bool) (g_11 : List Int) (code_12 : List Int) (pos_13 : Int) (state_14 : Int) (a_15 : List (Int × Int × Unit)) : Option ((Int × Int × Int × Int × Int × Int × Int × Bool × Int × Bool × Unit × (List Int) × Unit) × ((List (Int × Int × Unit)) × ((List Int) × Int × Int × Unit) × Unit)) :=
  (g_spec_l01Next n 30 code_12 pos_13 state_14).bind fun y_16 =>
  if (y_16.1 == 0) then
    some ((65536, g_2, g_3, g_4, g_5, g_6, g_7, g_8, g_9, g_10, (), g_11, ()), (a_15, (y_16.2.1.1, y_16.2.1.2.1, y_16.2.1.2.2.1, ()), ()))
  else
    if (y_16.1 == 1) then
      some ((g_1, g_2, 4294967296, g_4, g_5, g_6, g_7, g_8, g_9, g_10, (), g_11, ()), (a_15, (y_16.2.1.1, y_16.2.1.2.1, y_16.2.1.2.2.1, ()), ()))
    else
      if (y_16.1 == 2) then
        some ((g_1, g_2, g_3, g_4, 64, g_6, g_7, g_8, g_9, g_10, (), g_11, ()), (a_15, (y_16.2.1.1, y_16.2.1.2.1, y_16.2.1.2.2.1, ()), ()))
      else
        if (y_16.1 == 3) then
          some ((g_1, g_2, g_3, g_4, g_5, 65536, g_7, g_8, g_9, g_10, (), g_11, ()), (a_15, (y_16.2.1.1, y_16.2.1.2.1, y_16.2.1.2.2.1, ()), ()))
        else
          if (y_16.1 == 4) then
            some ((g_1, g_2, g_3, g_4, g_5, g_6, (-1), g_8, g_9, g_10, (), g_11, ()), (a_15, (y_16.2.1.1, y_16.2.1.2.1, y_16.2.1.2.2.1, ()), ()))
          else
            if (y_16.1 == 5) then
              some ((g_1, g_2, g_3, g_4, g_5, g_6, g_7, false, 1, g_10, (), g_11, ()), (a_15, (y_16.2.1.1, y_16.2.1.2.1, y_16.2.1.2.2.1, ()), ()))
            else
              if (y_16.1 == 6) then
                some ((g_1, g_2, g_3, g_4, g_5, g_6, g_7, true, 15, g_10, (), g_11, ()), (a_15, (y_16.2.1.1, y_16.2.1.2.1, y_16.2.1.2.2.1, ()), ()))
              else
                if (y_16.1 == 7) then
                  gd (a_15.length + ([((-1), (0, ()))] : List (Int × Int × Unit)).length ≤ lim) <|
                  some ((g_1, g_2, g_3, g_4, g_5, g_6, g_7, g_8, g_9, g_10, (), g_11, ()), ((a_15 ++ [((-1), (0, ()))]), (y_16.2.1.1, y_16.2.1.2.1, y_16.2.1.2.2.1, ()), ()))
                else
                  if (y_16.1 == 8) then
                    some ((g_1, g_2, g_3, g_4, g_5, g_6, g_7, g_8, g_9, g_10, (), g_11, ()), ((List.replicate 4 (0, (0, ()))), (y_16.2.1.1, y_16.2.1.2.1, y_16.2.1.2.2.1, ()), ()))
                  else
                    some ((g_1, g_2, g_3, g_4, g_5, g_6, g_7, g_8, g_9, g_10, (), g_11, ()), (a_15, (y_16.2.1.1, y_16.2.1.2.1, y_16.2.1.2.2.1, ()), ()))

def g_spec_DrawShowSegment (n : Nat) (code_1 : List Int) : Option ((Int × Int × Int × Int × Int × Int × Int × Bool × Int × Bool × Unit × (List Int) × Unit) × ((List (Int × Int × Unit)) × Unit)) :=
  (g_spec_l01Begin n code_1).bind fun y_2 =>
  (g_spec_l11Draw n 20 y_2.1.1 y_2.1.2.1 y_2.1.2.2.1).bind fun y_3 =>
  (g_spec_l11Bend n y_3.1.1 y_3.1.2.1 y_3.1.2.2.1 y_3.1.2.2.2.1 y_3.1.2.2.2.2.1 y_3.1.2.2.2.2.2.1 y_3.1.2.2.2.2.2.2.1 y_3.1.2.2.2.2.2.2.2.1 y_3.1.2.2.2.2.2.2.2.2.1 y_3.1.2.2.2.2.2.2.2.2.2.1 y_3.2.2.1 y_3.2.2.2.1.1 y_3.2.2.2.1.2.1 y_3.2.2.2.1.2.2.1 y_3.2.1).bind fun y_4 =>
  (g_spec_l01Next n 30 y_4.2.2.1.1 y_4.2.2.1.2.1 y_4.2.2.1.2.2.1).bind fun y_5 =>
  if (y_5.1 == 0) then
    (g_spec_l01Next n 2 y_5.2.1.1 y_5.2.1.2.1 y_5.2.1.2.2.1).bind fun y_7 =>
    let t_8 := wi64 (4000 + y_7.1)
    gd (0 ≤ t_8 ∧ t_8 ≤ t_8 ∧ t_8 ≤ (lim : Int)) <|
    some ((y_4.1.1, y_4.1.2.1, y_4.1.2.2.1, y_4.1.2.2.2.1, y_4.1.2.2.2.2.1, y_4.1.2.2.2.2.2.1, y_4.1.2.2.2.2.2.2.1, y_4.1.2.2.2.2.2.2.2.1, y_4.1.2.2.2.2.2.2.2.2.1, y_4.1.2.2.2.2.2.2.2.2.2.1, (), (List.replicate (Int.toNat t_8) 0), ()), (y_4.2.1, ()))
  else
    some ((y_4.1.1, y_4.1.2.1, y_4.1.2.2.1, y_4.1.2.2.2.1, y_4.1.2.2.2.2.1, y_4.1.2.2.2.2.2.1, y_4.1.2.2.2.2.2.2.1, y_4.1.2.2.2.2.2.2.2.1, y_4.1.2.2.2.2.2.2.2.2.1, y_4.1.2.2.2.2.2.2.2.2.2.1, (), y_4.1.2.2.2.2.2.2.2.2.2.2.2.1, ()), (y_4.2.1, ()))

def g_impl_isPort (n : Nat) (n_1 : Int) : Option ((Bool) × (Unit)) :=
  if (decide (n_1 ≥ 0)) then
    some ((decide (n_1 ≤ 65535)), ())
  else
    some (false, ())

def g_impl_isSeq (n : Nat) (n_1 : Int) : Option ((Bool) × (Unit)) :=
  if (decide (n_1 ≥ 0)) then
    some ((decide (n_1 ≤ 4294967295)), ())
  else
    some (false, ())

def l_impl_okSegment_0 (n : Nat) : Nat → (List (Int × Int × Unit)) → Int → Int → Option ((Bool) × (Unit) ⊕ ((Unit) × (Unit)))
  | 0, _, _, _ => none
  | m + 1, t_48, t_49, t_50 =>
    if (decide (t_50 < t_49)) then
      gd (0 ≤ t_50 ∧ t_50 < (t_48.length : Int)) <|
      let t_52 := t_48.getD (Int.toNat t_50) (0, (0, ()))
      (g_impl_isSeq n t_52.1).bind fun y_53 =>
      if (!y_53.1) then
        some (Sum.inl (false, ()))
      else
        (g_impl_isSeq n t_52.2.1).bind fun y_54 =>
        if (!y_54.1) then
          some (Sum.inl (false, ()))
        else
          l_impl_okSegment_0 n m t_48 t_49 (wi64 (t_50 + 1))
    else
      some (Sum.inr ((), ()))

def t_impl_okSegment (n : Nat) (L0 : (List (Int × Int × Unit)) → Int → Int → Option ((Bool) × (Unit) ⊕ ((Unit) × (Unit)))) (s_1 : Int) (s_2 : Int) (s_3 : Int) (s_4 : Int) (s_5 : Int) (s_6 : Int) (s_7 : Int) (s_8 : Bool) (s_9 : Int) (s_10 : Bool) (s_11 : List (Int × Int × Unit)) (s_12 : List Int) : Option ((Bool) × (Unit)) :=
  (
    (g_impl_isPort n s_1).bind fun y_26 =>
    if (!y_26.1) then
      some (((), true, ()), ((s_1, s_2, s_3, s_4, s_5, s_6, s_7, s_8, s_9, s_10, s_11, s_12, ()), ()))
    else
      (g_impl_isPort n s_2).bind fun y_27 =>
      if (!y_27.1) then
        some (((), true, ()), ((s_1, s_2, s_3, s_4, s_5, s_6, s_7, s_8, s_9, s_10, s_11, s_12, ()), ()))
      else
        (g_impl_isSeq n s_3).bind fun y_28 =>
        if (!y_28.1) then
          some (((), true, ()), ((s_1, s_2, s_3, s_4, s_5, s_6, s_7, s_8, s_9, s_10, s_11, s_12, ()), ()))
        else
          (g_impl_isSeq n s_4).bind fun y_29 =>
          if (!y_29.1) then
            some (((), true, ()), ((s_1, s_2, s_3, s_4, s_5, s_6, s_7, s_8, s_9, s_10, s_11, s_12, ()), ()))
          else
            if (decide (s_5 < 0)) then
              some (((), true, ()), ((s_1, s_2, s_3, s_4, s_5, s_6, s_7, s_8, s_9, s_10, s_11, s_12, ()), ()))
            else
              if (decide (s_5 > 63)) then
                some (((), true, ()), ((s_1, s_2, s_3, s_4, s_5, s_6, s_7, s_8, s_9, s_10, s_11, s_12, ()), ()))
              else
                (g_impl_isPort n s_6).bind fun y_32 =>
                if (!y_32.1) then
                  some (((), true, ()), ((s_1, s_2, s_3, s_4, s_5, s_6, s_7, s_8, s_9, s_10, s_11, s_12, ()), ()))
                else
                  (g_impl_isPort n s_7).bind fun y_33 =>
                  if (!y_33.1) then
                    some (((), true, ()), ((s_1, s_2, s_3, s_4, s_5, s_6, s_7, s_8, s_9, s_10, s_11, s_12, ()), ()))
                  else
                    if (decide (s_9 < 0)) then
                      some (((), true, ()), ((s_1, s_2, s_3, s_4, s_5, s_6, s_7, s_8, s_9, s_10, s_11, s_12, ()), ()))
                    else
                      if (decide (s_9 > 14)) then
                        some (((), true, ()), ((s_1, s_2, s_3, s_4, s_5, s_6, s_7, s_8, s_9, s_10, s_11, s_12, ()), ()))
                      else
                        if (!s_8) then
                          if (s_9 != 0) then
                            some (((), true, ()), ((s_1, s_2, s_3, s_4, s_5, s_6, s_7, s_8, s_9, s_10, s_11, s_12, ()), ()))
                          else
                            some (((), (decide ((s_11.length : Int) > 3)), ()), ((s_1, s_2, s_3, s_4, s_5, s_6, s_7, s_8, s_9, s_10, s_11, s_12, ()), ()))
                        else
                          some (((), (decide ((s_11.length : Int) > 3)), ()), ((s_1, s_2, s_3, s_4, s_5, s_6, s_7, s_8, s_9, s_10, s_11, s_12, ()), ()))
    : Option ((Unit × Bool × Unit) × ((Int × Int × Int × Int × Int × Int × Int × Bool × Int × Bool × (List (Int × Int × Unit)) × (List Int) × Unit) × Unit))).bind fun x_39 =>
  if x_39.1.2.1 then
    some (false, ())
  else
    sbind (L0 x_39.2.1.2.2.2.2.2.2.2.2.2.2.1 (x_39.2.1.2.2.2.2.2.2.2.2.2.2.1.length : Int) 0) fun x_56 =>
    some (true, ())

def g_impl_okSegment (n : Nat) (s_1 : Int) (s_2 : Int) (s_3 : Int) (s_4 : Int) (s_5 : Int) (s_6 : Int) (s_7 : Int) (s_8 : Bool) (s_9 : Int) (s_10 : Bool) (s_11 : List (Int × Int × Unit)) (s_12 : List Int) : Option ((Bool) × (Unit)) := t_impl_okSegment n (l_impl_okSegment_0 n n) s_1 s_2 s_3 s_4 s_5 s_6 s_7 s_8 s_9 s_10 s_11 s_12

def g_impl_num (n : Nat) (n_1 : Int) : Option ((List Int) × (Unit)) :=
  (g_strconv_FormatInt n n_1 10).bind fun y_2 =>
  some (y_2.1, ())

def l_impl_ShowSegment_0 (n : Nat) : Nat → List Int → Int → Int → Int → Int → Int → Int → Int → Int → Int → Bool → Int → Bool → (List (Int × Int × Unit)) → List Int → List Int → Option ((Unit × (List Int) × Unit) × ((Int × Int × Int × Int × Int × Int × Int × Bool × Int × Bool × (List (Int × Int × Unit)) × (List Int) × Unit) × Unit))
  | 0, _, _, _, _, _, _, _, _, _, _, _, _, _, _, _, _ => none
  | m + 1, f_44, t_45, t_46, f0_47, f1_48, f2_49, f3_50, f4_51, f5_52, f6_53, f7_54, f8_55, f9_56, f10_57, f11_58, a_59 =>
    if (decide (t_46 < t_45)) then
      gd (0 ≤ t_46 ∧ t_46 < (a_59.length : Int)) <|
      let t_61 := a_59.getD (Int.toNat t_46) 0
      ngd (t_61 < 0) <|
      if ((iand .i64 (ishr .i64 f4_51 t_61) 1) == 1) then
        let t_65 := wi64 (t_61 + 1)
        gd (0 ≤ t_61 ∧ t_61 ≤ t_65 ∧ t_65 ≤ (6 : Int)) <|
        let t_66 := cutL ([70, 83, 82, 80, 65, 85] : List Int) t_61 t_65
        gd (f_44.length + t_66.length ≤ lim) <|
        l_impl_ShowSegment_0 n m (f_44 ++ t_66) t_45 (wi64 (t_46 + 1)) f0_47 f1_48 f2_49 f3_50 f4_51 f5_52 f6_53 f7_54 f8_55 f9_56 f10_57 f11_58 a_59
      else
        l_impl_ShowSegment_0 n m f_44 t_45 (wi64 (t_46 + 1)) f0_47 f1_48 f2_49 f3_50 f4_51 f5_52 f6_53 f7_54 f8_55 f9_56 f10_57 f11_58 a_59
    else
      some (((), f_44, ()), ((f0_47, f1_48, f2_49, f3_50, f4_51, f5_52, f6_53, f7_54, f8_55, f9_56, f10_57, f11_58, ()), ()))

def l_impl_ShowSegment_1 (n : Nat) : Nat → (List (Int × Int × Unit)) → Int → Int → Int → Int → Int → Int → Int → Int → Int → Bool → Int → Bool → (List (Int × Int × Unit)) → List Int → List (List Int) → Option ((Unit × Unit × Unit) × ((Int × Int × Int × Int × Int × Int × Int × Bool × Int × Bool × (List (Int × Int × Unit)) × (List Int) × Unit) × (List (List Int)) × Unit))
  | 0, _, _, _, _, _, _, _, _, _, _, _, _, _, _, _, _ => none
  | m + 1, t_118, t_119, t_120, f0_121, f1_122, f2_123, f3_124, f4_125, f5_126, f6_127, f7_128, f8_129, f9_130, f10_131, f11_132, a_133 =>
    if (decide (t_120 < t_119)) then
      gd (0 ≤ t_120 ∧ t_120 < (t_118.length : Int)) <|
      let t_135 := t_118.getD (Int.toNat t_120) (0, (0, ()))
      (g_impl_num n t_135.1).bind fun y_136 =>
      gd (y_136.1.length + ([45] : List Int).length ≤ lim) <|
      let t_137 := y_136.1 ++ ([45] : List Int)
      (g_impl_num n t_135.2.1).bind fun y_138 =>
      gd (t_137.length + y_138.1.length ≤ lim) <|
      let t_139 := t_137 ++ y_138.1
      gd (a_133.length + ([[115, 97, 99, 107], t_139] : List (List Int)).length ≤ lim) <|
      l_impl_ShowSegment_1 n m t_118 t_119 (wi64 (t_120 + 1)) f0_121 f1_122 f2_123 f3_124 f4_125 f5_126 f6_127 f7_128 f8_129 f9_130 f10_131 f11_132 (a_133 ++ [[115, 97, 99, 107], t_139])
    else
      some (((), (), ()), ((f0_121, f1_122, f2_123, f3_124, f4_125, f5_126, f6_127, f7_128, f8_129, f9_130, f10_131, f11_132, ()), a_133, ()))

def t_impl_ShowSegment (n : Nat) (L0 : List Int → Int → Int → Int → Int → Int → Int → Int → Int → Int → Bool → Int → Bool → (List (Int × Int × Unit)) → List Int → List Int → Option ((Unit × (List Int) × Unit) × ((Int × Int × Int × Int × Int × Int × Int × Bool × Int × Bool × (List (Int × Int × Unit)) × (List Int) × Unit) × Unit))) (L1 : (List (Int × Int × Unit)) → Int → Int → Int → Int → Int → Int → Int → Int → Int → Bool → Int → Bool → (List (Int × Int × Unit)) → List Int → List (List Int) → Option ((Unit × Unit × Unit) × ((Int × Int × Int × Int × Int × Int × Int × Bool × Int × Bool × (List (Int × Int × Unit)) × (List Int) × Unit) × (List (List Int)) × Unit))) (s_1 : Int) (s_2 : Int) (s_3 : Int) (s_4 : Int) (s_5 : Int) (s_6 : Int) (s_7 : Int) (s_8 : Bool) (s_9 : Int) (s_10 : Bool) (s_11 : List (Int × Int × Unit)) (s_12 : List Int) : Option (((List Int) × Int × Unit) × (Unit)) :=
  (
    (g_impl_okSegment n s_1 s_2 s_3 s_4 s_5 s_6 s_7 s_8 s_9 s_10 s_11 s_12).bind fun y_15 =>
    if (!y_15.1) then
      some (((), true, ()), ((s_1, s_2, s_3, s_4, s_5, s_6, s_7, s_8, s_9, s_10, s_11, s_12, ()), ()))
    else
      some (((), (decide ((s_12.length : Int) > 4000)), ()), ((s_1, s_2, s_3, s_4, s_5, s_6, s_7, s_8, s_9, s_10, s_11, s_12, ()), ()))
    : Option ((Unit × Bool × Unit) × ((Int × Int × Int × Int × Int × Int × Int × Bool × Int × Bool × (List (Int × Int × Unit)) × (List Int) × Unit) × Unit))).bind fun x_17 =>
  if x_17.1.2.1 then
    some (([], 1, ()), ())
  else
    (L0 [] ([1, 0, 2, 3, 4, 5].length : Int) 0 x_17.2.1.1 x_17.2.1.2.1 x_17.2.1.2.2.1 x_17.2.1.2.2.2.1 x_17.2.1.2.2.2.2.1 x_17.2.1.2.2.2.2.2.1 x_17.2.1.2.2.2.2.2.2.1 x_17.2.1.2.2.2.2.2.2.2.1 x_17.2.1.2.2.2.2.2.2.2.2.1 x_17.2.1.2.2.2.2.2.2.2.2.2.1 x_17.2.1.2.2.2.2.2.2.2.2.2.2.1 x_17.2.1.2.2.2.2.2.2.2.2.2.2.2.1 [1, 0, 2, 3, 4, 5]).bind fun x_70 =>
    (
      if (x_70.1.2.1 == ([] : List Int)) then
        some (((), [45], ()), ((x_70.2.1.1, x_70.2.1.2.1, x_70.2.1.2.2.1, x_70.2.1.2.2.2.1, x_70.2.1.2.2.2.2.1, x_70.2.1.2.2.2.2.2.1, x_70.2.1.2.2.2.2.2.2.1, x_70.2.1.2.2.2.2.2.2.2.1, x_70.2.1.2.2.2.2.2.2.2.2.1, x_70.2.1.2.2.2.2.2.2.2.2.2.1, x_70.2.1.2.2.2.2.2.2.2.2.2.2.1, x_70.2.1.2.2.2.2.2.2.2.2.2.2.2.1, ()), ()))
      else
        some (((), x_70.1.2.1, ()), ((x_70.2.1.1, x_70.2.1.2.1, x_70.2.1.2.2.1, x_70.2.1.2.2.2.1, x_70.2.1.2.2.2.2.1, x_70.2.1.2.2.2.2.2.1, x_70.2.1.2.2.2.2.2.2.1, x_70.2.1.2.2.2.2.2.2.2.1, x_70.2.1.2.2.2.2.2.2.2.2.1, x_70.2.1.2.2.2.2.2.2.2.2.2.1, x_70.2.1.2.2.2.2.2.2.2.2.2.2.1, x_70.2.1.2.2.2.2.2.2.2.2.2.2.2.1, ()), ()))
      : Option ((Unit × (List Int) × Unit) × ((Int × Int × Int × Int × Int × Int × Int × Bool × Int × Bool × (List (Int × Int × Unit)) × (List Int) × Unit) × Unit))).bind fun x_72 =>
    (g_impl_num n x_72.2.1.1).bind fun y_73 =>
    gd (y_73.1.length + ([62] : List Int).length ≤ lim) <|
    let t_74 := y_73.1 ++ ([62] : List Int)
    (g_impl_num n x_72.2.1.2.1).bind fun y_75 =>
    gd (t_74.length + y_75.1.length ≤ lim) <|
    let t_76 := t_74 ++ y_75.1
    (g_impl_num n x_72.2.1.2.2.1).bind fun y_77 =>
    (g_impl_num n x_72.2.1.2.2.2.1).bind fun y_78 =>
    (g_impl_num n x_72.2.1.2.2.2.2.2.1).bind fun y_79 =>
    (
      if (x_72.2.1.2.2.2.2.2.2.1 != 0) then
        (g_impl_num n x_72.2.1.2.2.2.2.2.2.1).bind fun y_83 =>
        gd (([t_76, x_72.1.2.1, y_77.1, y_78.1, y_79.1] : List (List Int)).length + ([[109, 115, 115], y_83.1] : List (List Int)).length ≤ lim) <|
        some (((), (), ()), ((x_72.2.1.1, x_72.2.1.2.1, x_72.2.1.2.2.1, x_72.2.1.2.2.2.1, x_72.2.1.2.2.2.2.1, x_72.2.1.2.2.2.2.2.1, x_72.2.1.2.2.2.2.2.2.1, x_72.2.1.2.2.2.2.2.2.2.1, x_72.2.1.2.2.2.2.2.2.2.2.1, x_72.2.1.2.2.2.2.2.2.2.2.2.1, x_72.2.1.2.2.2.2.2.2.2.2.2.2.1, x_72.2.1.2.2.2.2.2.2.2.2.2.2.2.1, ()), ([t_76, x_72.1.2.1, y_77.1, y_78.1, y_79.1] ++ [[109, 115, 115], y_83.1]), ()))
      else
        some (((), (), ()), ((x_72.2.1.1, x_72.2.1.2.1, x_72.2.1.2.2.1, x_72.2.1.2.2.2.1, x_72.2.1.2.2.2.2.1, x_72.2.1.2.2.2.2.2.1, x_72.2.1.2.2.2.2.2.2.1, x_72.2.1.2.2.2.2.2.2.2.1, x_72.2.1.2.2.2.2.2.2.2.2.1, x_72.2.1.2.2.2.2.2.2.2.2.2.1, x_72.2.1.2.2.2.2.2.2.2.2.2.2.1, x_72.2.1.2.2.2.2.2.2.2.2.2.2.2.1, ()), [t_76, x_72.1.2.1, y_77.1, y_78.1, y_79.1], ()))
      : Option ((Unit × Unit × Unit) × ((Int × Int × Int × Int × Int × Int × Int × Bool × Int × Bool × (List (Int × Int × Unit)) × (List Int) × Unit) × (List (List Int)) × Unit))).bind fun x_85 =>
    (
      if x_85.2.1.2.2.2.2.2.2.2.1 then
        (g_impl_num n x_85.2.1.2.2.2.2.2.2.2.2.1).bind fun y_88 =>
        gd (x_85.2.2.1.length + ([[115, 99, 97, 108, 101], y_88.1] : List (List Int)).length ≤ lim) <|
        some (((), (), ()), ((x_85.2.1.1, x_85.2.1.2.1, x_85.2.1.2.2.1, x_85.2.1.2.2.2.1, x_85.2.1.2.2.2.2.1, x_85.2.1.2.2.2.2.2.1, x_85.2.1.2.2.2.2.2.2.1, x_85.2.1.2.2.2.2.2.2.2.1, x_85.2.1.2.2.2.2.2.2.2.2.1, x_85.2.1.2.2.2.2.2.2.2.2.2.1, x_85.2.1.2.2.2.2.2.2.2.2.2.2.1, x_85.2.1.2.2.2.2.2.2.2.2.2.2.2.1, ()), (x_85.2.2.1 ++ [[115, 99, 97, 108, 101], y_88.1]), ()))
      else
        some (((), (), ()), ((x_85.2.1.1, x_85.2.1.2.1, x_85.2.1.2.2.1, x_85.2.1.2.2.2.1, x_85.2.1.2.2.2.2.1, x_85.2.1.2.2.2.2.2.1, x_85.2.1.2.2.2.2.2.2.1, x_85.2.1.2.2.2.2.2.2.2.1, x_85.2.1.2.2.2.2.2.2.2.2.1, x_85.2.1.2.2.2.2.2.2.2.2.2.1, x_85.2.1.2.2.2.2.2.2.2.2.2.2.1, x_85.2.1.2.2.2.2.2.2.2.2.2.2.2.1, ()), x_85.2.2.1, ()))
      : Option ((Unit × Unit × Unit) × ((Int × Int × Int × Int × Int × Int × Int × Bool × Int × Bool × (List (Int × Int × Unit)) × (List Int) × Unit) × (List (List Int)) × Unit))).bind fun x_90 =>
    (
      if x_90.2.1.2.2.2.2.2.2.2.2.2.1 then
        gd (x_90.2.2.1.length + ([[115, 97, 99, 107, 111, 107]] : List (List Int)).length ≤ lim) <|
        some (((), (), ()), ((x_90.2.1.1, x_90.2.1.2.1, x_90.2.1.2.2.1, x_90.2.1.2.2.2.1, x_90.2.1.2.2.2.2.1, x_90.2.1.2.2.2.2.2.1, x_90.2.1.2.2.2.2.2.2.1, x_90.2.1.2.2.2.2.2.2.2.1, x_90.2.1.2.2.2.2.2.2.2.2.1, x_90.2.1.2.2.2.2.2.2.2.2.2.1, x_90.2.1.2.2.2.2.2.2.2.2.2.2.1, x_90.2.1.2.2.2.2.2.2.2.2.2.2.2.1, ()), (x_90.2.2.1 ++ [[115, 97, 99, 107, 111, 107]]), ()))
      else
        some (((), (), ()), ((x_90.2.1.1, x_90.2.1.2.1, x_90.2.1.2.2.1, x_90.2.1.2.2.2.1, x_90.2.1.2.2.2.2.1, x_90.2.1.2.2.2.2.2.1, x_90.2.1.2.2.2.2.2.2.1, x_90.2.1.2.2.2.2.2.2.2.1, x_90.2.1.2.2.2.2.2.2.2.2.1, x_90.2.1.2.2.2.2.2.2.2.2.2.1, x_90.2.1.2.2.2.2.2.2.2.2.2.2.1, x_90.2.1.2.2.2.2.2.2.2.2.2.2.2.1, ()), x_90.2.2.1, ()))
      : Option ((Unit × Unit × Unit) × ((Int × Int × Int × Int × Int × Int × Int × Bool × Int × Bool × (List (Int × Int × Unit)) × (List Int) × Unit) × (List (List Int)) × Unit))).bind fun x_93 =>
    (L1 x_93.2.1.2.2.2.2.2.2.2.2.2.2.1 (x_93.2.1.2.2.2.2.2.2.2.2.2.2.1.length : Int) 0 x_93.2.1.1 x_93.2.1.2.1 x_93.2.1.2.2.1 x_93.2.1.2.2.2.1 x_93.2.1.2.2.2.2.1 x_93.2.1.2.2.2.2.2.1 x_93.2.1.2.2.2.2.2.2.1 x_93.2.1.2.2.2.2.2.2.2.1 x_93.2.1.2.2.2.2.2.2.2.2.1 x_93.2.1.2.2.2.2.2.2.2.2.2.1 x_93.2.1.2.2.2.2.2.2.2.2.2.2.1 x_93.2.1.2.2.2.2.2.2.2.2.2.2.2.1 x_93.2.2.1).bind fun x_142 =>
    if (decide ((x_142.2.1.2.2.2.2.2.2.2.2.2.2.2.1.length : Int) > 0)) then
      (g_encoding_hex_EncodeToString n x_142.2.1.2.2.2.2.2.2.2.2.2.2.2.1).bind fun y_144 =>
      gd (x_142.2.2.1.length + ([[100, 97, 116, 97], y_144.1] : List (List Int)).length ≤ lim) <|
      (g_strings_Join n (x_142.2.2.1 ++ [[100, 97, 116, 97], y_144.1]) [32]).bind fun y_146 =>
      some ((y_146.1, 0, ()), ())
    else
      (g_strings_Join n x_142.2.2.1 [32]).bind fun y_147 =>
      some ((y_147.1, 0, ()), ())

def g_impl_ShowSegment (n : Nat) (s_1 : Int) (s_2 : Int) (s_3 : Int) (s_4 : Int) (s_5 : Int) (s_6 : Int) (s_7 : Int) (s_8 : Bool) (s_9 : Int) (s_10 : Bool) (s_11 : List (Int × Int × Unit)) (s_12 : List Int) : Option (((List Int) × Int × Unit) × (Unit)) := t_impl_ShowSegment n (l_impl_ShowSegment_0 n n) (l_impl_ShowSegment_1 n n) s_1 s_2 s_3 s_4 s_5 s_6 s_7 s_8 s_9 s_10 s_11 s_12

def g_spec_l01In (n : Nat) (n_1 : Int) (low_2 : Int) (high_3 : Int) : Option ((Bool) × (Unit)) :=
  if (decide (n_1 ≥ low_2)) then
    some ((decide (n_1 ≤ high_3)), ())
  else
    some (false, ())

def g_spec_l10PortOK (n : Nat) (p_1 : Int) : Option ((Bool) × (Unit)) :=
  (g_spec_l01In n p_1 0 65535).bind fun y_2 =>
  some (y_2.1, ())

def g_spec_l02AddrOK (n : Nat) (a_1 : Int) : Option ((Bool) × (Unit)) :=
  (g_spec_l01In n a_1 0 4294967295).bind fun y_2 =>
  some (y_2.1, ())

def g_spec_l11Seq (n : Nat) (n_1 : Int) : Option ((Bool) × (Unit)) :=
  (g_spec_l02AddrOK n n_1).bind fun y_2 =>
  some (y_2.1, ())

def l_spec_l11OK_0 (n : Nat) : Nat → Int → Int → Int → Int → Int → Int → Int → Int → Bool → Int → Bool → (List (Int × Int × Unit)) → List Int → Option ((Bool) × (Unit) ⊕ ((Unit) × (Unit)))
  | 0, _, _, _, _, _, _, _, _, _, _, _, _, _ => none
  | m + 1, i_55, f0_56, f1_57, f2_58, f3_59, f4_60, f5_61, f6_62, f7_63, f8_64, f9_65, f10_66, f11_67 =>
    if (decide (i_55 < (f10_66.length : Int))) then
      gd (0 ≤ i_55 ∧ i_55 < (f10_66.length : Int)) <|
      (g_spec_l11Seq n (f10_66.getD (Int.toNat i_55) (0, (0, ()))).1).bind fun y_70 =>
      if (!y_70.1) then
        some (Sum.inl (false, ()))
      else
        gd (0 ≤ i_55 ∧ i_55 < (f10_66.length : Int)) <|
        (g_spec_l11Seq n (f10_66.getD (Int.toNat i_55) (0, (0, ()))).2.1).bind fun y_72 =>
        if (!y_72.1) then
          some (Sum.inl (false, ()))
        else
          l_spec_l11OK_0 n m (wi64 (i_55 + 1)) f0_56 f1_57 f2_58 f3_59 f4_60 f5_61 f6_62 f7_63 f8_64 f9_65 f10_66 f11_67
    else
      some (Sum.inr ((), ()))

def t_spec_l11OK (n : Nat) (L0 : Int → Int → Int → Int → Int → Int → Int → Int → Bool → Int → Bool → (List (Int × Int × Unit)) → List Int → Option ((Bool) × (Unit) ⊕ ((Unit) × (Unit)))) (s_1 : Int) (s_2 : Int) (s_3 : Int) (s_4 : Int) (s_5 : Int) (s_6 : Int) (s_7 : Int) (s_8 : Bool) (s_9 : Int) (s_10 : Bool) (s_11 : List (Int × Int × Unit)) (s_12 : List Int) : Option ((Bool) × (Unit)) :=
  (
    (g_spec_l10PortOK n s_1).bind fun y_24 =>
    if (!y_24.1) then
      some (((), true, ()), ((s_1, s_2, s_3, s_4, s_5, s_6, s_7, s_8, s_9, s_10, s_11, s_12, ()), ()))
    else
      (g_spec_l10PortOK n s_2).bind fun y_25 =>
      if (!y_25.1) then
        some (((), true, ()), ((s_1, s_2, s_3, s_4, s_5, s_6, s_7, s_8, s_9, s_10, s_11, s_12, ()), ()))
      else
        (g_spec_l11Seq n s_3).bind fun y_26 =>
        if (!y_26.1) then
          some (((), true, ()), ((s_1, s_2, s_3, s_4, s_5, s_6, s_7, s_8, s_9, s_10, s_11, s_12, ()), ()))
        else
          (g_spec_l11Seq n s_4).bind fun y_27 =>
          if (!y_27.1) then
            some (((), true, ()), ((s_1, s_2, s_3, s_4, s_5, s_6, s_7, s_8, s_9, s_10, s_11, s_12, ()), ()))
          else
            (g_spec_l01In n s_5 0 63).bind fun y_28 =>
            if (!y_28.1) then
              some (((), true, ()), ((s_1, s_2, s_3, s_4, s_5, s_6, s_7, s_8, s_9, s_10, s_11, s_12, ()), ()))
            else
              (g_spec_l01In n s_6 0 65535).bind fun y_29 =>
              if (!y_29.1) then
                some (((), true, ()), ((s_1, s_2, s_3, s_4, s_5, s_6, s_7, s_8, s_9, s_10, s_11, s_12, ()), ()))
              else
                (g_spec_l01In n s_7 0 65535).bind fun y_30 =>
                if (!y_30.1) then
                  some (((), true, ()), ((s_1, s_2, s_3, s_4, s_5, s_6, s_7, s_8, s_9, s_10, s_11, s_12, ()), ()))
                else
                  (g_spec_l01In n s_9 0 14).bind fun y_31 =>
                  if (!y_31.1) then
                    some (((), true, ()), ((s_1, s_2, s_3, s_4, s_5, s_6, s_7, s_8, s_9, s_10, s_11, s_12, ()), ()))
                  else
                    if (!s_8) then
                      if (s_9 != 0) then
                        some (((), true, ()), ((s_1, s_2, s_3, s_4, s_5, s_6, s_7, s_8, s_9, s_10, s_11, s_12, ()), ()))
                      else
                        some (((), (decide ((s_11.length : Int) > 3)), ()), ((s_1, s_2, s_3, s_4, s_5, s_6, s_7, s_8, s_9, s_10, s_11, s_12, ()), ()))
                    else
                      some (((), (decide ((s_11.length : Int) > 3)), ()), ((s_1, s_2, s_3, s_4, s_5, s_6, s_7, s_8, s_9, s_10, s_11, s_12, ()), ()))
    : Option ((Unit × Bool × Unit) × ((Int × Int × Int × Int × Int × Int × Int × Bool × Int × Bool × (List (Int × Int × Unit)) × (List Int) × Unit) × Unit))).bind fun x_35 =>
  if x_35.1.2.1 then
    some (false, ())
  else
    sbind (L0 0 x_35.2.1.1 x_35.2.1.2.1 x_35.2.1.2.2.1 x_35.2.1.2.2.2.1 x_35.2.1.2.2.2.2.1 x_35.2.1.2.2.2.2.2.1 x_35.2.1.2.2.2.2.2.2.1 x_35.2.1.2.2.2.2.2.2.2.1 x_35.2.1.2.2.2.2.2.2.2.2.1 x_35.2.1.2.2.2.2.2.2.2.2.2.1 x_35.2.1.2.2.2.2.2.2.2.2.2.2.1 x_35.2.1.2.2.2.2.2.2.2.2.2.2.2.1) fun x_74 =>
    some (true, ())

def g_spec_l11OK (n : Nat) (s_1 : Int) (s_2 : Int) (s_3 : Int) (s_4 : Int) (s_5 : Int) (s_6 : Int) (s_7 : Int) (s_8 : Bool) (s_9 : Int) (s_10 : Bool) (s_11 : List (Int × Int × Unit)) (s_12 : List Int) : Option ((Bool) × (Unit)) := t_spec_l11OK n (l_spec_l11OK_0 n n) s_1 s_2 s_3 s_4 s_5 s_6 s_7 s_8 s_9 s_10 s_11 s_12

def d_spec_l02Dec (n : Nat) : Nat → Int → Option ((List Int) × (Unit))
  | 0, _ => none
  | m + 1, n_1 =>
    if (decide (n_1 < 10)) then
      some ([(wu8 (wi64 (48 + n_1)))], ())
    else
      (d_spec_l02Dec n m (wi64 (Int.tdiv n_1 10))).bind fun y_6 =>
      let t_9 := wu8 (wi64 (48 + (Int.tmod n_1 10)))
      gd (y_6.1.length + [t_9].length ≤ lim) <|
      some ((y_6.1 ++ [t_9]), ())

def g_spec_l02Dec (n : Nat) (n_1 : Int) : Option ((List Int) × (Unit)) := d_spec_l02Dec n n n_1

def g_spec_l11Bit (n : Nat) (i_1 : Int) : Option ((Int) × (Unit)) :=
  gd (0 ≤ i_1 ∧ i_1 < ([2, 1, 4, 8, 16, 32].length : Int)) <|
  some (([2, 1, 4, 8, 16, 32].getD (Int.toNat i_1) 0), ())

def g_spec_l11Has (n : Nat) (s_1 : Int) (s_2 : Int) (s_3 : Int) (s_4 : Int) (s_5 : Int) (s_6 : Int) (s_7 : Int) (s_8 : Bool) (s_9 : Int) (s_10 : Bool) (s_11 : List (Int × Int × Unit)) (s_12 : List Int) (flag_13 : Int) : Option ((Bool) × (Unit)) :=
  some (((iand .i64 s_5 flag_13) != 0), ())

def l_spec_l11HexText_0 (n : Nat) : Nat → List Int → List Int → Int → List Int → Option ((Unit × Unit) × ((List Int) × Unit))
  | 0, _, _, _, _ => none
  | m + 1, b_16, d_17, i_18, a_19 =>
    if (decide (i_18 < (b_16.length : Int))) then
      gd (0 ≤ i_18 ∧ i_18 < (b_16.length : Int)) <|
      let t_22 := ishr .u8 (b_16.getD (Int.toNat i_18) 0) 4
      gd (0 ≤ t_22 ∧ t_22 < (d_17.length : Int)) <|
      let t_23 := d_17.getD (Int.toNat t_22) 0
      gd (a_19.length + ([t_23] : List Int).length ≤ lim) <|
      let t_24 := a_19 ++ [t_23]
      gd (0 ≤ i_18 ∧ i_18 < (b_16.length : Int)) <|
      let t_26 := iand .u8 (b_16.getD (Int.toNat i_18) 0) 15
      gd (0 ≤ t_26 ∧ t_26 < (d_17.length : Int)) <|
      let t_27 := d_17.getD (Int.toNat t_26) 0
      gd (t_24.length + ([t_27] : List Int).length ≤ lim) <|
      l_spec_l11HexText_0 n m b_16 d_17 (wi64 (i_18 + 1)) (t_24 ++ [t_27])
    else
      some (((), ()), (a_19, ()))

def t_spec_l11HexText (n : Nat) (L0 : List Int → List Int → Int → List Int → Option ((Unit × Unit) × ((List Int) × Unit))) (b_1 : List Int) : Option ((List Int) × (Unit)) :=
  (L0 b_1 [48, 49, 50, 51, 52, 53, 54, 55, 56, 57, 97, 98, 99, 100, 101, 102] 0 []).bind fun x_30 =>
  some (x_30.2.1, ())

def g_spec_l11HexText (n : Nat) (b_1 : List Int) : Option ((List Int) × (Unit)) := t_spec_l11HexText n (l_spec_l11HexText_0 n n) b_1

def l_spec_ShowSegment_0 (n : Nat) : Nat → List Int → Int → Int → Int → Int → Int → Int → Int → Int → Bool → Int → Bool → (List (Int × Int × Unit)) → List Int → Option ((Unit × (List Int) × Unit) × ((Int × Int × Int × Int × Int × Int × Int × Bool × Int × Bool × (List (Int × Int × Unit)) × (List Int) × Unit) × Unit))
  | 0, _, _, _, _, _, _, _, _, _, _, _, _, _, _ => none
  | m + 1, out_49, i_50, f0_51, f1_52, f2_53, f3_54, f4_55, f5_56, f6_57, f7_58, f8_59, f9_60, f10_61, f11_62 =>
    if (decide (i_50 < 6)) then
      (g_spec_l11Bit n i_50).bind fun y_64 =>
      (g_spec_l11Has n f0_51 f1_52 f2_53 f3_54 f4_55 f5_56 f6_57 f7_58 f8_59 f9_60 f10_61 f11_62 y_64.1).bind fun y_65 =>
      if y_65.1 then
        let t_66 := wi64 (i_50 + 1)
        gd (0 ≤ i_50 ∧ i_50 ≤ t_66 ∧ t_66 ≤ (6 : Int)) <|
        let t_67 := cutL ([83, 70, 82, 80, 65, 85] : List Int) i_50 t_66
        gd (out_49.length + t_67.length ≤ lim) <|
        l_spec_ShowSegment_0 n m (out_49 ++ t_67) (wi64 (i_50 + 1)) f0_51 f1_52 f2_53 f3_54 f4_55 f5_56 f6_57 f7_58 f8_59 f9_60 f10_61 f11_62
      else
        l_spec_ShowSegment_0 n m out_49 (wi64 (i_50 + 1)) f0_51 f1_52 f2_53 f3_54 f4_55 f5_56 f6_57 f7_58 f8_59 f9_60 f10_61 f11_62
    else
      some (((), out_49, ()), ((f0_51, f1_52, f2_53, f3_54, f4_55, f5_56, f6_57, f7_58, f8_59, f9_60, f10_61, f11_62, ()), ()))

def l_spec_ShowSegment_1 (n : Nat) : Nat → List Int → Int → Int → Int → Int → Int → Int → Int → Int → Bool → Int → Bool → (List (Int × Int × Unit)) → List Int → Option ((Unit × (List Int) × Unit) × ((Int × Int × Int × Int × Int × Int × Int × Bool × Int × Bool × (List (Int × Int × Unit)) × (List Int) × Unit) × Unit))
  | 0, _, _, _, _, _, _, _, _, _, _, _, _, _, _ => none
  | m + 1, out_123, i_124, f0_125, f1_126, f2_127, f3_128, f4_129, f5_130, f6_131, f7_132, f8_133, f9_134, f10_135, f11_136 =>
    if (decide (i_124 < (f10_135.length : Int))) then
      gd (out_123.length + ([32, 115, 97, 99, 107, 32] : List Int).length ≤ lim) <|
      let t_138 := out_123 ++ ([32, 115, 97, 99, 107, 32] : List Int)
      gd (0 ≤ i_124 ∧ i_124 < (f10_135.length : Int)) <|
      (g_spec_l02Dec n (f10_135.getD (Int.toNat i_124) (0, (0, ()))).1).bind fun y_140 =>
      gd (t_138.length + y_140.1.length ≤ lim) <|
      let t_141 := t_138 ++ y_140.1
      gd (t_141.length + ([45] : List Int).length ≤ lim) <|
      let t_142 := t_141 ++ ([45] : List Int)
      gd (0 ≤ i_124 ∧ i_124 < (f10_135.length : Int)) <|
      (g_spec_l02Dec n (f10_135.getD (Int.toNat i_124) (0, (0, ()))).2.1).bind fun y_144 =>
      gd (t_142.length + y_144.1.length ≤ lim) <|
      l_spec_ShowSegment_1 n m (t_142 ++ y_144.1) (wi64 (i_124 + 1)) f0_125 f1_126 f2_127 f3_128 f4_129 f5_130 f6_131 f7_132 f8_133 f9_134 f10_135 f11_136
    else
      some (((), out_123, ()), ((f0_125, f1_126, f2_127, f3_128, f4_129, f5_130, f6_131, f7_132, f8_133, f9_134, f10_135, f11_136, ()), ()))

def t_spec_ShowSegment (n : Nat) (L0 : List Int → Int → Int → Int → Int → Int → Int → Int → Int → Bool → Int → Bool → (List (Int × Int × Unit)) → List Int → Option ((Unit × (List Int) × Unit) × ((Int × Int × Int × Int × Int × Int × Int × Bool × Int × Bool × (List (Int × Int × Unit)) × (List Int) × Unit) × Unit))) (L1 : List Int → Int → Int → Int → Int → Int → Int → Int → Int → Bool → Int → Bool → (List (Int × Int × Unit)) → List Int → Option ((Unit × (List Int) × Unit) × ((Int × Int × Int × Int × Int × Int × Int × Bool × Int × Bool × (List (Int × Int × Unit)) × (List Int) × Unit) × Unit))) (s_1 : Int) (s_2 : Int) (s_3 : Int) (s_4 : Int) (s_5 : Int) (s_6 : Int) (s_7 : Int) (s_8 : Bool) (s_9 : Int) (s_10 : Bool) (s_11 : List (Int × Int × Unit)) (s_12 : List Int) : Option (((List Int) × Int × Unit) × (Unit)) :=
  (
    (g_spec_l11OK n s_1 s_2 s_3 s_4 s_5 s_6 s_7 s_8 s_9 s_10 s_11 s_12).bind fun y_15 =>
    if (!y_15.1) then
      some (((), true, ()), ((s_1, s_2, s_3, s_4, s_5, s_6, s_7, s_8, s_9, s_10, s_11, s_12, ()), ()))
    else
      some (((), (decide ((s_12.length : Int) > 4000)), ()), ((s_1, s_2, s_3, s_4, s_5, s_6, s_7, s_8, s_9, s_10, s_11, s_12, ()), ()))
    : Option ((Unit × Bool × Unit) × ((Int × Int × Int × Int × Int × Int × Int × Bool × Int × Bool × (List (Int × Int × Unit)) × (List Int) × Unit) × Unit))).bind fun x_17 =>
  if x_17.1.2.1 then
    some (([], 1, ()), ())
  else
    (g_spec_l02Dec n x_17.2.1.1).bind fun y_18 =>
    gd (y_18.1.length + ([62] : List Int).length ≤ lim) <|
    let t_19 := y_18.1 ++ ([62] : List Int)
    (g_spec_l02Dec n x_17.2.1.2.1).bind fun y_20 =>
    gd (t_19.length + y_20.1.length ≤ lim) <|
    let t_21 := t_19 ++ y_20.1
    gd (t_21.length + ([32] : List Int).length ≤ lim) <|
    let t_22 := t_21 ++ ([32] : List Int)
    (
      if (x_17.2.1.2.2.2.2.1 == 0) then
        gd (t_22.length + ([45] : List Int).length ≤ lim) <|
        some (((), (t_22 ++ ([45] : List Int)), ()), ((x_17.2.1.1, x_17.2.1.2.1, x_17.2.1.2.2.1, x_17.2.1.2.2.2.1, x_17.2.1.2.2.2.2.1, x_17.2.1.2.2.2.2.2.1, x_17.2.1.2.2.2.2.2.2.1, x_17.2.1.2.2.2.2.2.2.2.1, x_17.2.1.2.2.2.2.2.2.2.2.1, x_17.2.1.2.2.2.2.2.2.2.2.2.1, x_17.2.1.2.2.2.2.2.2.2.2.2.2.1, x_17.2.1.2.2.2.2.2.2.2.2.2.2.2.1, ()), ()))
      else
        some (((), t_22, ()), ((x_17.2.1.1, x_17.2.1.2.1, x_17.2.1.2.2.1, x_17.2.1.2.2.2.1, x_17.2.1.2.2.2.2.1, x_17.2.1.2.2.2.2.2.1, x_17.2.1.2.2.2.2.2.2.1, x_17.2.1.2.2.2.2.2.2.2.1, x_17.2.1.2.2.2.2.2.2.2.2.1, x_17.2.1.2.2.2.2.2.2.2.2.2.1, x_17.2.1.2.2.2.2.2.2.2.2.2.2.1, x_17.2.1.2.2.2.2.2.2.2.2.2.2.2.1, ()), ()))
      : Option ((Unit × (List Int) × Unit) × ((Int × Int × Int × Int × Int × Int × Int × Bool × Int × Bool × (List (Int × Int × Unit)) × (List Int) × Unit) × Unit))).bind fun x_26 =>
    (L0 x_26.1.2.1 0 x_26.2.1.1 x_26.2.1.2.1 x_26.2.1.2.2.1 x_26.2.1.2.2.2.1 x_26.2.1.2.2.2.2.1 x_26.2.1.2.2.2.2.2.1 x_26.2.1.2.2.2.2.2.2.1 x_26.2.1.2.2.2.2.2.2.2.1 x_26.2.1.2.2.2.2.2.2.2.2.1 x_26.2.1.2.2.2.2.2.2.2.2.2.1 x_26.2.1.2.2.2.2.2.2.2.2.2.2.1 x_26.2.1.2.2.2.2.2.2.2.2.2.2.2.1).bind fun x_71 =>
    gd (x_71.1.2.1.length + ([32] : List Int).length ≤ lim) <|
    let t_72 := x_71.1.2.1 ++ ([32] : List Int)
    (g_spec_l02Dec n x_71.2.1.2.2.1).bind fun y_73 =>
    gd (t_72.length + y_73.1.length ≤ lim) <|
    let t_74 := t_72 ++ y_73.1
    gd (t_74.length + ([32] : List Int).length ≤ lim) <|
    let t_75 := t_74 ++ ([32] : List Int)
    (g_spec_l02Dec n x_71.2.1.2.2.2.1).bind fun y_76 =>
    gd (t_75.length + y_76.1.length ≤ lim) <|
    let t_77 := t_75 ++ y_76.1
    gd (t_77.length + ([32] : List Int).length ≤ lim) <|
    let t_78 := t_77 ++ ([32] : List Int)
    (g_spec_l02Dec n x_71.2.1.2.2.2.2.2.1).bind fun y_79 =>
    gd (t_78.length + y_79.1.length ≤ lim) <|
    let t_80 := t_78 ++ y_79.1
    (
      if (x_71.2.1.2.2.2.2.2.2.1 != 0) then
        gd (t_80.length + ([32, 109, 115, 115, 32] : List Int).length ≤ lim) <|
        let t_85 := t_80 ++ ([32, 109, 115, 115, 32] : List Int)
        (g_spec_l02Dec n x_71.2.1.2.2.2.2.2.2.1).bind fun y_86 =>
        gd (t_85.length + y_86.1.length ≤ lim) <|
        some (((), (t_85 ++ y_86.1), ()), ((x_71.2.1.1, x_71.2.1.2.1, x_71.2.1.2.2.1, x_71.2.1.2.2.2.1, x_71.2.1.2.2.2.2.1, x_71.2.1.2.2.2.2.2.1, x_71.2.1.2.2.2.2.2.2.1, x_71.2.1.2.2.2.2.2.2.2.1, x_71.2.1.2.2.2.2.2.2.2.2.1, x_71.2.1.2.2.2.2.2.2.2.2.2.1, x_71.2.1.2.2.2.2.2.2.2.2.2.2.1, x_71.2.1.2.2.2.2.2.2.2.2.2.2.2.1, ()), ()))
      else
        some (((), t_80, ()), ((x_71.2.1.1, x_71.2.1.2.1, x_71.2.1.2.2.1, x_71.2.1.2.2.2.1, x_71.2.1.2.2.2.2.1, x_71.2.1.2.2.2.2.2.1, x_71.2.1.2.2.2.2.2.2.1, x_71.2.1.2.2.2.2.2.2.2.1, x_71.2.1.2.2.2.2.2.2.2.2.1, x_71.2.1.2.2.2.2.2.2.2.2.2.1, x_71.2.1.2.2.2.2.2.2.2.2.2.2.1, x_71.2.1.2.2.2.2.2.2.2.2.2.2.2.1, ()), ()))
      : Option ((Unit × (List Int) × Unit) × ((Int × Int × Int × Int × Int × Int × Int × Bool × Int × Bool × (List (Int × Int × Unit)) × (List Int) × Unit) × Unit))).bind fun x_88 =>
    (
      if x_88.2.1.2.2.2.2.2.2.2.1 then
        gd (x_88.1.2.1.length + ([32, 115, 99, 97, 108, 101, 32] : List Int).length ≤ lim) <|
        let t_92 := x_88.1.2.1 ++ ([32, 115, 99, 97, 108, 101, 32] : List Int)
        (g_spec_l02Dec n x_88.2.1.2.2.2.2.2.2.2.2.1).bind fun y_93 =>
        gd (t_92.length + y_93.1.length ≤ lim) <|
        some (((), (t_92 ++ y_93.1), ()), ((x_88.2.1.1, x_88.2.1.2.1, x_88.2.1.2.2.1, x_88.2.1.2.2.2.1, x_88.2.1.2.2.2.2.1, x_88.2.1.2.2.2.2.2.1, x_88.2.1.2.2.2.2.2.2.1, x_88.2.1.2.2.2.2.2.2.2.1, x_88.2.1.2.2.2.2.2.2.2.2.1, x_88.2.1.2.2.2.2.2.2.2.2.2.1, x_88.2.1.2.2.2.2.2.2.2.2.2.2.1, x_88.2.1.2.2.2.2.2.2.2.2.2.2.2.1, ()), ()))
      else
        some (((), x_88.1.2.1, ()), ((x_88.2.1.1, x_88.2.1.2.1, x_88.2.1.2.2.1, x_88.2.1.2.2.2.1, x_88.2.1.2.2.2.2.1, x_88.2.1.2.2.2.2.2.1, x_88.2.1.2.2.2.2.2.2.1, x_88.2.1.2.2.2.2.2.2.2.1, x_88.2.1.2.2.2.2.2.2.2.2.1, x_88.2.1.2.2.2.2.2.2.2.2.2.1, x_88.2.1.2.2.2.2.2.2.2.2.2.2.1, x_88.2.1.2.2.2.2.2.2.2.2.2.2.2.1, ()), ()))
      : Option ((Unit × (List Int) × Unit) × ((Int × Int × Int × Int × Int × Int × Int × Bool × Int × Bool × (List (Int × Int × Unit)) × (List Int) × Unit) × Unit))).bind fun x_95 =>
    (
      if x_95.2.1.2.2.2.2.2.2.2.2.2.1 then
        gd (x_95.1.2.1.length + ([32, 115, 97, 99, 107, 111, 107] : List Int).length ≤ lim) <|
        some (((), (x_95.1.2.1 ++ ([32, 115, 97, 99, 107, 111, 107] : List Int)), ()), ((x_95.2.1.1, x_95.2.1.2.1, x_95.2.1.2.2.1, x_95.2.1.2.2.2.1, x_95.2.1.2.2.2.2.1, x_95.2.1.2.2.2.2.2.1, x_95.2.1.2.2.2.2.2.2.1, x_95.2.1.2.2.2.2.2.2.2.1, x_95.2.1.2.2.2.2.2.2.2.2.1, x_95.2.1.2.2.2.2.2.2.2.2.2.1, x_95.2.1.2.2.2.2.2.2.2.2.2.2.1, x_95.2.1.2.2.2.2.2.2.2.2.2.2.2.1, ()), ()))
      else
        some (((), x_95.1.2.1, ()), ((x_95.2.1.1, x_95.2.1.2.1, x_95.2.1.2.2.1, x_95.2.1.2.2.2.1, x_95.2.1.2.2.2.2.1, x_95.2.1.2.2.2.2.2.1, x_95.2.1.2.2.2.2.2.2.1, x_95.2.1.2.2.2.2.2.2.2.1, x_95.2.1.2.2.2.2.2.2.2.2.1, x_95.2.1.2.2.2.2.2.2.2.2.2.1, x_95.2.1.2.2.2.2.2.2.2.2.2.2.1, x_95.2.1.2.2.2.2.2.2.2.2.2.2.2.1, ()), ()))
      : Option ((Unit × (List Int) × Unit) × ((Int × Int × Int × Int × Int × Int × Int × Bool × Int × Bool × (List (Int × Int × Unit)) × (List Int) × Unit) × Unit))).bind fun x_98 =>
    (L1 x_98.1.2.1 0 x_98.2.1.1 x_98.2.1.2.1 x_98.2.1.2.2.1 x_98.2.1.2.2.2.1 x_98.2.1.2.2.2.2.1 x_98.2.1.2.2.2.2.2.1 x_98.2.1.2.2.2.2.2.2.1 x_98.2.1.2.2.2.2.2.2.2.1 x_98.2.1.2.2.2.2.2.2.2.2.1 x_98.2.1.2.2.2.2.2.2.2.2.2.1 x_98.2.1.2.2.2.2.2.2.2.2.2.2.1 x_98.2.1.2.2.2.2.2.2.2.2.2.2.2.1).bind fun x_147 =>
    if (decide ((x_147.2.1.2.2.2.2.2.2.2.2.2.2.2.1.length : Int) > 0)) then
      gd (x_147.1.2.1.length + ([32, 100, 97, 116, 97, 32] : List Int).length ≤ lim) <|
      let t_149 := x_147.1.2.1 ++ ([32, 100, 97, 116, 97, 32] : List Int)
      (g_spec_l11HexText n x_147.2.1.2.2.2.2.2.2.2.2.2.2.2.1).bind fun y_150 =>
      gd (t_149.length + y_150.1.length ≤ lim) <|
      some (((t_149 ++ y_150.1), 0, ()), ())
    else
      some ((x_147.1.2.1, 0, ()), ())

def g_spec_ShowSegment (n : Nat) (s_1 : Int) (s_2 : Int) (s_3 : Int) (s_4 : Int) (s_5 : Int) (s_6 : Int) (s_7 : Int) (s_8 : Bool) (s_9 : Int) (s_10 : Bool) (s_11 : List (Int × Int × Unit)) (s_12 : List Int) : Option (((List Int) × Int × Unit) × (Unit)) := t_spec_ShowSegment n (l_spec_ShowSegment_0 n n) (l_spec_ShowSegment_1 n n) s_1 s_2 s_3 s_4 s_5 s_6 s_7 s_8 s_9 s_10 s_11 s_12

def g_impl_wordReader_next (n : Nat) (w_1 : List (List Int)) (bad_2 : Bool) : Option ((List Int) × (((List (List Int)) × Bool × Unit) × Unit)) :=
  if ((w_1.length : Int) == 0) then
    some ([], ((w_1, true, ()), ()))
  else
    gd (0 ≤ (0 : Int) ∧ (0 : Int) < (w_1.length : Int)) <|
    gd (0 ≤ (1 : Int) ∧ (1 : Int) ≤ (w_1.length : Int) ∧ (w_1.length : Int) ≤ (w_1.length : Int)) <|
    some ((w_1.getD (Int.toNat (0 : Int)) []), (((cutL w_1 1 (w_1.length : Int)), bad_2, ()), ()))

def l_impl_decimal_0 (n : Nat) : Nat → Int → Int → Int → List Int → Option ((Int × Bool × Unit) × (Unit) ⊕ ((Int × Unit) × (Unit)))
  | 0, _, _, _, _ => none
  | m + 1, v_30, t_31, t_32, a_33 =>
    if (decide (t_32 < t_31)) then
      gd (0 ≤ t_32 ∧ t_32 < (a_33.length : Int)) <|
      let t_35 := a_33.getD (Int.toNat t_32) 0
      (
        if (decide (t_35 < 48)) then
          some ((v_30, t_35, (), t_31, t_32, true, ()), (a_33, ()))
        else
          some ((v_30, t_35, (), t_31, t_32, (decide (t_35 > 57)), ()), (a_33, ()))
        : Option ((Int × Int × Unit × Int × Int × Bool × Unit) × ((List Int) × Unit))).bind fun x_40 =>
      if x_40.1.2.2.2.2.2.1 then
        some (Sum.inl ((0, false, ()), ()))
      else
        l_impl_decimal_0 n m (wi64 ((wi64 (x_40.1.1 * 10)) + (wi64 (wu8 (x_40.1.2.1 - 48))))) x_40.1.2.2.2.1 (wi64 (x_40.1.2.2.2.2.1 + 1)) x_40.2.1
    else
      some (Sum.inr ((v_30, ()), ()))

def t_impl_decimal (n : Nat) (L0 : Int → Int → Int → List Int → Option ((Int × Bool × Unit) × (Unit) ⊕ ((Int × Unit) × (Unit)))) (s_1 : List Int) (digits_2 : Int) : Option ((Int × Bool × Unit) × (Unit)) :=
  (
    if ((s_1.length : Int) == 0) then
      some ((s_1, true, ()), ())
    else
      if (decide ((s_1.length : Int) > digits_2)) then
        some ((s_1, true, ()), ())
      else
        if (decide ((s_1.length : Int) > 1)) then
          gd (0 ≤ (0 : Int) ∧ (0 : Int) < (s_1.length : Int)) <|
          some ((s_1, ((s_1.getD (Int.toNat (0 : Int)) 0) == 48), ()), ())
        else
          some ((s_1, false, ()), ())
    : Option (((List Int) × Bool × Unit) × (Unit))).bind fun x_13 =>
  if x_13.1.2.1 then
    some ((0, false, ()), ())
  else
    gd (x_13.1.1.length ≤ lim) <|
    sbind (L0 0 (x_13.1.1.length : Int) 0 x_13.1.1) fun x_46 =>
    some ((x_46.1.1, true, ()), ())

def g_impl_decimal (n : Nat) (s_1 : List Int) (digits_2 : Int) : Option ((Int × Bool × Unit) × (Unit)) := t_impl_decimal n (l_impl_decimal_0 n n) s_1 digits_2

def g_impl_ReadSegment_f1 (n : Nat) (sep_1 : List Int) (f0_2 : List (List Int)) (f1_3 : Bool) : Option ((Int × Int × Unit) × ((Unit × Unit) × ((List (List Int)) × Bool × Unit) × Unit)) :=
  (g_impl_wordReader_next n f0_2 f1_3).bind fun y_4 =>
  (g_strings_Cut n y_4.1 sep_1).bind fun y_5 =>
  (g_impl_decimal n y_5.1.1 10).bind fun y_6 =>
  (g_impl_decimal n y_5.1.2.1 10).bind fun y_7 =>
  if y_4.2.1.2.1 then
    some ((y_6.1.1, y_7.1.1, ()), (((), ()), (y_4.2.1.1, true, ()), ()))
  else
    if (!y_5.1.2.2.1) then
      some ((y_6.1.1, y_7.1.1, ()), (((), ()), (y_4.2.1.1, true, ()), ()))
    else
      if (!y_6.1.2.1) then
        some ((y_6.1.1, y_7.1.1, ()), (((), ()), (y_4.2.1.1, true, ()), ()))
      else
        some ((y_6.1.1, y_7.1.1, ()), (((), ()), (y_4.2.1.1, (!y_7.1.2.1), ()), ()))

def g_unicode_utf8_ValidRune (n : Nat) (r_1 : Int) : Option ((Bool) × (Unit)) :=
  (
    if (decide ((0 : Int) ≤ r_1)) then
      some ((r_1, (decide (r_1 < 55296)), ()), ())
    else
      some ((r_1, false, ()), ())
    : Option ((Int × Bool × Unit) × (Unit))).bind fun x_6 =>
  if x_6.1.2.1 then
    some (true, ())
  else
    if (decide ((57343 : Int) < x_6.1.1)) then
      if (decide (x_6.1.1 ≤ 1114111)) then
        some (true, ())
      else
        some (false, ())
    else
      some (false, ())

def l_strings_IndexRune_0 (n : Nat) : Nat → List Int → Nat → Option ((Int) × (Unit) ⊕ ((Unit) × (Unit)))
  | 0, _, _ => none
  | m + 1, it_14, p_15 =>
    if p_15 < it_14.length then
      if (((dec it_14 p_15).1) == 65533) then
        some (Sum.inl ((p_15 : Int), ()))
      else
        l_strings_IndexRune_0 n m it_14 (p_15 + (dec it_14 p_15).2)
    else
      some (Sum.inr ((), ()))

def l_strings_IndexRune_2 (n : Nat) : Nat → List Int → List Int → Int → Int → Int → Option ((Int × Int × Unit) × (Unit))
  | 0, _, _, _, _, _ => none
  | m + 1, s_104, rs_105, last_106, i_107, j_108 =>
    if (decide (j_108 < (rs_105.length : Int))) then
      let t_110 := wi64 (i_107 - j_108)
      gd (0 ≤ t_110 ∧ t_110 < (s_104.length : Int)) <|
      let t_112 := wi64 (last_106 - j_108)
      gd (0 ≤ t_112 ∧ t_112 < (rs_105.length : Int)) <|
      if ((s_104.getD (Int.toNat t_110) 0) != (rs_105.getD (Int.toNat t_112) 0)) then
        none
      else
        l_strings_IndexRune_2 n m s_104 rs_105 last_106 i_107 (wi64 (j_108 + 1))
    else
      some ((last_106, i_107, ()), ())

def s_strings_IndexRune_1 (n : Nat) (L2 : List Int → List Int → Int → Int → Int → Option ((Int × Int × Unit) × (Unit))) (lp : List Int → List Int → Int → Int → Option ((Int) × (Unit) ⊕ ((Unit) × (Unit)))) (s_69 : List Int) (rs_70 : List Int) (last_71 : Int) (i_72 : Int) : Option ((Int) × (Unit) ⊕ ((Unit) × (Unit))) :=
  if (decide (i_72 < (s_69.length : Int))) then
    gd (0 ≤ i_72 ∧ i_72 < (s_69.length : Int)) <|
    gd (0 ≤ last_71 ∧ last_71 < (rs_70.length : Int)) <|
    sbind (
      if ((s_69.getD (Int.toNat i_72) 0) != (rs_70.getD (Int.toNat last_71) 0)) then
        let t_84 := wi64 (i_72 + 1)
        gd (0 ≤ t_84 ∧ t_84 ≤ (s_69.length : Int) ∧ (s_69.length : Int) ≤ (s_69.length : Int)) <|
        gd (0 ≤ last_71 ∧ last_71 < (rs_70.length : Int)) <|
        (g_strings_IndexByte n (cutL s_69 t_84 (s_69.length : Int)) (rs_70.getD (Int.toNat last_71) 0)).bind fun y_87 =>
        if (decide (y_87.1 < 0)) then
          some (Sum.inl (Sum.inl ((-1), ())))
        else
          some (Sum.inr ((s_69, rs_70, last_71, (wi64 (i_72 + (wi64 (y_87.1 + 1)))), ()), ()))
      else
        some (Sum.inr ((s_69, rs_70, last_71, i_72, ()), ()))
      : Option (((Int) × (Unit) ⊕ ((Unit) × (Unit))) ⊕ (((List Int) × (List Int) × Int × Int × Unit) × (Unit)))) fun x_91 =>
    (L2 x_91.1.1 x_91.1.2.1 x_91.1.2.2.1 x_91.1.2.2.2.1 1).bind fun x_116 =>
    some (Sum.inl ((wi64 (x_116.1.2.1 - x_116.1.1)), ()))
  else
    some (Sum.inr ((), ()))

def l_strings_IndexRune_1 (n : Nat) : Nat → List Int → List Int → Int → Int → Option ((Int) × (Unit) ⊕ ((Unit) × (Unit)))
  | 0, _, _, _, _ => none
  | m + 1, s_69, rs_70, last_71, i_72 => s_strings_IndexRune_1 n (l_strings_IndexRune_2 n n) (l_strings_IndexRune_1 n m) s_69 rs_70 last_71 i_72

def t_strings_IndexRune (n : Nat) (L0 : List Int → Nat → Option ((Int) × (Unit) ⊕ ((Unit) × (Unit)))) (L1 : List Int → List Int → Int → Int → Option ((Int) × (Unit) ⊕ ((Unit) × (Unit)))) (s_1 : List Int) (r_2 : Int) : Option ((Int) × (Unit)) :=
  (
    if (decide ((0 : Int) ≤ r_2)) then
      some ((s_1, r_2, (decide (r_2 < 128)), ()), ())
    else
      some ((s_1, r_2, false, ()), ())
    : Option (((List Int) × Int × Bool × Unit) × (Unit))).bind fun x_7 =>
  if x_7.1.2.2.1 then
    (g_strings_IndexByte n x_7.1.1 (wu8 x_7.1.2.1)).bind fun y_9 =>
    some (y_9.1, ())
  else
    if (x_7.1.2.1 == 65533) then
      sbind (L0 x_7.1.1 0) fun x_17 =>
      some ((-1), ())
    else
      (g_unicode_utf8_ValidRune n x_7.1.2.1).bind fun y_18 =>
      if (!y_18.1) then
        some ((-1), ())
      else
        let t_19 := wi64 (((enc x_7.1.2.1).length : Int) - 1)
        sbind (L1 x_7.1.1 (enc x_7.1.2.1) t_19 t_19) fun x_118 =>
        some ((-1), ())

def g_strings_IndexRune (n : Nat) (s_1 : List Int) (r_2 : Int) : Option ((Int) × (Unit)) := t_strings_IndexRune n (l_strings_IndexRune_0 n n) (l_strings_IndexRune_1 n n) s_1 r_2

def g_impl_wordReader_number (n : Nat) (digits_1 : Int) (w_2 : List (List Int)) (bad_3 : Bool) : Option ((Int) × (((List (List Int)) × Bool × Unit) × Unit)) :=
  (g_impl_wordReader_next n w_2 bad_3).bind fun y_4 =>
  (g_impl_decimal n y_4.1 digits_1).bind fun y_5 =>
  if y_4.2.1.2.1 then
    some (y_5.1.1, ((y_4.2.1.1, true, ()), ()))
  else
    some (y_5.1.1, ((y_4.2.1.1, (!y_5.1.2.1), ()), ()))

def g_impl_wordReader_is (n : Nat) (word_1 : List Int) (w_2 : List (List Int)) (bad_3 : Bool) : Option ((Bool) × (((List (List Int)) × Bool × Unit) × Unit)) :=
  (
    if (decide ((w_2.length : Int) > 0)) then
      gd (0 ≤ (0 : Int) ∧ (0 : Int) < (w_2.length : Int)) <|
      some (((), ((w_2.getD (Int.toNat (0 : Int)) []) == word_1), ()), ((w_2, bad_3, ()), ()))
    else
      some (((), false, ()), ((w_2, bad_3, ()), ()))
    : Option ((Unit × Bool × Unit) × (((List (List Int)) × Bool × Unit) × Unit))).bind fun x_10 =>
  if x_10.1.2.1 then
    gd (0 ≤ (1 : Int) ∧ (1 : Int) ≤ (x_10.2.1.1.length : Int) ∧ (x_10.2.1.1.length : Int) ≤ (x_10.2.1.1.length : Int)) <|
    some (true, (((cutL x_10.2.1.1 1 (x_10.2.1.1.length : Int)), x_10.2.1.2.1, ()), ()))
  else
    some (false, ((x_10.2.1.1, x_10.2.1.2.1, ()), ()))

def g_impl_wordReader_done (n : Nat) (w_1 : List (List Int)) (bad_2 : Bool) : Option ((Bool) × (((List (List Int)) × Bool × Unit) × Unit)) :=
  if (!bad_2) then
    some (((w_1.length : Int) == 0), ((w_1, bad_2, ()), ()))
  else
    some (false, ((w_1, bad_2, ()), ()))

def l_impl_ReadSegment_0 (n : Nat) : Nat → List Int → Int → Int → Int → Int → Int → Int → Int → Bool → Int → Bool → Int → Int → Int → Int → Int → Int → Int → Bool → Int → Bool → List Int → Nat → List (List Int) → Bool → Option (((List Int) × Unit × Unit × (Unit × Unit) × Unit × Unit) × ((Int × Int × Int × Int × Int × Int × Int × Bool × Int × Bool × Unit × Unit × Unit) × (Unit × Unit) × (Int × Int × Int × Int × Int × Int × Int × Bool × Int × Bool × Unit × Unit × Unit) × ((List (List Int)) × Bool × Unit) × Unit))
  | 0, _, _, _, _, _, _, _, _, _, _, _, _, _, _, _, _, _, _, _, _, _, _, _, _, _ => none
  | m + 1, text_34, f0_35, f1_36, f2_37, f3_38, f4_39, f5_40, f6_41, f7_42, f8_43, f9_44, f0_45, f1_46, f2_47, f3_48, f4_49, f5_50, f6_51, f7_52, f8_53, f9_54, it_55, p_56, f0_57, f1_58 =>
    if p_56 < it_55.length then
      (g_strings_IndexRune n [70, 83, 82, 80, 65, 85] ((dec it_55 p_56).1)).bind fun y_59 =>
      if (decide (y_59.1 ≥ 0)) then
        ngd (y_59.1 < 0) <|
        l_impl_ReadSegment_0 n m text_34 f0_35 f1_36 f2_37 f3_38 f4_39 f5_40 f6_41 f7_42 f8_43 f9_44 f0_45 f1_46 f2_47 f3_48 (ior .i64 f4_49 (ishl .i64 1 y_59.1)) f5_50 f6_51 f7_52 f8_53 f9_54 it_55 (p_56 + (dec it_55 p_56).2) f0_57 f1_58
      else
        l_impl_ReadSegment_0 n m text_34 f0_35 f1_36 f2_37 f3_38 f4_39 f5_40 f6_41 f7_42 f8_43 f9_44 f0_45 f1_46 f2_47 f3_48 f4_49 f5_50 f6_51 f7_52 f8_53 f9_54 it_55 (p_56 + (dec it_55 p_56).2) f0_57 f1_58
    else
      some ((text_34, (), (), ((), ()), (), ()), ((f0_35, f1_36, f2_37, f3_38, f4_39, f5_40, f6_41, f7_42, f8_43, f9_44, (), (), ()), ((), ()), (f0_45, f1_46, f2_47, f3_48, f4_49, f5_50, f6_51, f7_52, f8_53, f9_54, (), (), ()), (f0_57, f1_58, ()), ()))

def l_impl_ReadSegment_1 (n : Nat) : Nat → List Int → Int → Int → Int → Int → Int → Int → Int → Bool → Int → Bool → Int → Int → Int → Int → Int → Int → Int → Bool → Int → Bool → List (List Int) → Bool → (List (Int × Int × Unit)) → Option (((List Int) × Unit × Unit × Unit × Unit) × ((Int × Int × Int × Int × Int × Int × Int × Bool × Int × Bool × Unit × Unit × Unit) × (Unit × Unit) × (Int × Int × Int × Int × Int × Int × Int × Bool × Int × Bool × Unit × Unit × Unit) × ((List (List Int)) × Bool × Unit) × (List (Int × Int × Unit)) × Unit))
  | 0, _, _, _, _, _, _, _, _, _, _, _, _, _, _, _, _, _, _, _, _, _, _, _, _ => none
  | m + 1, text_128, f0_129, f1_130, f2_131, f3_132, f4_133, f5_134, f6_135, f7_136, f8_137, f9_138, f0_139, f1_140, f2_141, f3_142, f4_143, f5_144, f6_145, f7_146, f8_147, f9_148, f0_149, f1_150, a_151 =>
    (g_impl_wordReader_is n [115, 97, 99, 107] f0_149 f1_150).bind fun y_152 =>
    if y_152.1 then
      (g_impl_ReadSegment_f1 n [45] y_152.2.1.1 y_152.2.1.2.1).bind fun y_153 =>
      gd (a_151.length + ([(y_153.1.1, (y_153.1.2.1, ()))] : List (Int × Int × Unit)).length ≤ lim) <|
      l_impl_ReadSegment_1 n m text_128 f0_129 f1_130 f2_131 f3_132 f4_133 f5_134 f6_135 f7_136 f8_137 f9_138 f0_139 f1_140 f2_141 f3_142 f4_143 f5_144 f6_145 f7_146 f8_147 f9_148 y_153.2.2.1.1 y_153.2.2.1.2.1 (a_151 ++ [(y_153.1.1, (y_153.1.2.1, ()))])
    else
      some ((text_128, (), (), (), ()), ((f0_129, f1_130, f2_131, f3_132, f4_133, f5_134, f6_135, f7_136, f8_137, f9_138, (), (), ()), ((), ()), (f0_139, f1_140, f2_141, f3_142, f4_143, f5_144, f6_145, f7_146, f8_147, f9_148, (), (), ()), (y_152.2.1.1, y_152.2.1.2.1, ()), a_151, ()))

def t_impl_ReadSegment (n : Nat) (L0 : List Int → Int → Int → Int → Int → Int → Int → Int → Bool → Int → Bool → Int → Int → Int → Int → Int → Int → Int → Bool → Int → Bool → List Int → Nat → List (List Int) → Bool → Option (((List Int) × Unit × Unit × (Unit × Unit) × Unit × Unit) × ((Int × Int × Int × Int × Int × Int × Int × Bool × Int × Bool × Unit × Unit × Unit) × (Unit × Unit) × (Int × Int × Int × Int × Int × Int × Int × Bool × Int × Bool × Unit × Unit × Unit) × ((List (List Int)) × Bool × Unit) × Unit))) (L1 : List Int → Int → Int → Int → Int → Int → Int → Int → Bool → Int → Bool → Int → Int → Int → Int → Int → Int → Int → Bool → Int → Bool → List (List Int) → Bool → (List (Int × Int × Unit)) → Option (((List Int) × Unit × Unit × Unit × Unit) × ((Int × Int × Int × Int × Int × Int × Int × Bool × Int × Bool × Unit × Unit × Unit) × (Unit × Unit) × (Int × Int × Int × Int × Int × Int × Int × Bool × Int × Bool × Unit × Unit × Unit) × ((List (List Int)) × Bool × Unit) × (List (Int × Int × Unit)) × Unit))) (text_1 : List Int) : Option (((Int × Int × Int × Int × Int × Int × Int × Bool × Int × Bool × Unit × Unit × Unit) × Int × Unit) × ((List (Int × Int × Unit)) × (List Int) × Unit)) :=
  (g_strings_Split n text_1 [32]).bind fun y_2 =>
  (g_impl_ReadSegment_f1 n [62] y_2.2.1 false).bind fun y_3 =>
  (g_impl_wordReader_next n y_3.2.2.1.1 y_3.2.2.1.2.1).bind fun y_4 =>
  (L0 text_1 0 0 0 0 0 0 0 false 0 false y_3.1.1 y_3.1.2.1 0 0 0 0 0 false 0 false y_4.1 0 y_4.2.1.1 y_4.2.1.2.1).bind fun x_63 =>
  (g_impl_wordReader_number n 10 x_63.2.2.2.2.1.1 x_63.2.2.2.2.1.2.1).bind fun y_64 =>
  (g_impl_wordReader_number n 10 y_64.2.1.1 y_64.2.1.2.1).bind fun y_65 =>
  (g_impl_wordReader_number n 10 y_65.2.1.1 y_65.2.1.2.1).bind fun y_66 =>
  (g_impl_wordReader_is n [109, 115, 115] y_66.2.1.1 y_66.2.1.2.1).bind fun y_67 =>
  (
    if y_67.1 then
      (g_impl_wordReader_number n 10 y_67.2.1.1 y_67.2.1.2.1).bind fun y_69 =>
      some ((x_63.1.1, (), (), ((), ()), (), ()), ((x_63.2.1.1, x_63.2.1.2.1, x_63.2.1.2.2.1, x_63.2.1.2.2.2.1, x_63.2.1.2.2.2.2.1, x_63.2.1.2.2.2.2.2.1, x_63.2.1.2.2.2.2.2.2.1, x_63.2.1.2.2.2.2.2.2.2.1, x_63.2.1.2.2.2.2.2.2.2.2.1, x_63.2.1.2.2.2.2.2.2.2.2.2.1, (), (), ()), ((), ()), (x_63.2.2.2.1.1, x_63.2.2.2.1.2.1, y_64.1, y_65.1, x_63.2.2.2.1.2.2.2.2.1, y_66.1, y_69.1, x_63.2.2.2.1.2.2.2.2.2.2.2.1, x_63.2.2.2.1.2.2.2.2.2.2.2.2.1, x_63.2.2.2.1.2.2.2.2.2.2.2.2.2.1, (), (), ()), (y_69.2.1.1, y_69.2.1.2.1, ()), ()))
    else
      some ((x_63.1.1, (), (), ((), ()), (), ()), ((x_63.2.1.1, x_63.2.1.2.1, x_63.2.1.2.2.1, x_63.2.1.2.2.2.1, x_63.2.1.2.2.2.2.1, x_63.2.1.2.2.2.2.2.1, x_63.2.1.2.2.2.2.2.2.1, x_63.2.1.2.2.2.2.2.2.2.1, x_63.2.1.2.2.2.2.2.2.2.2.1, x_63.2.1.2.2.2.2.2.2.2.2.2.1, (), (), ()), ((), ()), (x_63.2.2.2.1.1, x_63.2.2.2.1.2.1, y_64.1, y_65.1, x_63.2.2.2.1.2.2.2.2.1, y_66.1, x_63.2.2.2.1.2.2.2.2.2.2.1, x_63.2.2.2.1.2.2.2.2.2.2.2.1, x_63.2.2.2.1.2.2.2.2.2.2.2.2.1, x_63.2.2.2.1.2.2.2.2.2.2.2.2.2.1, (), (), ()), (y_67.2.1.1, y_67.2.1.2.1, ()), ()))
    : Option (((List Int) × Unit × Unit × (Unit × Unit) × Unit × Unit) × ((Int × Int × Int × Int × Int × Int × Int × Bool × Int × Bool × Unit × Unit × Unit) × (Unit × Unit) × (Int × Int × Int × Int × Int × Int × Int × Bool × Int × Bool × Unit × Unit × Unit) × ((List (List Int)) × Bool × Unit) × Unit))).bind fun x_70 =>
  (g_impl_wordReader_is n [115, 99, 97, 108, 101] x_70.2.2.2.2.1.1 x_70.2.2.2.2.1.2.1).bind fun y_71 =>
  (
    if y_71.1 then
      (g_impl_wordReader_number n 10 y_71.2.1.1 y_71.2.1.2.1).bind fun y_73 =>
      some ((x_70.1.1, (), (), ((), ()), (), ()), ((x_70.2.1.1, x_70.2.1.2.1, x_70.2.1.2.2.1, x_70.2.1.2.2.2.1, x_70.2.1.2.2.2.2.1, x_70.2.1.2.2.2.2.2.1, x_70.2.1.2.2.2.2.2.2.1, x_70.2.1.2.2.2.2.2.2.2.1, x_70.2.1.2.2.2.2.2.2.2.2.1, x_70.2.1.2.2.2.2.2.2.2.2.2.1, (), (), ()), ((), ()), (x_70.2.2.2.1.1, x_70.2.2.2.1.2.1, x_70.2.2.2.1.2.2.1, x_70.2.2.2.1.2.2.2.1, x_70.2.2.2.1.2.2.2.2.1, x_70.2.2.2.1.2.2.2.2.2.1, x_70.2.2.2.1.2.2.2.2.2.2.1, true, y_73.1, x_70.2.2.2.1.2.2.2.2.2.2.2.2.2.1, (), (), ()), (y_73.2.1.1, y_73.2.1.2.1, ()), ()))
    else
      some ((x_70.1.1, (), (), ((), ()), (), ()), ((x_70.2.1.1, x_70.2.1.2.1, x_70.2.1.2.2.1, x_70.2.1.2.2.2.1, x_70.2.1.2.2.2.2.1, x_70.2.1.2.2.2.2.2.1, x_70.2.1.2.2.2.2.2.2.1, x_70.2.1.2.2.2.2.2.2.2.1, x_70.2.1.2.2.2.2.2.2.2.2.1, x_70.2.1.2.2.2.2.2.2.2.2.2.1, (), (), ()), ((), ()), (x_70.2.2.2.1.1, x_70.2.2.2.1.2.1, x_70.2.2.2.1.2.2.1, x_70.2.2.2.1.2.2.2.1, x_70.2.2.2.1.2.2.2.2.1, x_70.2.2.2.1.2.2.2.2.2.1, x_70.2.2.2.1.2.2.2.2.2.2.1, x_70.2.2.2.1.2.2.2.2.2.2.2.1, x_70.2.2.2.1.2.2.2.2.2.2.2.2.1, x_70.2.2.2.1.2.2.2.2.2.2.2.2.2.1, (), (), ()), (y_71.2.1.1, y_71.2.1.2.1, ()), ()))
    : Option (((List Int) × Unit × Unit × (Unit × Unit) × Unit × Unit) × ((Int × Int × Int × Int × Int × Int × Int × Bool × Int × Bool × Unit × Unit × Unit) × (Unit × Unit) × (Int × Int × Int × Int × Int × Int × Int × Bool × Int × Bool × Unit × Unit × Unit) × ((List (List Int)) × Bool × Unit) × Unit))).bind fun x_74 =>
  (g_impl_wordReader_is n [115, 97, 99, 107, 111, 107] x_74.2.2.2.2.1.1 x_74.2.2.2.2.1.2.1).bind fun y_75 =>
  (L1 x_74.1.1 x_74.2.1.1 x_74.2.1.2.1 x_74.2.1.2.2.1 x_74.2.1.2.2.2.1 x_74.2.1.2.2.2.2.1 x_74.2.1.2.2.2.2.2.1 x_74.2.1.2.2.2.2.2.2.1 x_74.2.1.2.2.2.2.2.2.2.1 x_74.2.1.2.2.2.2.2.2.2.2.1 x_74.2.1.2.2.2.2.2.2.2.2.2.1 x_74.2.2.2.1.1 x_74.2.2.2.1.2.1 x_74.2.2.2.1.2.2.1 x_74.2.2.2.1.2.2.2.1 x_74.2.2.2.1.2.2.2.2.1 x_74.2.2.2.1.2.2.2.2.2.1 x_74.2.2.2.1.2.2.2.2.2.2.1 x_74.2.2.2.1.2.2.2.2.2.2.2.1 x_74.2.2.2.1.2.2.2.2.2.2.2.2.1 y_75.1 y_75.2.1.1 y_75.2.1.2.1 []).bind fun x_155 =>
  (g_impl_wordReader_is n [100, 97, 116, 97] x_155.2.2.2.2.1.1 x_155.2.2.2.2.1.2.1).bind fun y_156 =>
  (
    if y_156.1 then
      (g_impl_wordReader_next n y_156.2.1.1 y_156.2.1.2.1).bind fun y_162 =>
      (g_encoding_hex_DecodeString n y_162.1).bind fun y_163 =>
      (
        if y_162.2.1.2.1 then
          some ((x_155.1.1, (), (), (), (), ()), ((x_155.2.1.1, x_155.2.1.2.1, x_155.2.1.2.2.1, x_155.2.1.2.2.2.1, x_155.2.1.2.2.2.2.1, x_155.2.1.2.2.2.2.2.1, x_155.2.1.2.2.2.2.2.2.1, x_155.2.1.2.2.2.2.2.2.2.1, x_155.2.1.2.2.2.2.2.2.2.2.1, x_155.2.1.2.2.2.2.2.2.2.2.2.1, (), (), ()), ((), ()), (x_155.2.2.2.1.1, x_155.2.2.2.1.2.1, x_155.2.2.2.1.2.2.1, x_155.2.2.2.1.2.2.2.1, x_155.2.2.2.1.2.2.2.2.1, x_155.2.2.2.1.2.2.2.2.2.1, x_155.2.2.2.1.2.2.2.2.2.2.1, x_155.2.2.2.1.2.2.2.2.2.2.2.1, x_155.2.2.2.1.2.2.2.2.2.2.2.2.1, x_155.2.2.2.1.2.2.2.2.2.2.2.2.2.1, (), (), ()), y_163.2.1, (y_162.2.1.1, true, ()), x_155.2.2.2.2.2.1, ()))
        else
          some ((x_155.1.1, (), (), (), (), ()), ((x_155.2.1.1, x_155.2.1.2.1, x_155.2.1.2.2.1, x_155.2.1.2.2.2.1, x_155.2.1.2.2.2.2.1, x_155.2.1.2.2.2.2.2.1, x_155.2.1.2.2.2.2.2.2.1, x_155.2.1.2.2.2.2.2.2.2.1, x_155.2.1.2.2.2.2.2.2.2.2.1, x_155.2.1.2.2.2.2.2.2.2.2.2.1, (), (), ()), ((), ()), (x_155.2.2.2.1.1, x_155.2.2.2.1.2.1, x_155.2.2.2.1.2.2.1, x_155.2.2.2.1.2.2.2.1, x_155.2.2.2.1.2.2.2.2.1, x_155.2.2.2.1.2.2.2.2.2.1, x_155.2.2.2.1.2.2.2.2.2.2.1, x_155.2.2.2.1.2.2.2.2.2.2.2.1, x_155.2.2.2.1.2.2.2.2.2.2.2.2.1, x_155.2.2.2.1.2.2.2.2.2.2.2.2.2.1, (), (), ()), y_163.2.1, (y_162.2.1.1, (!y_163.1.2.1), ()), x_155.2.2.2.2.2.1, ()))
        : Option (((List Int) × Unit × Unit × Unit × Unit × Unit) × ((Int × Int × Int × Int × Int × Int × Int × Bool × Int × Bool × Unit × Unit × Unit) × (Unit × Unit) × (Int × Int × Int × Int × Int × Int × Int × Bool × Int × Bool × Unit × Unit × Unit) × (List Int) × ((List (List Int)) × Bool × Unit) × (List (Int × Int × Unit)) × Unit))).bind fun x_166 =>
      some ((x_166.1.1, (), (), (), ()), ((x_166.2.1.1, x_166.2.1.2.1, x_166.2.1.2.2.1, x_166.2.1.2.2.2.1, x_166.2.1.2.2.2.2.1, x_166.2.1.2.2.2.2.2.1, x_166.2.1.2.2.2.2.2.2.1, x_166.2.1.2.2.2.2.2.2.2.1, x_166.2.1.2.2.2.2.2.2.2.2.1, x_166.2.1.2.2.2.2.2.2.2.2.2.1, (), (), ()), ((), ()), (x_166.2.2.2.1.1, x_166.2.2.2.1.2.1, x_166.2.2.2.1.2.2.1, x_166.2.2.2.1.2.2.2.1, x_166.2.2.2.1.2.2.2.2.1, x_166.2.2.2.1.2.2.2.2.2.1, x_166.2.2.2.1.2.2.2.2.2.2.1, x_166.2.2.2.1.2.2.2.2.2.2.2.1, x_166.2.2.2.1.2.2.2.2.2.2.2.2.1, x_166.2.2.2.1.2.2.2.2.2.2.2.2.2.1, (), (), ()), (x_166.2.2.2.2.2.1.1, x_166.2.2.2.2.2.1.2.1, ()), x_166.2.2.2.2.2.2.1, x_166.2.2.2.2.1, ()))
    else
      some ((x_155.1.1, (), (), (), ()), ((x_155.2.1.1, x_155.2.1.2.1, x_155.2.1.2.2.1, x_155.2.1.2.2.2.1, x_155.2.1.2.2.2.2.1, x_155.2.1.2.2.2.2.2.1, x_155.2.1.2.2.2.2.2.2.1, x_155.2.1.2.2.2.2.2.2.2.1, x_155.2.1.2.2.2.2.2.2.2.2.1, x_155.2.1.2.2.2.2.2.2.2.2.2.1, (), (), ()), ((), ()), (x_155.2.2.2.1.1, x_155.2.2.2.1.2.1, x_155.2.2.2.1.2.2.1, x_155.2.2.2.1.2.2.2.1, x_155.2.2.2.1.2.2.2.2.1, x_155.2.2.2.1.2.2.2.2.2.1, x_155.2.2.2.1.2.2.2.2.2.2.1, x_155.2.2.2.1.2.2.2.2.2.2.2.1, x_155.2.2.2.1.2.2.2.2.2.2.2.2.1, x_155.2.2.2.1.2.2.2.2.2.2.2.2.2.1, (), (), ()), (y_156.2.1.1, y_156.2.1.2.1, ()), x_155.2.2.2.2.2.1, [], ()))
    : Option (((List Int) × Unit × Unit × Unit × Unit) × ((Int × Int × Int × Int × Int × Int × Int × Bool × Int × Bool × Unit × Unit × Unit) × (Unit × Unit) × (Int × Int × Int × Int × Int × Int × Int × Bool × Int × Bool × Unit × Unit × Unit) × ((List (List Int)) × Bool × Unit) × (List (Int × Int × Unit)) × (List Int) × Unit))).bind fun x_167 =>
  (g_impl_wordReader_done n x_167.2.2.2.2.1.1 x_167.2.2.2.2.1.2.1).bind fun y_168 =>
  if (!y_168.1) then
    some (((0, 0, 0, 0, 0, 0, 0, false, 0, false, (), (), ()), 6, ()), ([], [], ()))
  else
    (g_impl_ShowSegment n x_167.2.2.2.1.1 x_167.2.2.2.1.2.1 x_167.2.2.2.1.2.2.1 x_167.2.2.2.1.2.2.2.1 x_167.2.2.2.1.2.2.2.2.1 x_167.2.2.2.1.2.2.2.2.2.1 x_167.2.2.2.1.2.2.2.2.2.2.1 x_167.2.2.2.1.2.2.2.2.2.2.2.1 x_167.2.2.2.1.2.2.2.2.2.2.2.2.1 x_167.2.2.2.1.2.2.2.2.2.2.2.2.2.1 x_167.2.2.2.2.2.1 x_167.2.2.2.2.2.2.1).bind fun y_169 =>
    (
      if (y_169.1.2.1 != 0) then
        some (((), (), true, ()), ((x_167.2.1.1, x_167.2.1.2.1, x_167.2.1.2.2.1, x_167.2.1.2.2.2.1, x_167.2.1.2.2.2.2.1, x_167.2.1.2.2.2.2.2.1, x_167.2.1.2.2.2.2.2.2.1, x_167.2.1.2.2.2.2.2.2.2.1, x_167.2.1.2.2.2.2.2.2.2.2.1, x_167.2.1.2.2.2.2.2.2.2.2.2.1, (), (), ()), (x_167.2.2.2.1.1, x_167.2.2.2.1.2.1, x_167.2.2.2.1.2.2.1, x_167.2.2.2.1.2.2.2.1, x_167.2.2.2.1.2.2.2.2.1, x_167.2.2.2.1.2.2.2.2.2.1, x_167.2.2.2.1.2.2.2.2.2.2.1, x_167.2.2.2.1.2.2.2.2.2.2.2.1, x_167.2.2.2.1.2.2.2.2.2.2.2.2.1, x_167.2.2.2.1.2.2.2.2.2.2.2.2.2.1, (), (), ()), x_167.2.2.2.2.2.1, x_167.2.2.2.2.2.2.1, ()))
      else
        some (((), (), (y_169.1.1 != x_167.1.1), ()), ((x_167.2.1.1, x_167.2.1.2.1, x_167.2.1.2.2.1, x_167.2.1.2.2.2.1, x_167.2.1.2.2.2.2.1, x_167.2.1.2.2.2.2.2.1, x_167.2.1.2.2.2.2.2.2.1, x_167.2.1.2.2.2.2.2.2.2.1, x_167.2.1.2.2.2.2.2.2.2.2.1, x_167.2.1.2.2.2.2.2.2.2.2.2.1, (), (), ()), (x_167.2.2.2.1.1, x_167.2.2.2.1.2.1, x_167.2.2.2.1.2.2.1, x_167.2.2.2.1.2.2.2.1, x_167.2.2.2.1.2.2.2.2.1, x_167.2.2.2.1.2.2.2.2.2.1, x_167.2.2.2.1.2.2.2.2.2.2.1, x_167.2.2.2.1.2.2.2.2.2.2.2.1, x_167.2.2.2.1.2.2.2.2.2.2.2.2.1, x_167.2.2.2.1.2.2.2.2.2.2.2.2.2.1, (), (), ()), x_167.2.2.2.2.2.1, x_167.2.2.2.2.2.2.1, ()))
      : Option ((Unit × Unit × Bool × Unit) × ((Int × Int × Int × Int × Int × Int × Int × Bool × Int × Bool × Unit × Unit × Unit) × (Int × Int × Int × Int × Int × Int × Int × Bool × Int × Bool × Unit × Unit × Unit) × (List (Int × Int × Unit)) × (List Int) × Unit))).bind fun x_174 =>
    if x_174.1.2.2.1 then
      some (((0, 0, 0, 0, 0, 0, 0, false, 0, false, (), (), ()), 6, ()), ([], [], ()))
    else
      some (((x_174.2.2.1.1, x_174.2.2.1.2.1, x_174.2.2.1.2.2.1, x_174.2.2.1.2.2.2.1, x_174.2.2.1.2.2.2.2.1, x_174.2.2.1.2.2.2.2.2.1, x_174.2.2.1.2.2.2.2.2.2.1, x_174.2.2.1.2.2.2.2.2.2.2.1, x_174.2.2.1.2.2.2.2.2.2.2.2.1, x_174.2.2.1.2.2.2.2.2.2.2.2.2.1, (), (), ()), 0, ()), (x_174.2.2.2.1, x_174.2.2.2.2.1, ()))

def g_impl_ReadSegment (n : Nat) (text_1 : List Int) : Option (((Int × Int × Int × Int × Int × Int × Int × Bool × Int × Bool × Unit × Unit × Unit) × Int × Unit) × ((List (Int × Int × Unit)) × (List Int) × Unit)) := t_impl_ReadSegment n (l_impl_ReadSegment_0 n n) (l_impl_ReadSegment_1 n n) text_1

def g_laws_lwSame (n : Nat) (a_1 : List Int) (b_2 : List Int) : Option ((Bool) × (Unit)) :=
  some ((a_1 == b_2), ())

def l_laws_lwSegment_0 (n : Nat) : Nat → Int → Int → Int → Int → Int → Int → Int → Int → Bool → Int → Bool → (List (Int × Int × Unit)) → List Int → Int → Int → Int → Int → Int → Int → Int → Bool → Int → Bool → (List (Int × Int × Unit)) → List Int → Option ((Bool) × (Unit) ⊕ ((Unit × Unit × Unit) × ((Int × Int × Int × Int × Int × Int × Int × Bool × Int × Bool × (List (Int × Int × Unit)) × (List Int) × Unit) × (Int × Int × Int × Int × Int × Int × Int × Bool × Int × Bool × (List (Int × Int × Unit)) × (List Int) × Unit) × Unit)))
  | 0, _, _, _, _, _, _, _, _, _, _, _, _, _, _, _, _, _, _, _, _, _, _, _, _, _ => none
  | m + 1, i_78, f0_79, f1_80, f2_81, f3_82, f4_83, f5_84, f6_85, f7_86, f8_87, f9_88, f10_89, f11_90, f0_91, f1_92, f2_93, f3_94, f4_95, f5_96, f6_97, f7_98, f8_99, f9_100, f10_101, f11_102 =>
    if (decide (i_78 < (f10_89.length : Int))) then
      gd (0 ≤ i_78 ∧ i_78 < (f10_89.length : Int)) <|
      let t_104 := f10_89.getD (Int.toNat i_78) (0, (0, ()))
      gd (0 ≤ i_78 ∧ i_78 < (f10_101.length : Int)) <|
      let t_105 := f10_101.getD (Int.toNat i_78) (0, (0, ()))
      if (!((t_104.1 == t_105.1) && ((t_104.2.1 == t_105.2.1) && true))) then
        some (Sum.inl (false, ()))
      else
        l_laws_lwSegment_0 n m (wi64 (i_78 + 1)) f0_79 f1_80 f2_81 f3_82 f4_83 f5_84 f6_85 f7_86 f8_87 f9_88 f10_89 f11_90 f0_91 f1_92 f2_93 f3_94 f4_95 f5_96 f6_97 f7_98 f8_99 f9_100 f10_101 f11_102
    else
      some (Sum.inr (((), (), ()), ((f0_79, f1_80, f2_81, f3_82, f4_83, f5_84, f6_85, f7_86, f8_87, f9_88, f10_89, f11_90, ()), (f0_91, f1_92, f2_93, f3_94, f4_95, f5_96, f6_97, f7_98, f8_99, f9_100, f10_101, f11_102, ()), ())))

def t_laws_lwSegment (n : Nat) (L0 : Int → Int → Int → Int → Int → Int → Int → Int → Bool → Int → Bool → (List (Int × Int × Unit)) → List Int → Int → Int → Int → Int → Int → Int → Int → Bool → Int → Bool → (List (Int × Int × Unit)) → List Int → Option ((Bool) × (Unit) ⊕ ((Unit × Unit × Unit) × ((Int × Int × Int × Int × Int × Int × Int × Bool × Int × Bool × (List (Int × Int × Unit)) × (List Int) × Unit) × (Int × Int × Int × Int × Int × Int × Int × Bool × Int × Bool × (List (Int × Int × Unit)) × (List Int) × Unit) × Unit)))) (a_1 : Int) (a_2 : Int) (a_3 : Int) (a_4 : Int) (a_5 : Int) (a_6 : Int) (a_7 : Int) (a_8 : Bool) (a_9 : Int) (a_10 : Bool) (a_11 : List (Int × Int × Unit)) (a_12 : List Int) (b_13 : Int) (b_14 : Int) (b_15 : Int) (b_16 : Int) (b_17 : Int) (b_18 : Int) (b_19 : Int) (b_20 : Bool) (b_21 : Int) (b_22 : Bool) (b_23 : List (Int × Int × Unit)) (b_24 : List Int) : Option ((Bool) × (Unit)) :=
  (
    if (a_1 != b_13) then
      some (((), (), true, ()), ((a_1, a_2, a_3, a_4, a_5, a_6, a_7, a_8, a_9, a_10, a_11, a_12, ()), (b_13, b_14, b_15, b_16, b_17, b_18, b_19, b_20, b_21, b_22, b_23, b_24, ()), ()))
    else
      if (a_2 != b_14) then
        some (((), (), true, ()), ((a_1, a_2, a_3, a_4, a_5, a_6, a_7, a_8, a_9, a_10, a_11, a_12, ()), (b_13, b_14, b_15, b_16, b_17, b_18, b_19, b_20, b_21, b_22, b_23, b_24, ()), ()))
      else
        if (a_3 != b_15) then
          some (((), (), true, ()), ((a_1, a_2, a_3, a_4, a_5, a_6, a_7, a_8, a_9, a_10, a_11, a_12, ()), (b_13, b_14, b_15, b_16, b_17, b_18, b_19, b_20, b_21, b_22, b_23, b_24, ()), ()))
        else
          if (a_4 != b_16) then
            some (((), (), true, ()), ((a_1, a_2, a_3, a_4, a_5, a_6, a_7, a_8, a_9, a_10, a_11, a_12, ()), (b_13, b_14, b_15, b_16, b_17, b_18, b_19, b_20, b_21, b_22, b_23, b_24, ()), ()))
          else
            if (a_5 != b_17) then
              some (((), (), true, ()), ((a_1, a_2, a_3, a_4, a_5, a_6, a_7, a_8, a_9, a_10, a_11, a_12, ()), (b_13, b_14, b_15, b_16, b_17, b_18, b_19, b_20, b_21, b_22, b_23, b_24, ()), ()))
            else
              if (a_6 != b_18) then
                some (((), (), true, ()), ((a_1, a_2, a_3, a_4, a_5, a_6, a_7, a_8, a_9, a_10, a_11, a_12, ()), (b_13, b_14, b_15, b_16, b_17, b_18, b_19, b_20, b_21, b_22, b_23, b_24, ()), ()))
              else
                if (a_7 != b_19) then
                  some (((), (), true, ()), ((a_1, a_2, a_3, a_4, a_5, a_6, a_7, a_8, a_9, a_10, a_11, a_12, ()), (b_13, b_14, b_15, b_16, b_17, b_18, b_19, b_20, b_21, b_22, b_23, b_24, ()), ()))
                else
                  if (!(a_8 == b_20)) then
                    some (((), (), true, ()), ((a_1, a_2, a_3, a_4, a_5, a_6, a_7, a_8, a_9, a_10, a_11, a_12, ()), (b_13, b_14, b_15, b_16, b_17, b_18, b_19, b_20, b_21, b_22, b_23, b_24, ()), ()))
                  else
                    if (a_9 != b_21) then
                      some (((), (), true, ()), ((a_1, a_2, a_3, a_4, a_5, a_6, a_7, a_8, a_9, a_10, a_11, a_12, ()), (b_13, b_14, b_15, b_16, b_17, b_18, b_19, b_20, b_21, b_22, b_23, b_24, ()), ()))
                    else
                      if (!(a_10 == b_22)) then
                        some (((), (), true, ()), ((a_1, a_2, a_3, a_4, a_5, a_6, a_7, a_8, a_9, a_10, a_11, a_12, ()), (b_13, b_14, b_15, b_16, b_17, b_18, b_19, b_20, b_21, b_22, b_23, b_24, ()), ()))
                      else
                        some (((), (), ((a_11.length : Int) != (b_23.length : Int)), ()), ((a_1, a_2, a_3, a_4, a_5, a_6, a_7, a_8, a_9, a_10, a_11, a_12, ()), (b_13, b_14, b_15, b_16, b_17, b_18, b_19, b_20, b_21, b_22, b_23, b_24, ()), ()))
    : Option ((Unit × Unit × Bool × Unit) × ((Int × Int × Int × Int × Int × Int × Int × Bool × Int × Bool × (List (Int × Int × Unit)) × (List Int) × Unit) × (Int × Int × Int × Int × Int × Int × Int × Bool × Int × Bool × (List (Int × Int × Unit)) × (List Int) × Unit) × Unit))).bind fun x_47 =>
  if x_47.1.2.2.1 then
    some (false, ())
  else
    sbind (L0 0 x_47.2.1.1 x_47.2.1.2.1 x_47.2.1.2.2.1 x_47.2.1.2.2.2.1 x_47.2.1.2.2.2.2.1 x_47.2.1.2.2.2.2.2.1 x_47.2.1.2.2.2.2.2.2.1 x_47.2.1.2.2.2.2.2.2.2.1 x_47.2.1.2.2.2.2.2.2.2.2.1 x_47.2.1.2.2.2.2.2.2.2.2.2.1 x_47.2.1.2.2.2.2.2.2.2.2.2.2.1 x_47.2.1.2.2.2.2.2.2.2.2.2.2.2.1 x_47.2.2.1.1 x_47.2.2.1.2.1 x_47.2.2.1.2.2.1 x_47.2.2.1.2.2.2.1 x_47.2.2.1.2.2.2.2.1 x_47.2.2.1.2.2.2.2.2.1 x_47.2.2.1.2.2.2.2.2.2.1 x_47.2.2.1.2.2.2.2.2.2.2.1 x_47.2.2.1.2.2.2.2.2.2.2.2.1 x_47.2.2.1.2.2.2.2.2.2.2.2.2.1 x_47.2.2.1.2.2.2.2.2.2.2.2.2.2.1 x_47.2.2.1.2.2.2.2.2.2.2.2.2.2.2.1) fun x_108 =>
    (g_laws_lwSame n x_108.2.1.2.2.2.2.2.2.2.2.2.2.2.1 x_108.2.2.1.2.2.2.2.2.2.2.2.2.2.2.1).bind fun y_109 =>
    some (y_109.1, ())

def g_laws_lwSegment (n : Nat) (a_1 : Int) (a_2 : Int) (a_3 : Int) (a_4 : Int) (a_5 : Int) (a_6 : Int) (a_7 : Int) (a_8 : Bool) (a_9 : Int) (a_10 : Bool) (a_11 : List (Int × Int × Unit)) (a_12 : List Int) (b_13 : Int) (b_14 : Int) (b_15 : Int) (b_16 : Int) (b_17 : Int) (b_18 : Int) (b_19 : Int) (b_20 : Bool) (b_21 : Int) (b_22 : Bool) (b_23 : List (Int × Int × Unit)) (b_24 : List Int) : Option ((Bool) × (Unit)) := t_laws_lwSegment n (l_laws_lwSegment_0 n n) a_1 a_2 a_3 a_4 a_5 a_6 a_7 a_8 a_9 a_10 a_11 a_12 b_13 b_14 b_15 b_16 b_17 b_18 b_19 b_20 b_21 b_22 b_23 b_24

def g_spec_DrawReadSegment (n : Nat) (code_1 : List Int) : Option ((List Int) × (Unit)) :=
  (g_spec_l01Begin n code_1).bind fun y_2 =>
  (g_spec_l11Draw n 12 y_2.1.1 y_2.1.2.1 y_2.1.2.2.1).bind fun y_3 =>
  (g_spec_ShowSegment n y_3.1.1 y_3.1.2.1 y_3.1.2.2.1 y_3.1.2.2.2.1 y_3.1.2.2.2.2.1 y_3.1.2.2.2.2.2.1 y_3.1.2.2.2.2.2.2.1 y_3.1.2.2.2.2.2.2.2.1 y_3.1.2.2.2.2.2.2.2.2.1 y_3.1.2.2.2.2.2.2.2.2.2.1 y_3.2.1 y_3.2.2.1).bind fun y_4 =>
  (g_spec_l01Next n 3 y_3.2.2.2.1.1 y_3.2.2.2.1.2.1 y_3.2.2.2.1.2.2.1).bind fun y_5 =>
  if (decide (y_5.1 > 0)) then
    some (y_4.1.1, ())
  else
    (g_spec_l01Next n (wi64 ((y_4.1.1.length : Int) + 1)) y_5.2.1.1 y_5.2.1.2.1 y_5.2.1.2.2.1).bind fun y_8 =>
    (g_spec_l01Next n 13 y_8.2.1.1 y_8.2.1.2.1 y_8.2.1.2.2.1).bind fun y_9 =>
    (
      (g_spec_l01Bool n y_9.2.1.1 y_9.2.1.2.1 y_9.2.1.2.2.1).bind fun y_12 =>
      if y_12.1 then
        some ((y_4.1.1, y_8.1, [48, 32, 62, 45, 83, 115, 97, 99, 107, 100, 116, 57, 102], y_9.1, true, ()), ())
      else
        some ((y_4.1.1, y_8.1, [48, 32, 62, 45, 83, 115, 97, 99, 107, 100, 116, 57, 102], y_9.1, (y_8.1 == (y_4.1.1.length : Int)), ()), ())
      : Option (((List Int) × Int × (List Int) × Int × Bool × Unit) × (Unit))).bind fun x_14 =>
    if x_14.1.2.2.2.2.1 then
      gd (0 ≤ (0 : Int) ∧ (0 : Int) ≤ x_14.1.2.1 ∧ x_14.1.2.1 ≤ (x_14.1.1.length : Int)) <|
      let t_15 := cutL x_14.1.1 0 x_14.1.2.1
      let t_16 := wi64 (x_14.1.2.2.2.1 + 1)
      gd (0 ≤ x_14.1.2.2.2.1 ∧ x_14.1.2.2.2.1 ≤ t_16 ∧ t_16 ≤ (x_14.1.2.2.1.length : Int)) <|
      let t_17 := cutL x_14.1.2.2.1 x_14.1.2.2.2.1 t_16
      gd (t_15.length + t_17.length ≤ lim) <|
      let t_18 := t_15 ++ t_17
      gd (0 ≤ x_14.1.2.1 ∧ x_14.1.2.1 ≤ (x_14.1.1.length : Int) ∧ (x_14.1.1.length : Int) ≤ (x_14.1.1.length : Int)) <|
      let t_19 := cutL x_14.1.1 x_14.1.2.1 (x_14.1.1.length : Int)
      gd (t_18.length + t_19.length ≤ lim) <|
      some ((t_18 ++ t_19), ())
    else
      gd (0 ≤ (0 : Int) ∧ (0 : Int) ≤ x_14.1.2.1 ∧ x_14.1.2.1 ≤ (x_14.1.1.length : Int)) <|
      let t_21 := cutL x_14.1.1 0 x_14.1.2.1
      let t_22 := wi64 (x_14.1.2.2.2.1 + 1)
      gd (0 ≤ x_14.1.2.2.2.1 ∧ x_14.1.2.2.2.1 ≤ t_22 ∧ t_22 ≤ (x_14.1.2.2.1.length : Int)) <|
      let t_23 := cutL x_14.1.2.2.1 x_14.1.2.2.2.1 t_22
      gd (t_21.length + t_23.length ≤ lim) <|
      let t_24 := t_21 ++ t_23
      let t_25 := wi64 (x_14.1.2.1 + 1)
      gd (0 ≤ t_25 ∧ t_25 ≤ (x_14.1.1.length : Int) ∧ (x_14.1.1.length : Int) ≤ (x_14.1.1.length : Int)) <|
      let t_26 := cutL x_14.1.1 t_25 (x_14.1.1.length : Int)
      gd (t_24.length + t_26.length ≤ lim) <|
      some ((t_24 ++ t_26), ())

def l_spec_l02Cut_0 (n : Nat) : Nat → List Int → Int → Int → Int → List (List Int) → Option (((List Int) × Unit × Int × Unit) × ((List (List Int)) × Unit))
  | 0, _, _, _, _, _ => none
  | m + 1, text_16, at_17, from_18, i_19, a_20 =>
    if (decide (i_19 < (text_16.length : Int))) then
      gd (0 ≤ i_19 ∧ i_19 < (text_16.length : Int)) <|
      if ((text_16.getD (Int.toNat i_19) 0) == at_17) then
        gd (0 ≤ from_18 ∧ from_18 ≤ i_19 ∧ i_19 ≤ (text_16.length : Int)) <|
        let t_24 := cutL text_16 from_18 i_19
        gd (a_20.length + ([t_24] : List (List Int)).length ≤ lim) <|
        l_spec_l02Cut_0 n m text_16 at_17 (wi64 (i_19 + 1)) (wi64 (i_19 + 1)) (a_20 ++ [t_24])
      else
        l_spec_l02Cut_0 n m text_16 at_17 from_18 (wi64 (i_19 + 1)) a_20
    else
      some ((text_16, (), from_18, ()), (a_20, ()))

def t_spec_l02Cut (n : Nat) (L0 : List Int → Int → Int → Int → List (List Int) → Option (((List Int) × Unit × Int × Unit) × ((List (List Int)) × Unit))) (text_1 : List Int) (at_2 : Int) : Option ((Unit) × ((List (List Int)) × Unit)) :=
  (L0 text_1 at_2 0 0 []).bind fun x_29 =>
  gd (0 ≤ x_29.1.2.2.1 ∧ x_29.1.2.2.1 ≤ (x_29.1.1.length : Int) ∧ (x_29.1.1.length : Int) ≤ (x_29.1.1.length : Int)) <|
  let t_30 := cutL x_29.1.1 x_29.1.2.2.1 (x_29.1.1.length : Int)
  gd (x_29.2.1.length + ([t_30] : List (List Int)).length ≤ lim) <|
  some ((), ((x_29.2.1 ++ [t_30]), ()))

def g_spec_l02Cut (n : Nat) (text_1 : List Int) (at_2 : Int) : Option ((Unit) × ((List (List Int)) × Unit)) := t_spec_l02Cut n (l_spec_l02Cut_0 n n) text_1 at_2

def l_spec_l02Number_0 (n : Nat) : Nat → List Int → Int → Int → Option ((Int × Bool × Unit) × (Unit) ⊕ (((List Int) × Int × Unit) × (Unit)))
  | 0, _, _, _ => none
  | m + 1, s_27, n_28, i_29 =>
    if (decide (i_29 < (s_27.length : Int))) then
      (
        gd (0 ≤ i_29 ∧ i_29 < (s_27.length : Int)) <|
        if (decide ((s_27.getD (Int.toNat i_29) 0) < 48)) then
          some ((s_27, n_28, i_29, true, ()), ())
        else
          gd (0 ≤ i_29 ∧ i_29 < (s_27.length : Int)) <|
          some ((s_27, n_28, i_29, (decide ((s_27.getD (Int.toNat i_29) 0) > 57)), ()), ())
        : Option (((List Int) × Int × Int × Bool × Unit) × (Unit))).bind fun x_39 =>
      if x_39.1.2.2.2.1 then
        some (Sum.inl ((0, false, ()), ()))
      else
        gd (0 ≤ x_39.1.2.2.1 ∧ x_39.1.2.2.1 < (x_39.1.1.length : Int)) <|
        l_spec_l02Number_0 n m x_39.1.1 (wi64 ((wi64 (x_39.1.2.1 * 10)) + (wi64 (wu8 ((x_39.1.1.getD (Int.toNat x_39.1.2.2.1) 0) - 48))))) (wi64 (x_39.1.2.2.1 + 1))
    else
      some (Sum.inr ((s_27, n_28, ()), ()))

def t_spec_l02Number (n : Nat) (L0 : List Int → Int → Int → Option ((Int × Bool × Unit) × (Unit) ⊕ (((List Int) × Int × Unit) × (Unit)))) (s_1 : List Int) (most_2 : Int) : Option ((Int × Bool × Unit) × (Unit)) :=
  (
    if (decide ((s_1.length : Int) < 1)) then
      some ((s_1, true, ()), ())
    else
      some ((s_1, (decide ((s_1.length : Int) > most_2)), ()), ())
    : Option (((List Int) × Bool × Unit) × (Unit))).bind fun x_7 =>
  if x_7.1.2.1 then
    some ((0, false, ()), ())
  else
    sbind (L0 x_7.1.1 0 0) fun x_46 =>
    (g_spec_l02Dec n x_46.1.2.1).bind fun y_47 =>
    some ((x_46.1.2.1, (y_47.1 == x_46.1.1), ()), ())

def g_spec_l02Number (n : Nat) (s_1 : List Int) (most_2 : Int) : Option ((Int × Bool × Unit) × (Unit)) := t_spec_l02Number n (l_spec_l02Number_0 n n) s_1 most_2

def g_spec_l11Pair (n : Nat) (w_1 : List Int) (at_2 : Int) (most_3 : Int) : Option ((Int × Int × Bool × Unit) × (Unit)) :=
  (g_spec_l02Cut n w_1 at_2).bind fun y_4 =>
  if ((y_4.2.1.length : Int) != 2) then
    some ((0, 0, false, ()), ())
  else
    gd (0 ≤ (0 : Int) ∧ (0 : Int) < (y_4.2.1.length : Int)) <|
    (g_spec_l02Number n (y_4.2.1.getD (Int.toNat (0 : Int)) []) most_3).bind fun y_7 =>
    gd (0 ≤ (1 : Int) ∧ (1 : Int) < (y_4.2.1.length : Int)) <|
    (g_spec_l02Number n (y_4.2.1.getD (Int.toNat (1 : Int)) []) most_3).bind fun y_9 =>
    if y_7.1.2.1 then
      some ((y_7.1.1, y_9.1.1, y_9.1.2.1, ()), ())
    else
      some ((y_7.1.1, y_9.1.1, false, ()), ())

def l_spec_l11Flags_1 (n : Nat) : Nat → List Int → Int → Int → Int → Option (((List Int) × Int × Int × Unit) × (Unit))
  | 0, _, _, _, _ => none
  | m + 1, w_48, n_49, i_50, k_51 =>
    if (decide (k_51 < (w_48.length : Int))) then
      gd (0 ≤ k_51 ∧ k_51 < (w_48.length : Int)) <|
      gd (0 ≤ i_50 ∧ i_50 < (6 : Int)) <|
      if ((w_48.getD (Int.toNat k_51) 0) == (([83, 70, 82, 80, 65, 85] : List Int).getD (Int.toNat i_50) 0)) then
        (g_spec_l11Bit n i_50).bind fun y_56 =>
        l_spec_l11Flags_1 n m w_48 (ior .i64 n_49 y_56.1) i_50 (wi64 (k_51 + 1))
      else
        l_spec_l11Flags_1 n m w_48 n_49 i_50 (wi64 (k_51 + 1))
    else
      some ((w_48, n_49, i_50, ()), ())

def s_spec_l11Flags_0 (n : Nat) (L1 : List Int → Int → Int → Int → Option (((List Int) × Int × Int × Unit) × (Unit))) (lp : List Int → Int → Int → Option ((Int × Unit) × (Unit))) (w_32 : List Int) (n_33 : Int) (i_34 : Int) : Option ((Int × Unit) × (Unit)) :=
  if (decide (i_34 < 6)) then
    (L1 w_32 n_33 i_34 0).bind fun x_60 =>
    lp x_60.1.1 x_60.1.2.1 (wi64 (x_60.1.2.2.1 + 1))
  else
    some ((n_33, ()), ())

def l_spec_l11Flags_0 (n : Nat) : Nat → List Int → Int → Int → Option ((Int × Unit) × (Unit))
  | 0, _, _, _ => none
  | m + 1, w_32, n_33, i_34 => s_spec_l11Flags_0 n (l_spec_l11Flags_1 n n) (l_spec_l11Flags_0 n m) w_32 n_33 i_34

def t_spec_l11Flags (n : Nat) (L0 : List Int → Int → Int → Option ((Int × Unit) × (Unit))) (w_1 : List Int) : Option ((Int) × (Unit)) :=
  (L0 w_1 0 0).bind fun x_62 =>
  some (x_62.1.1, ())

def g_spec_l11Flags (n : Nat) (w_1 : List Int) : Option ((Int) × (Unit)) := t_spec_l11Flags n (l_spec_l11Flags_0 n n) w_1

def g_spec_l02Hex (n : Nat) (c_1 : Int) : Option ((Int) × (Unit)) :=
  (
    if (decide (c_1 ≥ 48)) then
      some ((c_1, (decide (c_1 ≤ 57)), ()), ())
    else
      some ((c_1, false, ()), ())
    : Option ((Int × Bool × Unit) × (Unit))).bind fun x_6 =>
  if x_6.1.2.1 then
    some ((wi64 (wu8 (x_6.1.1 - 48))), ())
  else
    (
      if (decide (x_6.1.1 ≥ 97)) then
        some ((x_6.1.1, (decide (x_6.1.1 ≤ 102)), ()), ())
      else
        some ((x_6.1.1, false, ()), ())
      : Option ((Int × Bool × Unit) × (Unit))).bind fun x_13 =>
    if x_13.1.2.1 then
      some ((wi64 ((wi64 (wu8 (x_13.1.1 - 97))) + 10)), ())
    else
      (
        if (decide (x_13.1.1 ≥ 65)) then
          some ((x_13.1.1, (decide (x_13.1.1 ≤ 70)), ()), ())
        else
          some ((x_13.1.1, false, ()), ())
        : Option ((Int × Bool × Unit) × (Unit))).bind fun x_21 =>
      if x_21.1.2.1 then
        some ((wi64 ((wi64 (wu8 (x_21.1.1 - 65))) + 10)), ())
      else
        some ((-1), ())

def l_spec_l11Unhex_0 (n : Nat) : Nat → List Int → Int → List Int → Option ((Unit × Unit) × ((List Int) × Unit))
  | 0, _, _, _ => none
  | m + 1, w_17, i_18, a_19 =>
    if (decide ((wi64 (i_18 + 1)) < (w_17.length : Int))) then
      gd (0 ≤ i_18 ∧ i_18 < (w_17.length : Int)) <|
      (g_spec_l02Hex n (w_17.getD (Int.toNat i_18) 0)).bind fun y_23 =>
      let t_25 := wi64 (i_18 + 1)
      gd (0 ≤ t_25 ∧ t_25 < (w_17.length : Int)) <|
      (g_spec_l02Hex n (w_17.getD (Int.toNat t_25) 0)).bind fun y_27 =>
      let t_29 := wu8 (wi64 ((wi64 (y_23.1 * 16)) + y_27.1))
      gd (a_19.length + ([t_29] : List Int).length ≤ lim) <|
      l_spec_l11Unhex_0 n m w_17 (wi64 (i_18 + 2)) (a_19 ++ [t_29])
    else
      some (((), ()), (a_19, ()))

def t_spec_l11Unhex (n : Nat) (L0 : List Int → Int → List Int → Option ((Unit × Unit) × ((List Int) × Unit))) (w_1 : List Int) : Option ((Unit) × ((List Int) × Unit)) :=
  (L0 w_1 0 []).bind fun x_32 =>
  some ((), (x_32.2.1, ()))

def g_spec_l11Unhex (n : Nat) (w_1 : List Int) : Option ((Unit) × ((List Int) × Unit)) := t_spec_l11Unhex n (l_spec_l11Unhex_0 n n) w_1

def l_spec_ReadSegment_0 (n : Nat) : Nat → List Int → Int → Int → Int → Int → Int → Int → Int → Int → Bool → Int → Bool → List (List Int) → Int → Int → Int → Int → Int → Int → Int → Bool → Int → Bool → (List (Int × Int × Unit)) → List Int → Option (((List Int) × Unit × Unit × Unit) × ((Int × Int × Int × Int × Int × Int × Int × Bool × Int × Bool × Unit × Unit × Unit) × (Int × Int × Int × Int × Int × Int × Int × Bool × Int × Bool × Unit × Unit × Unit) × (List (Int × Int × Unit)) × (List Int) × Unit))
  | 0, _, _, _, _, _, _, _, _, _, _, _, _, _, _, _, _, _, _, _, _, _, _, _, _, _ => none
  | m + 1, text_112, i_113, f0_114, f1_115, f2_116, f3_117, f4_118, f5_119, f6_120, f7_121, f8_122, f9_123, a_124, f0_125, f1_126, f2_127, f3_128, f4_129, f5_130, f6_131, f7_132, f8_133, f9_134, a_135, a_136 =>
    if (decide (i_113 < (a_124.length : Int))) then
      (
        if (decide ((wi64 (i_113 + 1)) < (a_124.length : Int))) then
          let t_142 := wi64 (i_113 + 1)
          gd (0 ≤ t_142 ∧ t_142 < (a_124.length : Int)) <|
          some ((text_112, (), (), (), i_113, (a_124.getD (Int.toNat t_142) []), ()), ((f0_114, f1_115, f2_116, f3_117, f4_118, f5_119, f6_120, f7_121, f8_122, f9_123, (), (), ()), a_124, (f0_125, f1_126, f2_127, f3_128, f4_129, f5_130, f6_131, f7_132, f8_133, f9_134, (), (), ()), a_135, a_136, ()))
        else
          some ((text_112, (), (), (), i_113, [], ()), ((f0_114, f1_115, f2_116, f3_117, f4_118, f5_119, f6_120, f7_121, f8_122, f9_123, (), (), ()), a_124, (f0_125, f1_126, f2_127, f3_128, f4_129, f5_130, f6_131, f7_132, f8_133, f9_134, (), (), ()), a_135, a_136, ()))
        : Option (((List Int) × Unit × Unit × Unit × Int × (List Int) × Unit) × ((Int × Int × Int × Int × Int × Int × Int × Bool × Int × Bool × Unit × Unit × Unit) × (List (List Int)) × (Int × Int × Int × Int × Int × Int × Int × Bool × Int × Bool × Unit × Unit × Unit) × (List (Int × Int × Unit)) × (List Int) × Unit))).bind fun x_144 =>
      gd (0 ≤ x_144.1.2.2.2.2.1 ∧ x_144.1.2.2.2.2.1 < (x_144.2.2.1.length : Int)) <|
      let t_145 := x_144.2.2.1.getD (Int.toNat x_144.1.2.2.2.2.1) []
      if (t_145 == ([109, 115, 115] : List Int)) then
        (g_spec_l02Number n x_144.1.2.2.2.2.2.1 5).bind fun y_147 =>
        l_spec_ReadSegment_0 n m x_144.1.1 (wi64 (x_144.1.2.2.2.2.1 + 1)) x_144.2.1.1 x_144.2.1.2.1 x_144.2.1.2.2.1 x_144.2.1.2.2.2.1 x_144.2.1.2.2.2.2.1 x_144.2.1.2.2.2.2.2.1 x_144.2.1.2.2.2.2.2.2.1 x_144.2.1.2.2.2.2.2.2.2.1 x_144.2.1.2.2.2.2.2.2.2.2.1 x_144.2.1.2.2.2.2.2.2.2.2.2.1 x_144.2.2.1 x_144.2.2.2.1.1 x_144.2.2.2.1.2.1 x_144.2.2.2.1.2.2.1 x_144.2.2.2.1.2.2.2.1 x_144.2.2.2.1.2.2.2.2.1 x_144.2.2.2.1.2.2.2.2.2.1 y_147.1.1 x_144.2.2.2.1.2.2.2.2.2.2.2.1 x_144.2.2.2.1.2.2.2.2.2.2.2.2.1 x_144.2.2.2.1.2.2.2.2.2.2.2.2.2.1 x_144.2.2.2.2.1 x_144.2.2.2.2.2.1
      else
        if (t_145 == ([115, 99, 97, 108, 101] : List Int)) then
          (g_spec_l02Number n x_144.1.2.2.2.2.2.1 2).bind fun y_150 =>
          l_spec_ReadSegment_0 n m x_144.1.1 (wi64 (x_144.1.2.2.2.2.1 + 1)) x_144.2.1.1 x_144.2.1.2.1 x_144.2.1.2.2.1 x_144.2.1.2.2.2.1 x_144.2.1.2.2.2.2.1 x_144.2.1.2.2.2.2.2.1 x_144.2.1.2.2.2.2.2.2.1 x_144.2.1.2.2.2.2.2.2.2.1 x_144.2.1.2.2.2.2.2.2.2.2.1 x_144.2.1.2.2.2.2.2.2.2.2.2.1 x_144.2.2.1 x_144.2.2.2.1.1 x_144.2.2.2.1.2.1 x_144.2.2.2.1.2.2.1 x_144.2.2.2.1.2.2.2.1 x_144.2.2.2.1.2.2.2.2.1 x_144.2.2.2.1.2.2.2.2.2.1 x_144.2.2.2.1.2.2.2.2.2.2.1 true y_150.1.1 x_144.2.2.2.1.2.2.2.2.2.2.2.2.2.1 x_144.2.2.2.2.1 x_144.2.2.2.2.2.1
        else
          if (t_145 == ([115, 97, 99, 107, 111, 107] : List Int)) then
            l_spec_ReadSegment_0 n m x_144.1.1 (wi64 (x_144.1.2.2.2.2.1 + 1)) x_144.2.1.1 x_144.2.1.2.1 x_144.2.1.2.2.1 x_144.2.1.2.2.2.1 x_144.2.1.2.2.2.2.1 x_144.2.1.2.2.2.2.2.1 x_144.2.1.2.2.2.2.2.2.1 x_144.2.1.2.2.2.2.2.2.2.1 x_144.2.1.2.2.2.2.2.2.2.2.1 x_144.2.1.2.2.2.2.2.2.2.2.2.1 x_144.2.2.1 x_144.2.2.2.1.1 x_144.2.2.2.1.2.1 x_144.2.2.2.1.2.2.1 x_144.2.2.2.1.2.2.2.1 x_144.2.2.2.1.2.2.2.2.1 x_144.2.2.2.1.2.2.2.2.2.1 x_144.2.2.2.1.2.2.2.2.2.2.1 x_144.2.2.2.1.2.2.2.2.2.2.2.1 x_144.2.2.2.1.2.2.2.2.2.2.2.2.1 true x_144.2.2.2.2.1 x_144.2.2.2.2.2.1
          else
            if (t_145 == ([115, 97, 99, 107] : List Int)) then
              (g_spec_l11Pair n x_144.1.2.2.2.2.2.1 45 10).bind fun y_155 =>
              gd (x_144.2.2.2.2.1.length + ([(y_155.1.1, (y_155.1.2.1, ()))] : List (Int × Int × Unit)).length ≤ lim) <|
              l_spec_ReadSegment_0 n m x_144.1.1 (wi64 (x_144.1.2.2.2.2.1 + 1)) x_144.2.1.1 x_144.2.1.2.1 x_144.2.1.2.2.1 x_144.2.1.2.2.2.1 x_144.2.1.2.2.2.2.1 x_144.2.1.2.2.2.2.2.1 x_144.2.1.2.2.2.2.2.2.1 x_144.2.1.2.2.2.2.2.2.2.1 x_144.2.1.2.2.2.2.2.2.2.2.1 x_144.2.1.2.2.2.2.2.2.2.2.2.1 x_144.2.2.1 x_144.2.2.2.1.1 x_144.2.2.2.1.2.1 x_144.2.2.2.1.2.2.1 x_144.2.2.2.1.2.2.2.1 x_144.2.2.2.1.2.2.2.2.1 x_144.2.2.2.1.2.2.2.2.2.1 x_144.2.2.2.1.2.2.2.2.2.2.1 x_144.2.2.2.1.2.2.2.2.2.2.2.1 x_144.2.2.2.1.2.2.2.2.2.2.2.2.1 x_144.2.2.2.1.2.2.2.2.2.2.2.2.2.1 (x_144.2.2.2.2.1 ++ [(y_155.1.1, (y_155.1.2.1, ()))]) x_144.2.2.2.2.2.1
            else
              if (t_145 == ([100, 97, 116, 97] : List Int)) then
                (g_spec_l11Unhex n x_144.1.2.2.2.2.2.1).bind fun y_159 =>
                l_spec_ReadSegment_0 n m x_144.1.1 (wi64 (x_144.1.2.2.2.2.1 + 1)) x_144.2.1.1 x_144.2.1.2.1 x_144.2.1.2.2.1 x_144.2.1.2.2.2.1 x_144.2.1.2.2.2.2.1 x_144.2.1.2.2.2.2.2.1 x_144.2.1.2.2.2.2.2.2.1 x_144.2.1.2.2.2.2.2.2.2.1 x_144.2.1.2.2.2.2.2.2.2.2.1 x_144.2.1.2.2.2.2.2.2.2.2.2.1 x_144.2.2.1 x_144.2.2.2.1.1 x_144.2.2.2.1.2.1 x_144.2.2.2.1.2.2.1 x_144.2.2.2.1.2.2.2.1 x_144.2.2.2.1.2.2.2.2.1 x_144.2.2.2.1.2.2.2.2.2.1 x_144.2.2.2.1.2.2.2.2.2.2.1 x_144.2.2.2.1.2.2.2.2.2.2.2.1 x_144.2.2.2.1.2.2.2.2.2.2.2.2.1 x_144.2.2.2.1.2.2.2.2.2.2.2.2.2.1 x_144.2.2.2.2.1 y_159.2.1
              else
                l_spec_ReadSegment_0 n m x_144.1.1 (wi64 (x_144.1.2.2.2.2.1 + 1)) x_144.2.1.1 x_144.2.1.2.1 x_144.2.1.2.2.1 x_144.2.1.2.2.2.1 x_144.2.1.2.2.2.2.1 x_144.2.1.2.2.2.2.2.1 x_144.2.1.2.2.2.2.2.2.1 x_144.2.1.2.2.2.2.2.2.2.1 x_144.2.1.2.2.2.2.2.2.2.2.1 x_144.2.1.2.2.2.2.2.2.2.2.2.1 x_144.2.2.1 x_144.2.2.2.1.1 x_144.2.2.2.1.2.1 x_144.2.2.2.1.2.2.1 x_144.2.2.2.1.2.2.2.1 x_144.2.2.2.1.2.2.2.2.1 x_144.2.2.2.1.2.2.2.2.2.1 x_144.2.2.2.1.2.2.2.2.2.2.1 x_144.2.2.2.1.2.2.2.2.2.2.2.1 x_144.2.2.2.1.2.2.2.2.2.2.2.2.1 x_144.2.2.2.1.2.2.2.2.2.2.2.2.2.1 x_144.2.2.2.2.1 x_144.2.2.2.2.2.1
    else
      some ((text_112, (), (), ()), ((f0_114, f1_115, f2_116, f3_117, f4_118, f5_119, f6_120, f7_121, f8_122, f9_123, (), (), ()), (f0_125, f1_126, f2_127, f3_128, f4_129, f5_130, f6_131, f7_132, f8_133, f9_134, (), (), ()), a_135, a_136, ()))

def t_spec_ReadSegment (n : Nat) (L0 : List Int → Int → Int → Int → Int → Int → Int → Int → Int → Bool → Int → Bool → List (List Int) → Int → Int → Int → Int → Int → Int → Int → Bool → Int → Bool → (List (Int × Int × Unit)) → List Int → Option (((List Int) × Unit × Unit × Unit) × ((Int × Int × Int × Int × Int × Int × Int × Bool × Int × Bool × Unit × Unit × Unit) × (Int × Int × Int × Int × Int × Int × Int × Bool × Int × Bool × Unit × Unit × Unit) × (List (Int × Int × Unit)) × (List Int) × Unit))) (text_1 : List Int) : Option (((Int × Int × Int × Int × Int × Int × Int × Bool × Int × Bool × Unit × Unit × Unit) × Int × Unit) × ((List (Int × Int × Unit)) × (List Int) × Unit)) :=
  if (decide ((text_1.length : Int) > 9000)) then
    some (((0, 0, 0, 0, 0, 0, 0, false, 0, false, (), (), ()), 6, ()), ([], [], ()))
  else
    (g_spec_l02Cut n text_1 32).bind fun y_3 =>
    if (decide ((y_3.2.1.length : Int) < 5)) then
      some (((0, 0, 0, 0, 0, 0, 0, false, 0, false, (), (), ()), 6, ()), ([], [], ()))
    else
      gd (0 ≤ (0 : Int) ∧ (0 : Int) < (y_3.2.1.length : Int)) <|
      (g_spec_l11Pair n (y_3.2.1.getD (Int.toNat (0 : Int)) []) 62 5).bind fun y_6 =>
      gd (0 ≤ (2 : Int) ∧ (2 : Int) < (y_3.2.1.length : Int)) <|
      (g_spec_l02Number n (y_3.2.1.getD (Int.toNat (2 : Int)) []) 10).bind fun y_8 =>
      gd (0 ≤ (3 : Int) ∧ (3 : Int) < (y_3.2.1.length : Int)) <|
      (g_spec_l02Number n (y_3.2.1.getD (Int.toNat (3 : Int)) []) 10).bind fun y_10 =>
      gd (0 ≤ (4 : Int) ∧ (4 : Int) < (y_3.2.1.length : Int)) <|
      (g_spec_l02Number n (y_3.2.1.getD (Int.toNat (4 : Int)) []) 5).bind fun y_12 =>
      gd (0 ≤ (1 : Int) ∧ (1 : Int) < (y_3.2.1.length : Int)) <|
      (g_spec_l11Flags n (y_3.2.1.getD (Int.toNat (1 : Int)) [])).bind fun y_14 =>
      (L0 text_1 5 0 0 0 0 0 0 0 false 0 false y_3.2.1 y_6.1.1 y_6.1.2.1 y_8.1.1 y_10.1.1 y_14.1 y_12.1.1 0 false 0 false [] []).bind fun x_162 =>
      (g_spec_ShowSegment n x_162.2.2.1.1 x_162.2.2.1.2.1 x_162.2.2.1.2.2.1 x_162.2.2.1.2.2.2.1 x_162.2.2.1.2.2.2.2.1 x_162.2.2.1.2.2.2.2.2.1 x_162.2.2.1.2.2.2.2.2.2.1 x_162.2.2.1.2.2.2.2.2.2.2.1 x_162.2.2.1.2.2.2.2.2.2.2.2.1 x_162.2.2.1.2.2.2.2.2.2.2.2.2.1 x_162.2.2.2.1 x_162.2.2.2.2.1).bind fun y_163 =>
      (
        if (y_163.1.2.1 != 0) then
          some (((), (), true, ()), ((x_162.2.1.1, x_162.2.1.2.1, x_162.2.1.2.2.1, x_162.2.1.2.2.2.1, x_162.2.1.2.2.2.2.1, x_162.2.1.2.2.2.2.2.1, x_162.2.1.2.2.2.2.2.2.1, x_162.2.1.2.2.2.2.2.2.2.1, x_162.2.1.2.2.2.2.2.2.2.2.1, x_162.2.1.2.2.2.2.2.2.2.2.2.1, (), (), ()), (x_162.2.2.1.1, x_162.2.2.1.2.1, x_162.2.2.1.2.2.1, x_162.2.2.1.2.2.2.1, x_162.2.2.1.2.2.2.2.1, x_162.2.2.1.2.2.2.2.2.1, x_162.2.2.1.2.2.2.2.2.2.1, x_162.2.2.1.2.2.2.2.2.2.2.1, x_162.2.2.1.2.2.2.2.2.2.2.2.1, x_162.2.2.1.2.2.2.2.2.2.2.2.2.1, (), (), ()), x_162.2.2.2.1, x_162.2.2.2.2.1, ()))
        else
          some (((), (), (y_163.1.1 != x_162.1.1), ()), ((x_162.2.1.1, x_162.2.1.2.1, x_162.2.1.2.2.1, x_162.2.1.2.2.2.1, x_162.2.1.2.2.2.2.1, x_162.2.1.2.2.2.2.2.1, x_162.2.1.2.2.2.2.2.2.1, x_162.2.1.2.2.2.2.2.2.2.1, x_162.2.1.2.2.2.2.2.2.2.2.1, x_162.2.1.2.2.2.2.2.2.2.2.2.1, (), (), ()), (x_162.2.2.1.1, x_162.2.2.1.2.1, x_162.2.2.1.2.2.1, x_162.2.2.1.2.2.2.1, x_162.2.2.1.2.2.2.2.1, x_162.2.2.1.2.2.2.2.2.1, x_162.2.2.1.2.2.2.2.2.2.1, x_162.2.2.1.2.2.2.2.2.2.2.1, x_162.2.2.1.2.2.2.2.2.2.2.2.1, x_162.2.2.1.2.2.2.2.2.2.2.2.2.1, (), (), ()), x_162.2.2.2.1, x_162.2.2.2.2.1, ()))
        : Option ((Unit × Unit × Bool × Unit) × ((Int × Int × Int × Int × Int × Int × Int × Bool × Int × Bool × Unit × Unit × Unit) × (Int × Int × Int × Int × Int × Int × Int × Bool × Int × Bool × Unit × Unit × Unit) × (List (Int × Int × Unit)) × (List Int) × Unit))).bind fun x_168 =>
      if x_168.1.2.2.1 then
        some (((0, 0, 0, 0, 0, 0, 0, false, 0, false, (), (), ()), 6, ()), ([], [], ()))
      else
        some (((x_168.2.2.1.1, x_168.2.2.1.2.1, x_168.2.2.1.2.2.1, x_168.2.2.1.2.2.2.1, x_168.2.2.1.2.2.2.2.1, x_168.2.2.1.2.2.2.2.2.1, x_168.2.2.1.2.2.2.2.2.2.1, x_168.2.2.1.2.2.2.2.2.2.2.1, x_168.2.2.1.2.2.2.2.2.2.2.2.1, x_168.2.2.1.2.2.2.2.2.2.2.2.2.1, (), (), ()), 0, ()), (x_168.2.2.2.1, x_168.2.2.2.2.1, ()))

def g_spec_ReadSegment (n : Nat) (text_1 : List Int) : Option (((Int × Int × Int × Int × Int × Int × Int × Bool × Int × Bool × Unit × Unit × Unit) × Int × Unit) × ((List (Int × Int × Unit)) × (List Int) × Unit)) := t_spec_ReadSegment n (l_spec_ReadSegment_0 n n) text_1

def g_laws_FnSegmentText (n : Nat) (code_1 : List Int) : Option ((Bool) × (Unit)) :=
  if (decide ((code_1.length : Int) > 1048576)) then
    some (true, ())
  else
    (g_spec_DrawShowSegment n code_1).bind fun y_3 =>
    (g_impl_ShowSegment n y_3.1.1 y_3.1.2.1 y_3.1.2.2.1 y_3.1.2.2.2.1 y_3.1.2.2.2.2.1 y_3.1.2.2.2.2.2.1 y_3.1.2.2.2.2.2.2.1 y_3.1.2.2.2.2.2.2.2.1 y_3.1.2.2.2.2.2.2.2.2.1 y_3.1.2.2.2.2.2.2.2.2.2.1 y_3.2.1 y_3.1.2.2.2.2.2.2.2.2.2.2.2.1).bind fun y_4 =>
    (g_spec_ShowSegment n y_3.1.1 y_3.1.2.1 y_3.1.2.2.1 y_3.1.2.2.2.1 y_3.1.2.2.2.2.1 y_3.1.2.2.2.2.2.1 y_3.1.2.2.2.2.2.2.1 y_3.1.2.2.2.2.2.2.2.1 y_3.1.2.2.2.2.2.2.2.2.1 y_3.1.2.2.2.2.2.2.2.2.2.1 y_3.2.1 y_3.1.2.2.2.2.2.2.2.2.2.2.2.1).bind fun y_5 =>
    (
      if (y_4.1.2.1 != y_5.1.2.1) then
        some ((code_1, (), y_4.1.1, y_4.1.2.1, true, ()), ((y_3.1.1, y_3.1.2.1, y_3.1.2.2.1, y_3.1.2.2.2.1, y_3.1.2.2.2.2.1, y_3.1.2.2.2.2.2.1, y_3.1.2.2.2.2.2.2.1, y_3.1.2.2.2.2.2.2.2.1, y_3.1.2.2.2.2.2.2.2.2.1, y_3.1.2.2.2.2.2.2.2.2.2.1, (), y_3.1.2.2.2.2.2.2.2.2.2.2.2.1, ()), y_3.2.1, ()))
      else
        some ((code_1, (), y_4.1.1, y_4.1.2.1, (y_4.1.1 != y_5.1.1), ()), ((y_3.1.1, y_3.1.2.1, y_3.1.2.2.1, y_3.1.2.2.2.1, y_3.1.2.2.2.2.1, y_3.1.2.2.2.2.2.1, y_3.1.2.2.2.2.2.2.1, y_3.1.2.2.2.2.2.2.2.1, y_3.1.2.2.2.2.2.2.2.2.1, y_3.1.2.2.2.2.2.2.2.2.2.1, (), y_3.1.2.2.2.2.2.2.2.2.2.2.2.1, ()), y_3.2.1, ()))
      : Option (((List Int) × Unit × (List Int) × Int × Bool × Unit) × ((Int × Int × Int × Int × Int × Int × Int × Bool × Int × Bool × Unit × (List Int) × Unit) × (List (Int × Int × Unit)) × Unit))).bind fun x_10 =>
    if x_10.1.2.2.2.2.1 then
      some (false, ())
    else
      sbind (
        if (x_10.1.2.2.2.1 == 0) then
          (g_impl_ReadSegment n x_10.1.2.2.1).bind fun y_18 =>
          (
            if (y_18.1.2.1 != 0) then
              some ((x_10.1.1, true, ()), ())
            else
              (g_laws_lwSegment n y_18.1.1.1 y_18.1.1.2.1 y_18.1.1.2.2.1 y_18.1.1.2.2.2.1 y_18.1.1.2.2.2.2.1 y_18.1.1.2.2.2.2.2.1 y_18.1.1.2.2.2.2.2.2.1 y_18.1.1.2.2.2.2.2.2.2.1 y_18.1.1.2.2.2.2.2.2.2.2.1 y_18.1.1.2.2.2.2.2.2.2.2.2.1 y_18.2.1 y_18.2.2.1 x_10.2.1.1 x_10.2.1.2.1 x_10.2.1.2.2.1 x_10.2.1.2.2.2.1 x_10.2.1.2.2.2.2.1 x_10.2.1.2.2.2.2.2.1 x_10.2.1.2.2.2.2.2.2.1 x_10.2.1.2.2.2.2.2.2.2.1 x_10.2.1.2.2.2.2.2.2.2.2.1 x_10.2.1.2.2.2.2.2.2.2.2.2.1 x_10.2.2.1 x_10.2.1.2.2.2.2.2.2.2.2.2.2.2.1).bind fun y_22 =>
              some ((x_10.1.1, (!y_22.1), ()), ())
            : Option (((List Int) × Bool × Unit) × (Unit))).bind fun x_23 =>
          if x_23.1.2.1 then
            some (Sum.inl (false, ()))
          else
            some (Sum.inr ((x_23.1.1, ()), ()))
        else
          some (Sum.inr ((x_10.1.1, ()), ()))
        : Option ((Bool) × (Unit) ⊕ (((List Int) × Unit) × (Unit)))) fun x_24 =>
      (g_spec_DrawReadSegment n x_24.1.1).bind fun y_25 =>
      (g_impl_ReadSegment n y_25.1).bind fun y_26 =>
      (g_spec_ReadSegment n y_25.1).bind fun y_27 =>
      if (y_26.1.2.1 != y_27.1.2.1) then
        some (false, ())
      else
        (g_impl_ShowSegment n y_26.1.1.1 y_26.1.1.2.1 y_26.1.1.2.2.1 y_26.1.1.2.2.2.1 y_26.1.1.2.2.2.2.1 y_26.1.1.2.2.2.2.2.1 y_26.1.1.2.2.2.2.2.2.1 y_26.1.1.2.2.2.2.2.2.2.1 y_26.1.1.2.2.2.2.2.2.2.2.1 y_26.1.1.2.2.2.2.2.2.2.2.2.1 y_26.2.1 y_26.2.2.1).bind fun y_29 =>
        if (y_26.1.2.1 != 0) then
          some (true, ())
        else
          if (y_29.1.2.1 == 0) then
            some ((y_29.1.1 == y_25.1), ())
          else
            some (false, ())

def g_laws_eqStretch (n : Nat) (a_1 : Int) (a_2 : Int) (b_3 : Int) (b_4 : Int) : Option ((Bool) × (Unit)) :=
  if (a_1 != b_3) then
    some (false, ())
  else
    if (a_2 != b_4) then
      some (false, ())
    else
      some (true, ())

def l_laws_eqStretchS_0 (n : Nat) : Nat → (List (Int × Int × Unit)) → (List (Int × Int × Unit)) → Int → Option ((Bool) × (Unit) ⊕ ((Unit) × (Unit)))
  | 0, _, _, _ => none
  | m + 1, a_12, b_13, i_14 =>
    if (decide (i_14 < (a_12.length : Int))) then
      gd (0 ≤ i_14 ∧ i_14 < (a_12.length : Int)) <|
      let t_16 := a_12.getD (Int.toNat i_14) (0, (0, ()))
      gd (0 ≤ i_14 ∧ i_14 < (b_13.length : Int)) <|
      let t_17 := b_13.getD (Int.toNat i_14) (0, (0, ()))
      (g_laws_eqStretch n t_16.1 t_16.2.1 t_17.1 t_17.2.1).bind fun y_18 =>
      if (!y_18.1) then
        some (Sum.inl (false, ()))
      else
        l_laws_eqStretchS_0 n m a_12 b_13 (wi64 (i_14 + 1))
    else
      some (Sum.inr ((), ()))

def t_laws_eqStretchS (n : Nat) (L0 : (List (Int × Int × Unit)) → (List (Int × Int × Unit)) → Int → Option ((Bool) × (Unit) ⊕ ((Unit) × (Unit)))) (a_1 : List (Int × Int × Unit)) (b_2 : List (Int × Int × Unit)) : Option ((Bool) × (Unit)) :=
  if ((a_1.length : Int) != (b_2.length : Int)) then
    some (false, ())
  else
    sbind (L0 a_1 b_2 0) fun x_20 =>
    some (true, ())

def g_laws_eqStretchS (n : Nat) (a_1 : List (Int × Int × Unit)) (b_2 : List (Int × Int × Unit)) : Option ((Bool) × (Unit)) := t_laws_eqStretchS n (l_laws_eqStretchS_0 n n) a_1 b_2

def l_laws_eqByteS_0 (n : Nat) : Nat → List Int → List Int → Int → Option ((Bool) × (Unit) ⊕ ((Unit) × (Unit)))
  | 0, _, _, _ => none
  | m + 1, a_12, b_13, i_14 =>
    if (decide (i_14 < (a_12.length : Int))) then
      gd (0 ≤ i_14 ∧ i_14 < (a_12.length : Int)) <|
      gd (0 ≤ i_14 ∧ i_14 < (b_13.length : Int)) <|
      if ((a_12.getD (Int.toNat i_14) 0) != (b_13.getD (Int.toNat i_14) 0)) then
        some (Sum.inl (false, ()))
      else
        l_laws_eqByteS_0 n m a_12 b_13 (wi64 (i_14 + 1))
    else
      some (Sum.inr ((), ()))

def t_laws_eqByteS (n : Nat) (L0 : List Int → List Int → Int → Option ((Bool) × (Unit) ⊕ ((Unit) × (Unit)))) (a_1 : List Int) (b_2 : List Int) : Option ((Bool) × (Unit)) :=
  if ((a_1.length : Int) != (b_2.length : Int)) then
    some (false, ())
  else
    sbind (L0 a_1 b_2 0) fun x_20 =>
    some (true, ())

def g_laws_eqByteS (n : Nat) (a_1 : List Int) (b_2 : List Int) : Option ((Bool) × (Unit)) := t_laws_eqByteS n (l_laws_eqByteS_0 n n) a_1 b_2

def g_laws_eqSegment (n : Nat) (a_1 : Int) (a_2 : Int) (a_3 : Int) (a_4 : Int) (a_5 : Int) (a_6 : Int) (a_7 : Int) (a_8 : Bool) (a_9 : Int) (a_10 : Bool) (a_11 : List (Int × Int × Unit)) (a_12 : List Int) (b_13 : Int) (b_14 : Int) (b_15 : Int) (b_16 : Int) (b_17 : Int) (b_18 : Int) (b_19 : Int) (b_20 : Bool) (b_21 : Int) (b_22 : Bool) (b_23 : List (Int × Int × Unit)) (b_24 : List Int) : Option ((Bool) × (Unit)) :=
  if (a_1 != b_13) then
    some (false, ())
  else
    if (a_2 != b_14) then
      some (false, ())
    else
      if (a_3 != b_15) then
        some (false, ())
      else
        if (a_4 != b_16) then
          some (false, ())
        else
          if (a_5 != b_17) then
            some (false, ())
          else
            if (a_6 != b_18) then
              some (false, ())
            else
              if (a_7 != b_19) then
                some (false, ())
              else
                if (!(a_8 == b_20)) then
                  some (false, ())
                else
                  if (a_9 != b_21) then
                    some (false, ())
                  else
                    if (!(a_10 == b_22)) then
                      some (false, ())
                    else
                      (g_laws_eqStretchS n a_11 b_23).bind fun y_35 =>
                      if (!y_35.1) then
                        some (false, ())
                      else
                        (g_laws_eqByteS n a_12 b_24).bind fun y_36 =>
                        if (!y_36.1) then
                          some (false, ())
                        else
                          some (true, ())

def l_laws_markStretchS_0 (n : Nat) : Nat → Int → Int → (List (Int × Int × Unit)) → Option ((Unit × Int × Unit) × ((List (Int × Int × Unit)) × Unit))
  | 0, _, _, _ => none
  | m + 1, k_10, i_11, a_12 =>
    if (decide (i_11 < (a_12.length : Int))) then
      gd (0 ≤ i_11 ∧ i_11 < (a_12.length : Int)) <|
      let t_14 := wi64 (k_10 + 1)
      gd (0 ≤ i_11 ∧ i_11 < ((a_12.set (Int.toNat i_11) (k_10, ((a_12.getD (Int.toNat i_11) (0, (0, ()))).2.1, ()))).length : Int)) <|
      l_laws_markStretchS_0 n m (wi64 (t_14 + 1)) (wi64 (i_11 + 1)) ((a_12.set (Int.toNat i_11) (k_10, ((a_12.getD (Int.toNat i_11) (0, (0, ()))).2.1, ()))).set (Int.toNat i_11) (((a_12.set (Int.toNat i_11) (k_10, ((a_12.getD (Int.toNat i_11) (0, (0, ()))).2.1, ()))).getD (Int.toNat i_11) (0, (0, ()))).1, (t_14, ())))
    else
      some (((), k_10, ()), (a_12, ()))

def t_laws_markStretchS (n : Nat) (L0 : Int → Int → (List (Int × Int × Unit)) → Option ((Unit × Int × Unit) × ((List (Int × Int × Unit)) × Unit))) (k_1 : Int) (a_2 : List (Int × Int × Unit)) : Option ((Int) × ((List (Int × Int × Unit)) × Unit)) :=
  (L0 k_1 0 a_2).bind fun x_17 =>
  some (x_17.1.2.1, (x_17.2.1, ()))

def g_laws_markStretchS (n : Nat) (k_1 : Int) (a_2 : List (Int × Int × Unit)) : Option ((Int) × ((List (Int × Int × Unit)) × Unit)) := t_laws_markStretchS n (l_laws_markStretchS_0 n n) k_1 a_2

def l_laws_markByteS_0 (n : Nat) : Nat → Int → Int → List Int → Option ((Unit × Int × Unit) × ((List Int) × Unit))
  | 0, _, _, _ => none
  | m + 1, k_10, i_11, a_12 =>
    if (decide (i_11 < (a_12.length : Int))) then
      gd (0 ≤ i_11 ∧ i_11 < (a_12.length : Int)) <|
      l_laws_markByteS_0 n m (wi64 (k_10 + 1)) (wi64 (i_11 + 1)) (a_12.set (Int.toNat i_11) (wu8 k_10))
    else
      some (((), k_10, ()), (a_12, ()))

def t_laws_markByteS (n : Nat) (L0 : Int → Int → List Int → Option ((Unit × Int × Unit) × ((List Int) × Unit))) (k_1 : Int) (a_2 : List Int) : Option ((Int) × ((List Int) × Unit)) :=
  (L0 k_1 0 a_2).bind fun x_17 =>
  some (x_17.1.2.1, (x_17.2.1, ()))

def g_laws_markByteS (n : Nat) (k_1 : Int) (a_2 : List Int) : Option ((Int) × ((List Int) × Unit)) := t_laws_markByteS n (l_laws_markByteS_0 n n) k_1 a_2

def g_laws_markSegment (n : Nat) (a_1 : Int) (a_2 : Int) (a_3 : Int) (a_4 : Int) (a_5 : Int) (a_6 : Int) (a_7 : Int) (a_8 : Bool) (a_9 : Int) (a_10 : Bool) (k_11 : Int) (a_12 : List (Int × Int × Unit)) (a_13 : List Int) : Option ((Int) × ((List (Int × Int × Unit)) × (List Int) × Unit)) :=
  (g_laws_markStretchS n k_11 a_12).bind fun y_14 =>
  (g_laws_markByteS n y_14.1 a_13).bind fun y_15 =>
  some (y_15.1, (y_14.2.1, y_15.2.1, ()))

def l_laws_heldStretchS_0 (n : Nat) : Nat → (List (Int × Int × Unit)) → Int → Int → Option ((Int) × (Unit) ⊕ ((Int × Unit) × (Unit)))
  | 0, _, _, _ => none
  | m + 1, a_14, k_15, i_16 =>
    if (decide (i_16 < (a_14.length : Int))) then
      gd (0 ≤ i_16 ∧ i_16 < (a_14.length : Int)) <|
      if ((a_14.getD (Int.toNat i_16) (0, (0, ()))).1 != k_15) then
        some (Sum.inl ((-1), ()))
      else
        let t_20 := wi64 (k_15 + 1)
        gd (0 ≤ i_16 ∧ i_16 < (a_14.length : Int)) <|
        if ((a_14.getD (Int.toNat i_16) (0, (0, ()))).2.1 != t_20) then
          some (Sum.inl ((-1), ()))
        else
          l_laws_heldStretchS_0 n m a_14 (wi64 (t_20 + 1)) (wi64 (i_16 + 1))
    else
      some (Sum.inr ((k_15, ()), ()))

def t_laws_heldStretchS (n : Nat) (L0 : (List (Int × Int × Unit)) → Int → Int → Option ((Int) × (Unit) ⊕ ((Int × Unit) × (Unit)))) (a_1 : List (Int × Int × Unit)) (k_2 : Int) : Option ((Int) × (Unit)) :=
  sbind (L0 a_1 k_2 0) fun x_25 =>
  some (x_25.1.1, ())

def g_laws_heldStretchS (n : Nat) (a_1 : List (Int × Int × Unit)) (k_2 : Int) : Option ((Int) × (Unit)) := t_laws_heldStretchS n (l_laws_heldStretchS_0 n n) a_1 k_2

def l_laws_heldByteS_0 (n : Nat) : Nat → List Int → Int → Int → Option ((Int) × (Unit) ⊕ ((Int × Unit) × (Unit)))
  | 0, _, _, _ => none
  | m + 1, a_12, k_13, i_14 =>
    if (decide (i_14 < (a_12.length : Int))) then
      gd (0 ≤ i_14 ∧ i_14 < (a_12.length : Int)) <|
      if ((a_12.getD (Int.toNat i_14) 0) != (wu8 k_13)) then
        some (Sum.inl ((-1), ()))
      else
        l_laws_heldByteS_0 n m a_12 (wi64 (k_13 + 1)) (wi64 (i_14 + 1))
    else
      some (Sum.inr ((k_13, ()), ()))

def t_laws_heldByteS (n : Nat) (L0 : List Int → Int → Int → Option ((Int) × (Unit) ⊕ ((Int × Unit) × (Unit)))) (a_1 : List Int) (k_2 : Int) : Option ((Int) × (Unit)) :=
  sbind (L0 a_1 k_2 0) fun x_21 =>
  some (x_21.1.1, ())

def g_laws_heldByteS (n : Nat) (a_1 : List Int) (k_2 : Int) : Option ((Int) × (Unit)) := t_laws_heldByteS n (l_laws_heldByteS_0 n n) a_1 k_2

def g_laws_heldSegment (n : Nat) (a_1 : Int) (a_2 : Int) (a_3 : Int) (a_4 : Int) (a_5 : Int) (a_6 : Int) (a_7 : Int) (a_8 : Bool) (a_9 : Int) (a_10 : Bool) (a_11 : List (Int × Int × Unit)) (a_12 : List Int) (k_13 : Int) : Option ((Int) × (Unit)) :=
  (g_laws_heldStretchS n a_11 k_13).bind fun y_14 =>
  if (decide (y_14.1 < 0)) then
    some ((-1), ())
  else
    (g_laws_heldByteS n a_12 y_14.1).bind fun y_16 =>
    if (decide (y_16.1 < 0)) then
      some ((-1), ())
    else
      some (y_16.1, ())

def g_laws_FnExactReadSegment (n : Nat) (aText_1 : List Int) : Option ((Bool) × (Unit)) :=
  if (decide ((aText_1.length : Int) > 1048576)) then
    some (true, ())
  else
    (g_spec_ReadSegment n aText_1).bind fun y_3 =>
    (g_impl_ReadSegment n aText_1).bind fun y_4 =>
    (
      (g_laws_eqSegment n y_4.1.1.1 y_4.1.1.2.1 y_4.1.1.2.2.1 y_4.1.1.2.2.2.1 y_4.1.1.2.2.2.2.1 y_4.1.1.2.2.2.2.2.1 y_4.1.1.2.2.2.2.2.2.1 y_4.1.1.2.2.2.2.2.2.2.1 y_4.1.1.2.2.2.2.2.2.2.2.1 y_4.1.1.2.2.2.2.2.2.2.2.2.1 y_4.2.1 y_4.2.2.1 y_3.1.1.1 y_3.1.1.2.1 y_3.1.1.2.2.1 y_3.1.1.2.2.2.1 y_3.1.1.2.2.2.2.1 y_3.1.1.2.2.2.2.2.1 y_3.1.1.2.2.2.2.2.2.1 y_3.1.1.2.2.2.2.2.2.2.1 y_3.1.1.2.2.2.2.2.2.2.2.1 y_3.1.1.2.2.2.2.2.2.2.2.2.1 y_3.2.1 y_3.2.2.1).bind fun y_7 =>
      if (!y_7.1) then
        some ((aText_1, (), y_3.1.2.1, (), true, ()), ((y_3.1.1.1, y_3.1.1.2.1, y_3.1.1.2.2.1, y_3.1.1.2.2.2.1, y_3.1.1.2.2.2.2.1, y_3.1.1.2.2.2.2.2.1, y_3.1.1.2.2.2.2.2.2.1, y_3.1.1.2.2.2.2.2.2.2.1, y_3.1.1.2.2.2.2.2.2.2.2.1, y_3.1.1.2.2.2.2.2.2.2.2.2.1, (), (), ()), (y_4.1.1.1, y_4.1.1.2.1, y_4.1.1.2.2.1, y_4.1.1.2.2.2.1, y_4.1.1.2.2.2.2.1, y_4.1.1.2.2.2.2.2.1, y_4.1.1.2.2.2.2.2.2.1, y_4.1.1.2.2.2.2.2.2.2.1, y_4.1.1.2.2.2.2.2.2.2.2.1, y_4.1.1.2.2.2.2.2.2.2.2.2.1, (), (), ()), y_3.2.1, y_3.2.2.1, y_4.2.1, y_4.2.2.1, ()))
      else
        some ((aText_1, (), y_3.1.2.1, (), (y_4.1.2.1 != y_3.1.2.1), ()), ((y_3.1.1.1, y_3.1.1.2.1, y_3.1.1.2.2.1, y_3.1.1.2.2.2.1, y_3.1.1.2.2.2.2.1, y_3.1.1.2.2.2.2.2.1, y_3.1.1.2.2.2.2.2.2.1, y_3.1.1.2.2.2.2.2.2.2.1, y_3.1.1.2.2.2.2.2.2.2.2.1, y_3.1.1.2.2.2.2.2.2.2.2.2.1, (), (), ()), (y_4.1.1.1, y_4.1.1.2.1, y_4.1.1.2.2.1, y_4.1.1.2.2.2.1, y_4.1.1.2.2.2.2.1, y_4.1.1.2.2.2.2.2.1, y_4.1.1.2.2.2.2.2.2.1, y_4.1.1.2.2.2.2.2.2.2.1, y_4.1.1.2.2.2.2.2.2.2.2.1, y_4.1.1.2.2.2.2.2.2.2.2.2.1, (), (), ()), y_3.2.1, y_3.2.2.1, y_4.2.1, y_4.2.2.1, ()))
      : Option (((List Int) × Unit × Int × Unit × Bool × Unit) × ((Int × Int × Int × Int × Int × Int × Int × Bool × Int × Bool × Unit × Unit × Unit) × (Int × Int × Int × Int × Int × Int × Int × Bool × Int × Bool × Unit × Unit × Unit) × (List (Int × Int × Unit)) × (List Int) × (List (Int × Int × Unit)) × (List Int) × Unit))).bind fun x_9 =>
    if x_9.1.2.2.2.2.1 then
      some (false, ())
    else
      (g_laws_markSegment n x_9.2.2.1.1 x_9.2.2.1.2.1 x_9.2.2.1.2.2.1 x_9.2.2.1.2.2.2.1 x_9.2.2.1.2.2.2.2.1 x_9.2.2.1.2.2.2.2.2.1 x_9.2.2.1.2.2.2.2.2.2.1 x_9.2.2.1.2.2.2.2.2.2.2.1 x_9.2.2.1.2.2.2.2.2.2.2.2.1 x_9.2.2.1.2.2.2.2.2.2.2.2.2.1 1 x_9.2.2.2.2.2.1 x_9.2.2.2.2.2.2.1).bind fun y_10 =>
      (g_laws_heldSegment n x_9.2.2.1.1 x_9.2.2.1.2.1 x_9.2.2.1.2.2.1 x_9.2.2.1.2.2.2.1 x_9.2.2.1.2.2.2.2.1 x_9.2.2.1.2.2.2.2.2.1 x_9.2.2.1.2.2.2.2.2.2.1 x_9.2.2.1.2.2.2.2.2.2.2.1 x_9.2.2.1.2.2.2.2.2.2.2.2.1 x_9.2.2.1.2.2.2.2.2.2.2.2.2.1 y_10.2.1 y_10.2.2.1 1).bind fun y_11 =>
      if (decide (y_11.1 < 0)) then
        some (false, ())
      else
        if (y_11.1 != y_10.1) then
          some (false, ())
        else
          (g_impl_ReadSegment n x_9.1.1).bind fun y_14 =>
          (
            (g_laws_eqSegment n y_14.1.1.1 y_14.1.1.2.1 y_14.1.1.2.2.1 y_14.1.1.2.2.2.1 y_14.1.1.2.2.2.2.1 y_14.1.1.2.2.2.2.2.1 y_14.1.1.2.2.2.2.2.2.1 y_14.1.1.2.2.2.2.2.2.2.1 y_14.1.1.2.2.2.2.2.2.2.2.1 y_14.1.1.2.2.2.2.2.2.2.2.2.1 y_14.2.1 y_14.2.2.1 x_9.2.1.1 x_9.2.1.2.1 x_9.2.1.2.2.1 x_9.2.1.2.2.2.1 x_9.2.1.2.2.2.2.1 x_9.2.1.2.2.2.2.2.1 x_9.2.1.2.2.2.2.2.2.1 x_9.2.1.2.2.2.2.2.2.2.1 x_9.2.1.2.2.2.2.2.2.2.2.1 x_9.2.1.2.2.2.2.2.2.2.2.2.1 x_9.2.2.2.1 x_9.2.2.2.2.1).bind fun y_17 =>
            if (!y_17.1) then
              some (((), y_10.1, true, ()), ((x_9.2.2.1.1, x_9.2.2.1.2.1, x_9.2.2.1.2.2.1, x_9.2.2.1.2.2.2.1, x_9.2.2.1.2.2.2.2.1, x_9.2.2.1.2.2.2.2.2.1, x_9.2.2.1.2.2.2.2.2.2.1, x_9.2.2.1.2.2.2.2.2.2.2.1, x_9.2.2.1.2.2.2.2.2.2.2.2.1, x_9.2.2.1.2.2.2.2.2.2.2.2.2.1, (), (), ()), y_10.2.1, y_10.2.2.1, ()))
            else
              some (((), y_10.1, (y_14.1.2.1 != x_9.1.2.2.1), ()), ((x_9.2.2.1.1, x_9.2.2.1.2.1, x_9.2.2.1.2.2.1, x_9.2.2.1.2.2.2.1, x_9.2.2.1.2.2.2.2.1, x_9.2.2.1.2.2.2.2.2.1, x_9.2.2.1.2.2.2.2.2.2.1, x_9.2.2.1.2.2.2.2.2.2.2.1, x_9.2.2.1.2.2.2.2.2.2.2.2.1, x_9.2.2.1.2.2.2.2.2.2.2.2.2.1, (), (), ()), y_10.2.1, y_10.2.2.1, ()))
            : Option ((Unit × Int × Bool × Unit) × ((Int × Int × Int × Int × Int × Int × Int × Bool × Int × Bool × Unit × Unit × Unit) × (List (Int × Int × Unit)) × (List Int) × Unit))).bind fun x_19 =>
          if x_19.1.2.2.1 then
            some (false, ())
          else
            (g_laws_heldSegment n x_19.2.1.1 x_19.2.1.2.1 x_19.2.1.2.2.1 x_19.2.1.2.2.2.1 x_19.2.1.2.2.2.2.1 x_19.2.1.2.2.2.2.2.1 x_19.2.1.2.2.2.2.2.2.1 x_19.2.1.2.2.2.2.2.2.2.1 x_19.2.1.2.2.2.2.2.2.2.2.1 x_19.2.1.2.2.2.2.2.2.2.2.2.1 x_19.2.2.1 x_19.2.2.2.1 1).bind fun y_20 =>
            if (decide (y_20.1 < 0)) then
              some (false, ())
            else
              if (y_20.1 != x_19.1.2.1) then
                some (false, ())
              else
                some (true, ())

end Go.Vm
