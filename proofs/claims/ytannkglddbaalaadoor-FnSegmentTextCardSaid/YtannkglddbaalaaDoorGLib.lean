/- the library's functions of this seat -/
import Derived.Test.YtannkglddbaalaaDoorVmLib
import Derived.Test.YtannkglddbaalaaDoorShelf
import Derived.Test.YtannkglddbaalaaDoorProg
set_option linter.unusedSimpArgs false
set_option linter.unusedVariables false
namespace Go.Vm
open Go.Proofs

/-- what the package-level variables hold -/
structure LibG (gl : List (Nat × Obj)) : Prop where
  max : ∃ cs t fz m, (0, Obj.cells cs t fz) ∈ gl ∧ cs[0]? = some (.int .i64 m)
  err : ∃ cs t fz tt vv, (1, Obj.cells cs t fz) ∈ gl ∧ cs[0]? = some (.iface tt vv)
  pow : ∃ t fz, (2, Obj.cells (Lib.pow10Tab.map fun z => Value.int .u64 z).toArray t fz) ∈ gl


theorem gl_max {gl : List (Nat × Obj)} (hL : LibG gl) {γ : Gh} {w : World} (h : GlOK gl γ w) : ∃ m, w.cell? ⟨0, 0, none⟩ = some (.int .i64 m) := by
  obtain ⟨cs, t, fz, m, h1, h2⟩ := hL.max
  have h3 := (h _ h1).1
  exact ⟨m, by simp [World.cell?, h3, h2]⟩
theorem gl_err {gl : List (Nat × Obj)} (hL : LibG gl) {γ : Gh} {w : World} (h : GlOK gl γ w) : ∃ tt vv, w.cell? ⟨1, 0, none⟩ = some (.iface tt vv) := by
  obtain ⟨cs, t, fz, tt, vv, h1, h2⟩ := hL.err
  have h3 := (h _ h1).1
  exact ⟨tt, vv, by simp [World.cell?, h3, h2]⟩
theorem gl_pow {gl : List (Nat × Obj)} (hL : LibG gl) {γ : Gh} {w : World} (h : GlOK gl γ w) : Lib.TabIs Tryd.prog w "internal/strconv.uint64pow10" .u64 Lib.pow10Tab := by
  obtain ⟨t, fz, h1⟩ := hL.pow
  have h3 := (h _ h1).1
  have hg : Tryd.prog.globalNamed "internal/strconv.uint64pow10" = some 2 := by kernel_rfl
  unfold Lib.TabIs World.var?
  rw [hg, Option.bind_some]
  rw [h3]

theorem S_strconv_FormatInt {gl : List (Nat × Obj)} (hL : LibG gl) : Sat Tryd.prog gl 55 c_strconv_FormatInt :=
  sat_FormatInt ⟨_, Tryd.func55, by kernel_rfl, by kernel_rfl⟩ (fun _ _ h => gl_pow hL h) Tryd.strconv_FormatInt_10
theorem S_strings_Split {gl : List (Nat × Obj)} (hL : LibG gl) : Sat Tryd.prog gl 28 c_strings_Split :=
  sat_Split ⟨_, Tryd.func28, by kernel_rfl, by kernel_rfl⟩ (fun _ _ h => gl_max hL h) Tryd.strings_Split
theorem S_strings_Cut {gl : List (Nat × Obj)} (hL : LibG gl) : Sat Tryd.prog gl 30 c_strings_Cut :=
  sat_Cut ⟨_, Tryd.func30, by kernel_rfl, by kernel_rfl⟩ (fun _ _ h => gl_max hL h) Tryd.strings_Cut
theorem S_encoding_hex_DecodeString {gl : List (Nat × Obj)} (hL : LibG gl) : Sat Tryd.prog gl 36 c_encoding_hex_DecodeString :=
  sat_DecodeString ⟨_, Tryd.func36, by kernel_rfl, by kernel_rfl⟩ (fun _ _ h => gl_err hL h) Tryd.hex_DecodeString
theorem S_strings_Join {gl : List (Nat × Obj)} : Sat Tryd.prog gl 22 c_strings_Join :=
  sat_Join ⟨_, Tryd.func22, by kernel_rfl, by kernel_rfl⟩ Tryd.strings_Join_none Tryd.strings_Join
theorem S_encoding_hex_EncodeToString {gl : List (Nat × Obj)} : Sat Tryd.prog gl 21 c_encoding_hex_EncodeToString :=
  sat_EncodeToString ⟨_, Tryd.func21, by kernel_rfl, by kernel_rfl⟩ Tryd.hex_EncodeToString
theorem S_strings_IndexByte {gl : List (Nat × Obj)} : Sat Tryd.prog gl 66 c_strings_IndexByte :=
  sat_IndexByte ⟨_, Tryd.func66, by kernel_rfl, by kernel_rfl⟩ Tryd.strings_IndexByte
end Go.Vm
