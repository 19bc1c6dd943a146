/-
  What the listed package-level variables give.
-/
import Derived.Test.YtannkglddbaalaaDoorCards
import Derived.Test.YtannkglddbaalaaDoorTie
import Derived.Test.YtannkglddbaalaaDoorVmRow
import Derived.Test.YtannkglddbaalaaDoorGWalk
import Derived.Lib.LaidIn
import Derived.Lib.LaidTab
import Derived.Stop.LaidErr
import Derived.Deep.DeepHandedRow
import Derived.Deep.DeepWitnessRowRef
import Derived.ProofKit
import Derived.SizedLaws
set_option linter.unusedSimpArgs false
set_option linter.unusedVariables false
namespace Go.Proofs.YtannkglddbaalaaDoor
open Go.ChangeShapes Go.WideShapes Go.ChangeAt Go.RowKit Go.Lib Go.Vm
open Go.ChangeMaps (open_string shut_string)

theorem own : ownKnob Tryd.prog.godebug = none := by kernel_rfl

/-- cells of a listed datum -/
def cells1 : DataW Unit → List Value
  | .lit (.int k n) => [.int k n]
  | _ => []
def cells2 : DataW Unit → List Value
  | .agg xs => xs.flatMap cells1
  | d => cells1 d
def cells3 : DataW Unit → Array Value
  | .agg xs => (xs.flatMap cells2).toArray
  | _ => #[]

noncomputable abbrev N0 : Nat := (World.settled Tryd.prog default).heap.size
def oddText : List UInt8 := [101, 110, 99, 111, 100, 105, 110, 103, 47, 104, 101, 120, 58, 32, 111, 100, 100, 32, 108, 101, 110, 103, 116, 104, 32, 104, 101, 120, 32, 115, 116, 114, 105, 110, 103]

/-- A world for the witness: the settled one, the listed variables holding what their initialisers lay. -/
noncomputable def laidWorld (os : Os) : World :=
  let N := (World.settled Tryd.prog os).heap.size
  let w0 := World.holding Tryd.prog os ⟨#[.cells #[.string ⟨oddText.toArray⟩] 149], #[], []⟩
  let put (h : Array Obj) (g : Nat) (cs : Array Value) : Array Obj := h.modify g fun
    | .cells _ t frozen => .cells cs t frozen
    | o => o
  let h1 := put w0.heap 1 #[.iface 132 (.pointer (some ⟨N, 0, none⟩))]
  let h2 := put h1 2 (cells3 Rows.laid_internal_strconv_uint64pow10)
  let h3 := put h2 3 (cells3 Rows.laid_unicode_utf8_first)
  let h4 := put h3 4 (cells3 Rows.laid_unicode_utf8_acceptRanges)
  let h5 := put h4 5 (cells3 Rows.laid_math_bits_deBruijn32tab)
  let h6 := put h5 6 (cells3 Rows.laid_math_bits_deBruijn64tab)
  { w0 with heap := h6 }
theorem laid_met (os : Os) (args : Array Value) : laidMet Tryd.prog Rows.fnExactReadSegmentRow.laid ((laidWorld os).forCall (fun _ _ => 0) ⟨#[], args, []⟩).memory :=
  (LaidIn.of_run (l := Rows.fnExactReadSegmentRow.laid) [5, 6, 2, 4, 1, N0, 3] 8 (by kernel_rfl) (by kernel_rfl) (by kernel_rfl) (by kernel_rfl)).met

/-- the one row of that name -/
theorem star : "*" ++ "errors.errorString" = "*errors.errorString" := by decide
theorem rowErr (u : TypeId) (h : Tryd.prog.typeName? 3 u = some "*errors.errorString") : u = 132 :=
  typeName_ptr_named (nm := "errors.errorString") (by rw [star]; kernel_rfl) (by kernel_rfl) (by decide) u (by rw [star]; exact h)

/-- what the listed variables give -/
theorem lib_of_laid {W : World} (hL : laidMet Tryd.prog Rows.fnExactReadSegmentRow.laid W) (hSh : W.ShapedOpen Tryd.prog) :
    ∃ gl, LibG gl ∧ ∀ p ∈ gl, W.heap[p.1]? = some p.2 ∧ p.1 < 3 := by
  obtain ⟨m, hm⟩ := Tryd.laysM143.s1_3 W hSh
  have hm1 : W.cell? ⟨0, 0, none⟩ = some (.int .i64 m) := hm
  obtain ⟨c0, t0, f0, h0, h0'⟩ := block_of_cell hm1
  obtain ⟨a, s, hv, _⟩ := laid_sentinel (g := 1) hL.tail.tail.tail.tail (by kernel_rfl) (by kernel_rfl) Tryd.underlying66 rowErr Tryd.underlying132
    Tryd.underlying149 rfl rfl Tryd.underlying9 (by kernel_rfl) (by kernel_rfl)
  obtain ⟨t1, f1, h1⟩ := block_of_var (g := 1) (by kernel_rfl) hv
  have hp : Lib.TabIs Tryd.prog W "internal/strconv.uint64pow10" .u64 Lib.pow10Tab :=
    Lib.tabIs_of_head (g := 2) (t := 118) (e := 36) (n := 20) (by kernel_rfl) (by kernel_rfl) (by kernel_rfl) (by kernel_rfl) (by kernel_rfl) (by kernel_rfl) hL.tail.tail
  obtain ⟨t2, f2, h2⟩ := block_of_var (g := 2) (by kernel_rfl) hp
  refine ⟨[(0, .cells c0 t0 f0), (1, .cells _ t1 f1), (2, .cells _ t2 f2)], ⟨⟨c0, t0, f0, m, List.mem_cons_self, h0'⟩, ⟨#[.iface 132 (.pointer (some a))], t1, f1, 132, .pointer (some a), List.mem_cons_of_mem _ List.mem_cons_self, rfl⟩, ⟨t2, f2, List.mem_cons_of_mem _ (List.mem_cons_of_mem _ List.mem_cons_self)⟩⟩, ?_⟩
  intro p hp
  simp only [List.mem_cons, List.not_mem_nil, or_false] at hp
  rcases hp with rfl | rfl | rfl
  · exact ⟨h0, by simp⟩
  · exact ⟨h1, by simp⟩
  · exact ⟨h2, by simp⟩

end Go.Proofs.YtannkglddbaalaaDoor
