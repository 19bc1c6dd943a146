/-
  FnExactReadSegment answers true whatever the text; the text reads as it did. Conditions: those of the given row (the listed package-level variables hold what the program's text lays; the card ties them).
-/
import Derived.Test.YtannkglddbaalaaDoorR1Row
import Derived.Test.YtannkglddbaalaaDoorR1Law
set_option linter.unusedSimpArgs false
set_option linter.unusedVariables false
namespace Go.Proofs.YtannkglddbaalaaDoor
open Go.ChangeShapes Go.WideShapes Go.ChangeAt Go.RowKit Go.Lib Go.Vm
open Go.ChangeMaps (open_string shut_string)

/-! ### FnExactReadSegment -/
namespace Read
theorem witness_row (os : Os) {H : Type} (enc : TypeId × Value → H) :
    (OpenSpec.ofChange Rows.fnExactReadSegmentSpec).preRow enc Tryd.prog Tryd.f4 Rows.fnExactReadSegmentRow.domain false Rows.fnExactReadSegmentRow.laid ((laidWorld os).forCall (fun _ _ => 0) ⟨#[], #[.string ⟨#[]⟩], []⟩).memory #[.string ⟨#[]⟩] := by
  have hw : (DataW.whole enc Tryd.prog ((laidWorld os).forCall (fun _ _ => 0) ⟨#[], #[.string ⟨#[]⟩], []⟩).memory Tryd.f4.params.toList Rows.fnExactReadSegmentSpec.vars false #[Value.string ⟨#[]⟩].toList 8).map (fun x => (x.1, x.2.1)) =
      some ([.lit (.string [])], []) := by kernel_rfl
  obtain ⟨⟨x1, x2, x3⟩, hx, hx1⟩ := Option.map_eq_some_iff.1 hw
  simp only [Prod.mk.injEq] at hx1
  obtain ⟨rfl, rfl⟩ := hx1
  exact OpenSpec.preRow_of_cond 8 hx (by kernel_rfl) (fun k hk => by cases hk) (by kernel_rfl) (laid_met os _)

/-- the call, in every world that holds the listed variables -/
theorem walk (W : World) (s : ByteArray) (hs : s.size ≤ maxLen) (hL : laidMet Tryd.prog Rows.fnExactReadSegmentRow.laid W) (hSh : W.ShapedOpen Tryd.prog) :
    Calls Tryd.prog 4 #[.string s] W fun e W' => e = .returned (.bool true) ∧ ∀ may, W.keptBut W' may := by
  obtain ⟨gl, hG, hgl⟩ := lib_of_laid hL hSh
  have es : toBA (un8 s.data.toList) = s := by
    rw [toBA_un8]
  have hok : strOK (un8 s.data.toList) := by
    refine ⟨un8_bytes _, ?_⟩
    have : s.data.toList.length = s.size := Array.length_toList
    simp only [un8, List.length_map, this]
    unfold maxLen at hs; omega
  refine (call_plain (S := fun b _ => b < 3) (S_laws_FnExactReadSegment hG) rfl (fuel := 10000000) (x := ((un8 s.data.toList, ()), ())) (y := (true, ())) (lawRead 10000000 (Nat.le_refl _) _) ?_ (fun p hp => ⟨(hgl p hp).1, fun _ => (hgl p hp).2⟩) rfl ?_).mono ?_
  · intro b i hb
    obtain ⟨c0, t0, f0, m, h0, _⟩ := hG.max
    obtain ⟨c1, t1, f1, _, _, h1, _⟩ := hG.err
    obtain ⟨t2, f2, h2⟩ := hG.pow
    have g2 := (hgl _ h2).1
    have : 2 < W.heap.size := by
      obtain ⟨h, _⟩ := Array.getElem?_eq_some_iff.1 g2
      exact h
    omega
  · intro base hb i
    exact one_arg hb (by simp only [V]; exact ⟨by rw [es], hok⟩) i
  · rintro e W' ⟨v, γ', rfl, hv, hk⟩
    have hv : V W' γ' (.bool true) v := hv
    simp only [V] at hv
    subst hv
    exact ⟨rfl, hk⟩

set_option maxRecDepth 100000 in
set_option maxHeartbeats 2000000 in
theorem lifted (os : Os) (started : os.Started) (H : Type) (enc : TypeId × Value → H) (F : Stop.Interp) :
    ReturnsInHanded {} Tryd.checked os 4 .any ((OpenSpec.ofChange Rows.fnExactReadSegmentSpec).preRow enc Tryd.prog Tryd.f4 Rows.fnExactReadSegmentRow.domain false Rows.fnExactReadSegmentRow.laid)
      (((OpenSpec.ofChange Rows.fnExactReadSegmentSpec).at F).post enc Tryd.prog Tryd.f4 false true false false) := by
  refine returnsInHanded_of_row (C := Tryd.checked) (s := OpenSpec.ofChange Rows.fnExactReadSegmentSpec) own started (by kernel_rfl) Tryd.func4
    (witness_row_atRef (enc := enc) (C := Tryd.checked) false (laidWorld os) #[.string ⟨#[]⟩] rfl (by kernel_rfl) (by kernel_rfl) (by kernel_rfl) (witness_row os enc)) ?_
  intro W base args ds gs before hval0 hW _ _ _ hL hSh _
  have hval : ∀ (j : Nat) t v, Tryd.f4.params[j]? = some t → args[j]? = some v → Value.okWide Tryd.prog W .any base t v := hval0
  have hW' := hW
  obtain ⟨p, q, hA0, hV0, rfl, _, _⟩ := hW
  have hA : DataW.TrodAll enc Tryd.prog W 0 (fun _ => true) true Tryd.f4.params.toList args.toList ds p := hA0
  rw [Tryd.params4] at hA hval
  obtain ⟨v0, d0, rfl, rfl, h0⟩ := trodAll_one hA
  obtain ⟨rfl, rfl⟩ := trodVars_none hV0
  obtain ⟨s, rfl, rfl, rfl, ws⟩ := open_string Tryd.underlying9 (hval 0 9 v0 rfl rfl) h0
  clear hA0 hV0 hval0
  have hL' : laidMet Tryd.prog Rows.fnExactReadSegmentRow.laid W := hL
  refine (walk W s ws hL' hSh).mono ?_
  rintro e W' ⟨rfl, hk⟩
  have e1 : ((OpenSpec.ofChange Rows.fnExactReadSegmentSpec).at F).fn H ([.lit (.string s.data.toList)] ++ []) = { results := [.lit (.bool true)], args := [.lit (.string s.data.toList)] } := rfl
  refine ⟨_, rfl, _, _, _, [], [], [], hW', ?_, ?_, ?_, hk _, fun h => by cases h⟩
  · rw [e1]; exact trodAll_mk1 (shut_bool Tryd.underlying4 _)
  · rw [e1]; exact trodAll_mk1 (shut_string Tryd.underlying9 ws)
  · rw [e1]; rfl

theorem said : Rows.FnExactReadSegmentSaid :=
  OpenClaim.holds_of_cond 4 Tryd.f4 rfl rfl rfl rfl rfl rfl rfl ⟨rfl, rfl, rfl, rfl, rfl⟩ rfl rfl rfl rfl rfl (by kernel_rfl) Tryd.func4 (by kernel_rfl)
    (of_decide_eq_true (by kernel_rfl)) (by unfold Func.isWrapper; first | (rw [if_pos (by decide +kernel)]; kernel_rfl) | (rw [if_neg (by decide +kernel)]; exact ⟨rfl, rfl⟩))
    (fun os started H enc _ F => by rw [OpenClaim.pre_eq_preRow]; exact lifted os started H enc F)

theorem plain (f : FuncId) (fn : Func) (hf : Tryd.pinned.checked.prog.funcNamed "loop.example/g00003/laws.FnExactReadSegment" = some f) (hfn : Tryd.pinned.checked.prog.funcs[f]? = some fn) :
    false = Tryd.pinned.checked.prog.looks [] ∧ ∀ (j : Nat) t, fn.params[j]? = some t → Tryd.pinned.checked.prog.wantsStandIn t = false := by
  obtain rfl : f = 4 := Option.some.inj ((show Tryd.prog.funcNamed "loop.example/g00003/laws.FnExactReadSegment" = some 4 by kernel_rfl).symm.trans hf) |>.symm
  obtain rfl : fn = Tryd.f4 := (Option.some.inj (Tryd.func4.symm.trans hfn)).symm
  refine ⟨by kernel_rfl, fun j t ht => ?_⟩
  rw [Tryd.params4] at ht
  obtain rfl : t = 9 := by simpa using Array.mem_of_getElem? ht
  exact (show Tryd.prog.wantsStandIn 9 = false by kernel_rfl)
end Read

/-- FnExactReadSegment: the card -/
theorem fnExactReadSegment_holds : Rows.FnExactReadSegmentCardSaid :=
  Claim7.holds_tied_plain_at .later [] _ _ _ _ Read.said (fun _ h => by cases h) (by kernel_rfl) (fun _ h => by cases h) fnExactReadSegment_row_tie rfl ⟨rfl, rfl⟩ (by kernel_rfl) rfl Read.plain (by kernel_rfl)


end Go.Proofs.YtannkglddbaalaaDoor
