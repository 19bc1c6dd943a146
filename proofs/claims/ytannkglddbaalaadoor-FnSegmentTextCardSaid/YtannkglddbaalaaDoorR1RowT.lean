/-
  FnSegmentText answers true whatever the bytes; they read as they did. Conditions: those of the given row (the listed package-level variables hold what the program's text lays; the card ties them).
-/
import Derived.Test.YtannkglddbaalaaDoorR1Row
import Derived.Test.YtannkglddbaalaaDoorR1Law
set_option linter.unusedSimpArgs false
set_option linter.unusedVariables false
namespace Go.Proofs.YtannkglddbaalaaDoor
open Go.ChangeShapes Go.WideShapes Go.ChangeAt Go.RowKit Go.Lib Go.Vm
open Go.ChangeMaps (open_string shut_string)

/-! ### FnSegmentText -/
namespace Text
theorem witness_row (os : Os) {H : Type} (enc : TypeId × Value → H) :
    (OpenSpec.ofChange Rows.fnSegmentTextSpec).preRow enc Tryd.prog Tryd.f3 Rows.fnSegmentTextRow.domain false Rows.fnSegmentTextRow.laid ((laidWorld os).forCall (fun _ _ => 0) ⟨#[], #[.slice none 0 0], []⟩).memory #[.slice none 0 0] := by
  have hw : (DataW.whole enc Tryd.prog ((laidWorld os).forCall (fun _ _ => 0) ⟨#[], #[.slice none 0 0], []⟩).memory Tryd.f3.params.toList Rows.fnSegmentTextSpec.vars false #[Value.slice none 0 0].toList 8).map (fun x => (x.1, x.2.1)) =
      some ([.nil], []) := by kernel_rfl
  obtain ⟨⟨x1, x2, x3⟩, hx, hx1⟩ := Option.map_eq_some_iff.1 hw
  simp only [Prod.mk.injEq] at hx1
  obtain ⟨rfl, rfl⟩ := hx1
  exact OpenSpec.preRow_of_cond 8 hx (by kernel_rfl) (fun k hk => by cases hk) (by kernel_rfl) (laid_met os _)

/-- the call, in every world that holds the listed variables -/
theorem walk (W : World) (v0 : Value) (zs : List Int) (B : Nat → Prop) (hB : ∀ b, B b → b < W.heap.size) (hv : Rd W (fun b _ => b < 3 ∨ B b) (.sl (.int .u8)) zs [v0])
    (hL : laidMet Tryd.prog Rows.fnSegmentTextRow.laid W) (hSh : W.ShapedOpen Tryd.prog) :
    Calls Tryd.prog 3 #[v0] W fun e W' => e = .returned (.bool true) ∧ ∀ may, W.keptBut W' may := by
  obtain ⟨gl, hG, hgl⟩ := lib_of_laid hL hSh
  refine (call_plain (S := fun b _ => b < 3 ∨ B b) (S_laws_FnSegmentText hG) rfl (fuel := 10000000) (x := ((zs, ()), ())) (y := (true, ())) (lawText 10000000 (Nat.le_refl _) _) ?_ (fun p hp => ⟨(hgl p hp).1, fun _ => .inl (hgl p hp).2⟩) rfl ?_).mono ?_
  · intro b i hb
    obtain ⟨t2, f2, h2⟩ := hG.pow
    have g2 := (hgl _ h2).1
    have : 2 < W.heap.size := by
      obtain ⟨h, _⟩ := Array.getElem?_eq_some_iff.1 g2
      exact h
    rcases hb with hb | hb
    · omega
    · exact hB b hb
  · intro base hb i
    exact one_arg hb (by simp only [V]; exact hv) i
  · rintro e W' ⟨v, γ', rfl, hv, hk⟩
    have hv : V W' γ' (.bool true) v := hv
    simp only [V] at hv
    subst hv
    exact ⟨rfl, hk⟩

set_option maxRecDepth 100000 in
set_option maxHeartbeats 2000000 in
theorem lifted (os : Os) (started : os.Started) (H : Type) (enc : TypeId × Value → H) (F : Stop.Interp) :
    ReturnsInHanded {} Tryd.checked os 3 .any ((OpenSpec.ofChange Rows.fnSegmentTextSpec).preRow enc Tryd.prog Tryd.f3 Rows.fnSegmentTextRow.domain false Rows.fnSegmentTextRow.laid)
      (((OpenSpec.ofChange Rows.fnSegmentTextSpec).at F).post enc Tryd.prog Tryd.f3 false true false false) := by
  refine returnsInHanded_of_row (C := Tryd.checked) (s := OpenSpec.ofChange Rows.fnSegmentTextSpec) own started (by kernel_rfl) Tryd.func3
    (witness_row_atRef (enc := enc) (C := Tryd.checked) false (laidWorld os) #[.slice none 0 0] rfl (by kernel_rfl) (by kernel_rfl) (by kernel_rfl) (witness_row os enc)) ?_
  intro W base args ds gs before hval0 hW _ _ _ hL hSh _
  have hval : ∀ (j : Nat) t v, Tryd.f3.params[j]? = some t → args[j]? = some v → Value.okWide Tryd.prog W .any base t v := hval0
  have hW' := hW
  obtain ⟨p, q, hA0, hV0, rfl, _, _⟩ := hW
  have hA : DataW.TrodAll enc Tryd.prog W 0 (fun _ => true) true Tryd.f3.params.toList args.toList ds p := hA0
  rw [Tryd.params3] at hA hval
  obtain ⟨v0, d0, rfl, rfl, h0⟩ := trodAll_one hA
  obtain ⟨rfl, rfl⟩ := trodVars_none hV0
  have hL' : laidMet Tryd.prog Rows.fnSegmentTextRow.laid W := hL
  have hk0 := hval 0 22 v0 rfl rfl
  obtain ⟨fuel, hf⟩ := h0
  obtain ⟨a1, len1, cap1, rfl⟩ := okWide_slice Tryd.underlying22 hk0
  have e1 : ∀ d, ((OpenSpec.ofChange Rows.fnSegmentTextSpec).at F).fn H ([d] ++ []) = { results := [.lit (.bool true)], args := [d] } := fun _ => rfl
  have cells5 : Tryd.prog.cellsOf 5 = 1 := by kernel_rfl
  rcases open_ints Tryd.underlying22 Tryd.underlying5 cells5 hf with ⟨hcs, hx⟩ | ⟨a, len, cap, zs, hcs, hb0, hl, hm, hz, hx, hcell, hwz⟩
  · simp [Value.cells] at hcs
    obtain ⟨rfl, rfl, rfl⟩ := hcs
    simp only [Prod.mk.injEq] at hx
    obtain ⟨rfl, rfl⟩ := hx
    refine (walk W _ [] (fun _ => False) (fun _ h => h.elim) ?_ hL' hSh).mono ?_
    · simp only [Rd]
      exact ⟨none, 0, 0, rfl, rfl, Nat.le_refl _, by simp, fun h => absurd rfl h⟩
    · rintro e W' ⟨rfl, hk⟩
      refine ⟨_, rfl, _, _, _, [], [], [], hW', ?_, ?_, ?_, hk _, fun h => by cases h⟩
      · rw [e1]; exact trodAll_mk1 (shut_bool Tryd.underlying4 _)
      · rw [e1]; exact trodAll_mk1 (shut_slice_nil Tryd.underlying22)
      · rw [e1]; rfl
  · simp [Value.cells] at hcs
    obtain ⟨rfl, rfl, rfl⟩ := hcs
    simp only [Prod.mk.injEq] at hx
    obtain ⟨rfl, rfl⟩ := hx
    simp only [if_true] at hz
    have hplain : ∀ i, i < zs.length → ∃ b o, a = ⟨b, o, none⟩ := by
      intro i hi
      obtain ⟨ab, ao, spot⟩ := a
      have hspot : spot = none := by
        have := World.cell?_spot (hcell 0 (by omega))
        simpa [Addr.add] using this
      exact ⟨ab, ao, by rw [hspot]⟩
    have hlt : ∀ i, i < zs.length → a.block < W.heap.size := by
      intro i hi
      obtain ⟨b, o, rfl⟩ := hplain i hi
      have := hcell i hi
      rw [Addr.add_lit] at this
      have hx : W.heap[b]? ≠ none := fun h => by simp [World.cell?, h] at this
      rcases Nat.lt_or_ge b W.heap.size with h | h
      · exact h
      · exact absurd (Array.getElem?_eq_none h) hx
    have hbyte : ∀ n ∈ zs, 0 ≤ n ∧ n < 256 := by
      intro n hn
      have := hwz n hn
      have b1 : IntKind.u8.min = 0 := rfl
      have b2 : IntKind.u8.max = 255 := rfl
      simp [Lit.wf, b1, b2] at this
      omega
    refine (walk W _ (zs.take len1) (fun b => b = a.block ∧ zs ≠ []) ?_ ?_ hL' hSh).mono ?_
    · rintro b ⟨rfl, hne⟩
      exact hlt 0 (List.length_pos_iff.2 hne)
    · simp only [Rd]
      refine ⟨some a, len1, cap1, rfl, by simp; omega, hl, by simp; unfold maxLen at hm; omega, fun hne => ?_⟩
      have hpos : 0 < zs.length := by
        rcases Nat.eq_zero_or_pos zs.length with h | h
        · exfalso; apply hne; rw [List.eq_nil_of_length_eq_zero h]; simp
        · exact h
      obtain ⟨b, o, rfl⟩ := hplain 0 hpos
      refine ⟨b, o, rfl, fun i hi => ?_⟩
      have hi' : i < zs.length := by simp at hi; omega
      have hc := hcell i hi'
      rw [Addr.add_lit] at hc
      have eg : zs.getD i 0 = zs[i] := by simp [List.getD, List.getElem?_eq_getElem hi']
      rw [eg] at hc
      refine ⟨[.int .u8 zs[i]], ⟨by simp, ?_⟩, ?_, ?_⟩
      · have := hbyte zs[i] (List.getElem_mem hi')
        have b1 : IntKind.u8.min = 0 := rfl
        have b2 : IntKind.u8.max = 255 := rfl
        simp only [List.getElem_take, has, b1, b2]
        omega
      · intro j v hv
        cases j with
        | zero =>
          simp at hv
          subst hv
          simpa [K.cells] using hc
        | succ j => simp at hv
      · intro j hj; exact .inr ⟨rfl, fun h => by rw [h] at hpos; simp at hpos⟩
    · rintro e W' ⟨rfl, hk⟩
      refine ⟨_, rfl, _, _, _, [], MemPlace.row a zs.length, [], hW', ?_, ?_, ?_, hk _, fun h => by cases h⟩
      · rw [e1]; exact trodAll_mk1 (shut_bool Tryd.underlying4 _)
      · rw [e1]
        refine trodAll_mk1 ⟨2, ?_⟩
        refine shut_ints (w := W') 0 Tryd.underlying22 Tryd.underlying5 cells5 (Nat.zero_le _) hl hm ?_ ?_ hwz
        · rcases Nat.eq_zero_or_pos zs.length with h | h
          · split <;> omega
          · have := hlt 0 h
            rw [if_pos (by simpa using this)]; exact hz
        · intro i hi
          obtain ⟨b, o, rfl⟩ := hplain i hi
          have hc := hcell i hi
          rw [Addr.add_lit] at hc ⊢
          exact ((hk fun _ => False).cell (hlt i hi) (fun h => h)).trans hc
      · rw [e1]; rfl

theorem said : Rows.FnSegmentTextSaid :=
  OpenClaim.holds_of_cond 3 Tryd.f3 rfl rfl rfl rfl rfl rfl rfl ⟨rfl, rfl, rfl, rfl, rfl⟩ rfl rfl rfl rfl rfl (by kernel_rfl) Tryd.func3 (by kernel_rfl)
    (of_decide_eq_true (by kernel_rfl)) (by unfold Func.isWrapper; first | (rw [if_pos (by decide +kernel)]; kernel_rfl) | (rw [if_neg (by decide +kernel)]; exact ⟨rfl, rfl⟩))
    (fun os started H enc _ F => by rw [OpenClaim.pre_eq_preRow]; exact lifted os started H enc F)

theorem plain (f : FuncId) (fn : Func) (hf : Tryd.pinned.checked.prog.funcNamed "loop.example/g00003/laws.FnSegmentText" = some f) (hfn : Tryd.pinned.checked.prog.funcs[f]? = some fn) :
    false = Tryd.pinned.checked.prog.looks [] ∧ ∀ (j : Nat) t, fn.params[j]? = some t → Tryd.pinned.checked.prog.wantsStandIn t = false := by
  obtain rfl : f = 3 := Option.some.inj ((show Tryd.prog.funcNamed "loop.example/g00003/laws.FnSegmentText" = some 3 by kernel_rfl).symm.trans hf) |>.symm
  obtain rfl : fn = Tryd.f3 := (Option.some.inj (Tryd.func3.symm.trans hfn)).symm
  refine ⟨by kernel_rfl, fun j t ht => ?_⟩
  rw [Tryd.params3] at ht
  obtain rfl : t = 22 := by simpa using Array.mem_of_getElem? ht
  exact (show Tryd.prog.wantsStandIn 22 = false by kernel_rfl)
end Text

/-- FnSegmentText: the card -/
theorem fnSegmentText_holds : Rows.FnSegmentTextCardSaid :=
  Claim7.holds_tied_plain_at .later [] _ _ _ _ Text.said (fun _ h => by cases h) (by kernel_rfl) (fun _ h => by cases h) fnSegmentText_row_tie rfl ⟨rfl, rfl⟩ (by kernel_rfl) rfl Text.plain (by kernel_rfl)


end Go.Proofs.YtannkglddbaalaaDoor
