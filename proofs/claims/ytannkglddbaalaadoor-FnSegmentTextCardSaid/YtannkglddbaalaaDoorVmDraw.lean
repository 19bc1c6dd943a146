/-
  Regions that draw their order: single operations.
-/
import Derived.Test.YtannkglddbaalaaDoorVmCode
set_option linter.unusedSimpArgs false
set_option linter.unusedVariables false
namespace Go.Vm

section
variable {E : Env} {R : Type}

/-! #### The operands alone count -/
theorem map_congr_ops {ρ ρ' : Operand → SV} {l : List Operand} (h : ∀ x ∈ l, ρ x = ρ' x) : l.map ρ = l.map ρ' := List.map_congr_left h

theorem pairs_congr {ρ ρ' : Operand → SV} {l : List (Nat × Operand)} (h : ∀ x ∈ l.map (·.2), ρ x = ρ' x) : (l.map fun p => (p.1, ρ p.2)) = l.map fun p => (p.1, ρ' p.2) :=
  List.map_congr_left fun p hp => by rw [h p.2 (List.mem_map.2 ⟨p, hp, rfl⟩)]

theorem execN_congr {o : Op} {ρ ρ' : Operand → SV} {ob : Obs} {k : SV → Option R} (h : ∀ x ∈ o.operands, ρ x = ρ' x) : execN E o ρ ob k = execN E o ρ' ob k := by
  cases o <;> simp only [Op.operands] at h <;> simp only [execN]
  case build t ps => rw [pairs_congr (l := ps.toList) fun x hx => h x (by simpa using hx)]
  case buildSlice t n ps => rw [pairs_congr (l := ps.toList) fun x hx => h x (by simpa using hx)]
  case slice t x lo hi mx => cases lo <;> cases hi <;> cases mx <;> simp_all
  case call c =>
    have hargs : c.args.toList.map ρ = c.args.toList.map ρ' := map_congr_ops fun x hx => h x (by simp [Call.operands]; exact .inr (by simpa using hx))
    simp only [hargs]
  all_goals first | rfl | (simp_all; done)

theorem namesN_congr {o : Op} {ρ ρ' : Operand → SV} (h : ∀ x ∈ o.operands, ρ x = ρ' x) : namesN o ρ = namesN o ρ' := by
  cases o <;> simp only [Op.operands] at h <;> simp only [namesN]
  case call c =>
    have : ∀ l : List Operand, (∀ x ∈ l, ρ x = ρ' x) → (l.flatMap fun x => dN (ρ x)) = l.flatMap fun x => dN (ρ' x) := by
      intro l
      induction l with
      | nil => intro _; rfl
      | cons y l ih => intro hl; simp only [List.flatMap_cons]; rw [hl y (by simp), ih fun x hx => hl x (by simp [hx])]
    exact this _ fun x hx => h x (by simp [Call.operands]; exact .inr (by simpa using hx))
  all_goals simp_all

theorem exec_congr {o : Op} {d : Nat} {ρ ρ' : Operand → SV} {ob : Obs} {k : SV → Obs → Option R} (h : ∀ x ∈ o.operands, ρ x = ρ' x) : exec E d o ρ ob k = exec E d o ρ' ob k := by
  cases o <;> simp only [Op.operands] at h <;> simp only [exec]
  case build t ps => rw [pairs_congr (l := ps.toList) fun x hx => h x (by simpa using hx)]
  case buildSlice t n ps => rw [pairs_congr (l := ps.toList) fun x hx => h x (by simpa using hx)]
  case slice t x lo hi mx => cases lo <;> cases hi <;> cases mx <;> simp_all
  case makeFunc c fst caps =>
    have : caps.toList.map ρ = caps.toList.map ρ' := map_congr_ops fun x hx => h x (by simp at hx ⊢; exact .inr hx)
    cases c <;> simp only [exec] <;> rw [this]
  case call c =>
    have hargs : c.args.toList.map ρ = c.args.toList.map ρ' := map_congr_ops fun x hx => h x (by simp [Call.operands]; exact .inr (by simpa using hx))
    simp only [hargs]
    obtain ⟨callee, args, ats⟩ := c
    cases callee with
    | value f => have hf : ρ f = ρ' f := h f (by simp [Call.operands]); simp only [hf]
    | _ => rfl
  case next it b => cases b <;> simp_all
  all_goals first | rfl | (simp_all; done)

theorem svN_congr {o : Op} {ρ ρ' : Operand → SV} (h : ∀ x ∈ o.operands, ρ x = ρ' x) : (o.operands.toList.flatMap fun x => svN (ρ x)) = o.operands.toList.flatMap fun x => svN (ρ' x) := by
  have : ∀ l : List Operand, (∀ x ∈ l, ρ x = ρ' x) → (l.flatMap fun x => svN (ρ x)) = l.flatMap fun x => svN (ρ' x) := by
    intro l
    induction l with
    | nil => intro _; rfl
    | cons y l ih => intro hl; simp only [List.flatMap_cons]; rw [hl y (by simp), ih fun x hx => hl x (by simp [hx])]
  exact this _ fun x hx => h x (by simpa using hx)

theorem okT_congr {o : Op} {ρ ρ' : Operand → SV} {ob ob' : Obs} {ts : List Nat} (h : ∀ x ∈ o.operands, ρ x = ρ' x) (hob : ∀ n ∈ ts, get ob n = get ob' n) : okT o ρ ob ts = okT o ρ' ob' ts := by
  have h1 : ∀ l : List Operand, (∀ x ∈ l, ρ x = ρ' x) → (l.all fun x => (svN (ρ x)).all ts.contains) = l.all fun x => (svN (ρ' x)).all ts.contains := by
    intro l
    induction l with
    | nil => intro _; rfl
    | cons y l ih => intro hl; simp only [List.all_cons]; rw [hl y (by simp), ih fun x hx => hl x (by simp [hx])]
  have h2 : ∀ l : List Nat, (∀ n ∈ l, get ob n = get ob' n) → (l.all fun n => (obN ob n).all ts.contains) = l.all fun n => (obN ob' n).all ts.contains := by
    intro l
    induction l with
    | nil => intro _; rfl
    | cons y l ih => intro hl; simp only [List.all_cons]; rw [show obN ob y = obN ob' y by unfold obN; rw [hl y (by simp)], ih fun x hx => hl x (by simp [hx])]
  unfold okT
  rw [h1 _ fun x hx => h x (by simpa using hx), h2 ts hob]

/-! #### What changes nothing -/
/-- it hands on one value, and looks at these objects only -/
def Pure (f : Obs → (R' : Type) → (SV → Obs → Option R') → Option R') (ob : Obs) (ns : List Nat) : Prop :=
  ∃ v, ∀ (ob2 : Obs) (R' : Type) (k' : SV → Obs → Option R'), (∀ n ∈ ns, get ob2 n = get ob n) → f ob2 R' k' = k' v ob2

theorem ret1_pure {o : Option SV} {ob : Obs} {k : SV → Obs → Option R} {r : R} (h : ret1 o ob k = some r) {ns : List Nat} : Pure (fun ob R' k' => ret1 o ob k') ob ns := by
  cases o with
  | none => simp [ret1] at h
  | some v => exact ⟨v, fun ob2 R' k' _ => rfl⟩

theorem xLoad_pure {t : Nat} {p : SV} {ob : Obs} {k : SV → Obs → Option R} {r : R} (h : xLoad E t p ob k = some r) : Pure (fun ob R' k' => xLoad E t p ob k') ob (dN p) := by
  unfold xLoad at h
  split at h
  · cases h
  · rename_i ti hti
    split at h
    · rename_i n g off
      split at h
      · rename_i g' cs hg
        split at h
        · rename_i hgg
          obtain ⟨v, hv⟩ := ret1_pure h (ns := [])
          refine ⟨v, fun ob2 R' k' ha => ?_⟩
          have := ha n (by simp [dN])
          simp only [xLoad, hti, this, hg, if_pos hgg]
          exact hv ob2 R' k' (by simp)
        · cases h
      · cases h
    · rename_i e n g i off
      split at h
      · rename_i g' e' xs hg
        split at h
        · rename_i hgg
          split at h
          · rename_i he
            obtain ⟨v, hv⟩ := ret1_pure h (ns := [])
            refine ⟨v, fun ob2 R' k' ha => ?_⟩
            have := ha n (by simp [dN])
            simp only [xLoad, hti, this, hg, if_pos hgg, dif_pos he]
            exact hv ob2 R' k' (by simp)
          · cases h
        · cases h
      · cases h
    · rename_i e x off
      obtain ⟨v, hv⟩ := ret1_pure h (ns := [])
      refine ⟨v, fun ob2 R' k' ha => ?_⟩
      simp only [xLoad, hti]
      exact hv ob2 R' k' (by simp)
    · cases h

theorem pure_ite {c : Prop} [Decidable c] {f g : Obs → (R' : Type) → (SV → Obs → Option R') → Option R'} {ob : Obs} {ns : List Nat} (h : c ∧ Pure f ob ns ∨ ¬ c ∧ Pure g ob ns) :
    Pure (fun ob R' k' => if c then f ob R' k' else g ob R' k') ob ns := by
  rcases h with ⟨hc, v, hv⟩ | ⟨hc, v, hv⟩
  · exact ⟨v, fun ob2 R' k' ha => by simp only [if_pos hc]; exact hv ob2 R' k' ha⟩
  · exact ⟨v, fun ob2 R' k' ha => by simp only [if_neg hc]; exact hv ob2 R' k' ha⟩

theorem pure_k (v : SV) (ob : Obs) (ns : List Nat) : Pure (fun ob _ k' => k' v ob) ob ns := ⟨v, fun _ _ _ _ => rfl⟩

theorem xBin_pure {t : Nat} {c : Bool} {op : BinOp} {x y : SV} {ob : Obs} {k : SV → Obs → Option R} {r : R} (h : xBin E t c op x y ob k = some r) : Pure (fun ob R' k' => xBin E t c op x y ob k') ob [] := by
  unfold xBin at h ⊢
  repeat' split at h
  all_goals first
    | (cases h; done)
    | exact pure_k _ _ _
    | exact ret1_pure h
    | exact pure_ite (.inl ⟨by assumption, pure_k _ _ _⟩)
    | exact pure_ite (.inr ⟨by assumption, pure_k _ _ _⟩)
    | exact pure_ite (.inl ⟨by assumption, ret1_pure h⟩)
    | exact pure_ite (.inl ⟨by assumption, pure_ite (.inr ⟨by assumption, pure_k _ _ _⟩)⟩)

theorem xUn_pure {op : UnOp} {x : SV} {ob : Obs} {k : SV → Obs → Option R} {r : R} (h : xUn op x ob k = some r) : Pure (fun ob R' k' => xUn op x ob k') ob [] := by
  unfold xUn at h ⊢
  repeat' split at h
  all_goals first
    | (cases h; done)
    | exact pure_k _ _ _
    | exact ret1_pure h

theorem xFieldAddr_pure {t : Nat} {p : SV} {f : Nat} {ob : Obs} {k : SV → Obs → Option R} {r : R} (h : xFieldAddr E t p f ob k = some r) : Pure (fun ob R' k' => xFieldAddr E t p f ob k') ob [] := by
  unfold xFieldAddr at h
  split at h
  · rename_i hti
    split at h
    · rename_i hf
      split at h
      · rename_i hu
        split at h
        · cases h
        · rename_i h3
          obtain ⟨v, hv⟩ := ret1_pure h (ns := [])
          refine ⟨v, fun ob2 R' k' ha => ?_⟩
          simp only [xFieldAddr, hti, hf, hu, if_neg h3]
          exact hv ob2 R' k' ha
      · cases h
    · cases h
  · cases h

theorem xField_pure {t : Nat} {p : SV} {f : Nat} {ob : Obs} {k : SV → Obs → Option R} {r : R} (h : xField E t p f ob k = some r) : Pure (fun ob R' k' => xField E t p f ob k') ob [] := by
  unfold xField at h
  split at h
  · rename_i hti
    split at h
    · rename_i hf
      split at h
      · rename_i hu
        obtain ⟨v, hv⟩ := ret1_pure h (ns := [])
        refine ⟨v, fun ob2 R' k' ha => ?_⟩
        simp only [xField, hti, hf, hu]
        exact hv ob2 R' k' ha
      · cases h
    · cases h
  · cases h

theorem xIndexAddr_pure {t : Nat} {x i : SV} {ob : Obs} {k : SV → Obs → Option R} {r : R} (h : xIndexAddr E t x i ob k = some r) : Pure (fun ob R' k' => xIndexAddr E t x i ob k') ob (dN x) := by
  unfold xIndexAddr at h
  split at h
  · split at h
    · rename_i hti
      split at h
      · rename_i htu
        split at h
        · split at h
          · rename_i hc
            split at h
            · rename_i hi
              exact ⟨_, fun ob2 R' k' ha => by simp only [xIndexAddr, hti, htu, if_pos hc, if_pos hi]; rfl⟩
            · cases h
          · cases h
        · rename_i n g
          split at h
          · rename_i hg
            split at h
            · rename_i hc
              split at h
              · rename_i hi
                exact ⟨_, fun ob2 R' k' ha => by simp only [xIndexAddr, hti, htu, ha n (by simp [dN]), hg, if_pos hc, if_pos hi]; rfl⟩
              · cases h
            · cases h
          · rename_i hg
            split at h
            · rename_i hc
              split at h
              · rename_i hi
                exact ⟨_, fun ob2 R' k' ha => by simp only [xIndexAddr, hti, htu, ha n (by simp [dN]), hg, if_pos hc, if_pos hi]; rfl⟩
              · cases h
            · cases h
          · cases h
        · cases h
      · cases h
    · rename_i hti
      split at h
      · rename_i htu
        split at h
        · rename_i hc
          obtain ⟨v, hv⟩ := ret1_pure h (ns := [])
          exact ⟨v, fun ob2 R' k' ha => by simp only [xIndexAddr, hti, htu, if_pos hc]; exact hv ob2 R' k' (by simp)⟩
        · cases h
      · cases h
    · cases h
  · cases h

theorem xIndex_pure {t : Nat} {x i : SV} {ob : Obs} {k : SV → Obs → Option R} {r : R} (h : xIndex E t x i ob k = some r) : Pure (fun ob R' k' => xIndex E t x i ob k') ob [] := by
  unfold xIndex at h
  split at h
  · rename_i hti
    split at h
    · split at h
      · rename_i hc
        exact ⟨_, fun ob2 R' k' ha => by simp only [xIndex, hti, if_pos hc]; rfl⟩
      · cases h
    · cases h
  · rename_i hti
    split at h
    · rename_i htu
      split at h
      · rename_i hc
        obtain ⟨v, hv⟩ := ret1_pure h (ns := [])
        exact ⟨v, fun ob2 R' k' ha => by simp only [xIndex, hti, htu, if_pos hc]; exact hv ob2 R' k' (by simp)⟩
      · cases h
    · cases h
  · cases h

theorem lenOf_congr {x : SV} {ob ob2 : Obs} (ha : ∀ n ∈ dN x, get ob2 n = get ob n) : lenOf ob2 x = lenOf ob x := by
  cases x <;> simp only [lenOf]
  rename_i n g
  rw [ha n (by simp [dN])]

theorem listOf_congr {e : K} {x : SV} {ob ob2 : Obs} (ha : ∀ n ∈ dN x, get ob2 n = get ob n) : listOf ob2 e x = listOf ob e x := by
  cases x <;> simp only [listOf]
  rename_i n g
  rw [ha n (by simp [dN])]

theorem xLen_pure {ats : List Nat} {as : List SV} {ob : Obs} {k : SV → Obs → Option R} {r : R} (h : xBuiltin E 0 .len ats as ob k = some r) :
    ∃ v, ∀ (d : Nat) (ob2 : Obs) (R' : Type) (k' : SV → Obs → Option R'), (∀ n ∈ as.flatMap dN, get ob2 n = get ob n) → xBuiltin E d .len ats as ob2 k' = k' v ob2 := by
  match ats, as with
  | [t], [x] =>
    simp only [xBuiltin] at h
    have hl2 : ∀ ob2 : Obs, (∀ n ∈ [x].flatMap dN, get ob2 n = get ob n) → lenOf ob2 x = lenOf ob x := fun ob2 ha => lenOf_congr fun n hn => ha n (by simpa using hn)
    split at h
    · rename_i hti
      cases x <;> simp only [reduceCtorEq] at h
      exact ⟨_, fun d ob2 R' k' ha => by simp only [xBuiltin, hti]; rfl⟩
    · rename_i hti
      cases hx : lenOf ob x with
      | none => cases x <;> simp [hx] at h
      | some n =>
        refine ⟨.int .i64 n, fun d ob2 R' k' ha => ?_⟩
        have := (hl2 ob2 ha).trans hx
        cases x <;> simp only [reduceCtorEq] at h <;> simp only [xBuiltin, hti, this]
    · cases h
  | [], _ => simp [xBuiltin] at h
  | [_], [] => simp [xBuiltin] at h
  | [_], _ :: _ :: _ => simp [xBuiltin] at h
  | _ :: _ :: _, _ => simp [xBuiltin] at h

theorem xMin_pure {b : Builtin} (hb : b = .min ∨ b = .max) {ats : List Nat} {as : List SV} {ob : Obs} {k : SV → Obs → Option R} {r : R} (h : xBuiltin E 0 b ats as ob k = some r) :
    ∃ v, ∀ (d : Nat) (ob2 : Obs) (R' : Type) (k' : SV → Obs → Option R'), xBuiltin E d b ats as ob2 k' = k' v ob2 := by
  match as with
  | [x, y] =>
    rcases hb with rfl | rfl <;> cases x <;> cases y <;> simp only [xBuiltin, reduceCtorEq] at h ⊢ <;>
      (split at h <;> first | (cases h; done) | (rename_i hk; exact ⟨_, fun d ob2 R' k' => by rw [if_pos hk]⟩))
  | [x, y, z] =>
    rcases hb with rfl | rfl <;> cases x <;> cases y <;> cases z <;> simp only [xBuiltin, reduceCtorEq] at h ⊢ <;>
      (split at h <;> first | (cases h; done) | (rename_i hk; exact ⟨_, fun d ob2 R' k' => by rw [if_pos hk]⟩))
  | [] => rcases hb with rfl | rfl <;> simp [xBuiltin] at h
  | [x] => rcases hb with rfl | rfl <;> simp [xBuiltin] at h
  | _ :: _ :: _ :: _ :: _ => rcases hb with rfl | rfl <;> simp [xBuiltin] at h

theorem xConvert_pure {src dst : Nat} {x : SV} (hx : ∀ s, x ≠ .str s) {ob : Obs} {k : SV → Obs → Option R} {r : R} (h : xConvert E 0 src dst x ob k = some r) :
    ∃ v, ∀ (d : Nat) (ob2 : Obs) (R' : Type) (k' : SV → Obs → Option R'), (∀ n ∈ dN x, get ob2 n = get ob n) → xConvert E d src dst x ob2 k' = k' v ob2 := by
  unfold xConvert at h
  split at h
  · rename_i h1 h2
    split at h
    · rename_i h3
      exact ⟨_, fun d ob2 R' k' ha => by simp only [xConvert, h1, h2, h3]; rfl⟩
    · exact absurd rfl (hx _)
    · rename_i h3
      exact ⟨_, fun d ob2 R' k' ha => by simp only [xConvert, h1, h2, h3]; rfl⟩
    · rename_i h3 hn1 hn2
      split at h
      · rename_i h4 h5
        split at h
        · rename_i xs _ hl
          refine ⟨.str xs, fun d ob2 R' k' ha => ?_⟩
          have := (listOf_congr (e := .int .u8) ha).trans hl
          simp only [xConvert, h1, h2, h3]
          split <;> simp_all
        · cases h
      · cases h
    · exact absurd rfl (hx _)
    · cases h
  · cases h

theorem xSlice_pure {t : Nat} {s : List Int} {lo hi mx : Option SV} {ob : Obs} {k : SV → Obs → Option R} {r : R} (h : xSlice E 0 t (.str s) lo hi mx ob k = some r) :
    ∃ v, ∀ (d : Nat) (ob2 : Obs) (R' : Type) (k' : SV → Obs → Option R'), xSlice E d t (.str s) lo hi mx ob2 k' = k' v ob2 := by
  unfold xSlice at h
  split at h
  · cases h
  · simp only [lenOf] at h
    split at h
    · rename_i h1 h2
      split at h
      · rename_i hc
        split at h
        · rename_i hti
          exact ⟨_, fun d ob2 R' k' => by simp only [xSlice, lenOf, h1, h2, if_pos hc, hti]; rfl⟩
        · cases h
      · cases h
    · cases h

theorem xBuild_pure {t : Nat} {ps : List (Nat × SV)} {ob : Obs} {k : SV → Obs → Option R} {r : R} (h : xBuild E t ps ob k = some r) : Pure (fun ob _ k' => xBuild E t ps ob k') ob [] := by
  unfold xBuild at h
  split at h
  · rename_i hti
    split at h
    · rename_i hs
      split at h
      · rename_i hp
        exact ⟨_, fun ob2 R' k' _ => by simp only [xBuild, hti, hs, hp]; rfl⟩
      · cases h
    · cases h
  · cases h

/-! #### What changes nothing: all of it -/
/-- the value, wherever the objects that it looks at are as they were -/
def NV (E : Env) (o : Op) (ρ : Operand → SV) (ob : Obs) (v : SV) : Prop :=
  ∀ (ob2 : Obs) (R' : Type) (k' : SV → Option R'), (∀ n ∈ namesN o ρ, get ob2 n = get ob n) → execN E o ρ ob2 k' = k' v

theorem execN_nv {o : Op} {ρ : Operand → SV} {ob : Obs} {k : SV → Option R} {r : R} (h : execN E o ρ ob k = some r) : ∃ v, NV E o ρ ob v := by
  cases o <;> simp only [execN, reduceCtorEq] at h
  case move x => exact ⟨_, fun ob2 R' k' _ => rfl⟩
  case assign x => exact ⟨_, fun ob2 R' k' _ => rfl⟩
  case pick c a b =>
    split at h
    · rename_i t hc
      cases t with
      | true => exact ⟨ρ a, fun ob2 R' k' _ => by simp only [execN, hc, if_true]⟩
      | false => exact ⟨ρ b, fun ob2 R' k' _ => by simp only [execN, hc]; rfl⟩
    · cases h
  case load t a =>
    obtain ⟨v, hv⟩ := xLoad_pure h
    exact ⟨v, fun ob2 R' k' ha => hv ob2 R' (fun v _ => k' v) ha⟩
  case nilCheck x =>
    split at h
    · rename_i hc
      exact ⟨_, fun ob2 R' k' _ => by simp only [execN, hc]; rfl⟩
    · cases h
  case binOp op t x y yt =>
    obtain ⟨v, hv⟩ := xBin_pure h
    exact ⟨v, fun ob2 R' k' ha => hv [] R' (fun v _ => k' v) (by simp)⟩
  case unOp op t x =>
    obtain ⟨v, hv⟩ := xUn_pure h
    exact ⟨v, fun ob2 R' k' ha => hv [] R' (fun v _ => k' v) (by simp)⟩
  case build t ps =>
    obtain ⟨v, hv⟩ := xBuild_pure h
    exact ⟨v, fun ob2 R' k' ha => hv [] R' (fun v _ => k' v) (by simp)⟩
  case buildSlice t n ps =>
    unfold xBuildRo at h
    split at h
    · rename_i hel
      split at h
      · rename_i hc
        split at h
        · rename_i hf
          exact ⟨_, fun ob2 R' k' _ => by simp only [execN, xBuildRo, hel, if_pos hc, hf]; rfl⟩
        · cases h
      · cases h
    · cases h
  case convert src dst x =>
    split at h
    · cases h
    · rename_i hx
      obtain ⟨v, hv⟩ := xConvert_pure (fun s hs => hx s hs) h
      refine ⟨v, fun ob2 R' k' ha => ?_⟩
      simp only [execN]
      first
        | exact hv 0 ob2 R' (fun v _ => k' v) ha
        | (split
           · rename_i s hs; exact absurd hs (hx s)
           · exact hv 0 ob2 R' (fun v _ => k' v) ha)
  case slice t x lo hi mx =>
    split at h
    · rename_i s hs
      obtain ⟨v, hv⟩ := xSlice_pure h
      exact ⟨v, fun ob2 R' k' ha => by simp only [execN, hs]; exact hv 0 [] R' (fun v _ => k' v)⟩
    · cases h
  case fieldAddr t x f =>
    obtain ⟨v, hv⟩ := xFieldAddr_pure h
    exact ⟨v, fun ob2 R' k' ha => hv [] R' (fun v _ => k' v) (by simp)⟩
  case field t x f =>
    obtain ⟨v, hv⟩ := xField_pure h
    exact ⟨v, fun ob2 R' k' ha => hv [] R' (fun v _ => k' v) (by simp)⟩
  case indexAddr t x i =>
    obtain ⟨v, hv⟩ := xIndexAddr_pure h
    exact ⟨v, fun ob2 R' k' ha => hv ob2 R' (fun v _ => k' v) ha⟩
  case index t x i =>
    obtain ⟨v, hv⟩ := xIndex_pure h
    exact ⟨v, fun ob2 R' k' ha => hv [] R' (fun v _ => k' v) (by simp)⟩
  case extract t i =>
    split at h
    · rename_i vs hs
      obtain ⟨v, hv⟩ := ret1_pure h (ns := [])
      exact ⟨v, fun ob2 R' k' ha => by simp only [execN, hs]; exact hv [] R' (fun v _ => k' v) (by simp)⟩
    · cases h
  case call c =>
    obtain ⟨callee, args, ats⟩ := c
    cases callee with
    | builtin b =>
      cases b <;> simp only [reduceCtorEq] at h
      case len =>
        obtain ⟨v, hv⟩ := xLen_pure h
        exact ⟨v, fun ob2 R' k' ha => hv 0 ob2 R' (fun v _ => k' v) (fun n hn => ha n (by simp only [namesN]; rw [List.flatMap_map] at hn; exact hn))⟩
      case min =>
        obtain ⟨v, hv⟩ := xMin_pure (.inl rfl) h
        exact ⟨v, fun ob2 R' k' ha => hv 0 [] R' (fun v _ => k' v)⟩
      case max =>
        obtain ⟨v, hv⟩ := xMin_pure (.inr rfl) h
        exact ⟨v, fun ob2 R' k' ha => hv 0 [] R' (fun v _ => k' v)⟩
    | _ => simp at h

/-- the machine's own step does the same -/
theorem execN_exec {o : Op} {ρ : Operand → SV} {ob : Obs} {v : SV} (hb : ∀ t n ps, o ≠ .buildSlice t n ps) (h : execN E o ρ ob some = some v) (d : Nat) :
    exec E d o ρ ob (fun v ob' => some (v, ob')) = some (v, ob) := by
  cases o <;> simp only [execN, reduceCtorEq] at h <;> simp only [exec]
  case move x => cases h; rfl
  case assign x => cases h; rfl
  case pick c a b =>
    split at h
    · rename_i t hc
      cases t with
      | true => simp only [if_true] at h ⊢; cases h; rfl
      | false => simp only [Bool.false_eq_true, if_false] at h ⊢; cases h; rfl
    · cases h
  case load t a =>
    obtain ⟨u, hu⟩ := xLoad_pure h
    have h1 := h.symm.trans (hu ob _ (fun v _ => some v) (fun _ _ => rfl))
    cases h1
    exact hu ob _ _ (fun _ _ => rfl)
  case nilCheck x =>
    split at h
    · cases h; rfl
    · cases h
  case binOp op t x y yt =>
    obtain ⟨u, hu⟩ := xBin_pure h
    have h1 := h.symm.trans (hu [] _ (fun v _ => some v) (by simp))
    cases h1
    exact hu ob _ _ (by simp)
  case unOp op t x =>
    obtain ⟨u, hu⟩ := xUn_pure h
    have h1 := h.symm.trans (hu [] _ (fun v _ => some v) (by simp))
    cases h1
    exact hu ob _ _ (by simp)
  case build t ps =>
    obtain ⟨u, hu⟩ := xBuild_pure h
    have h1 := h.symm.trans (hu [] _ (fun v _ => some v) (by simp))
    cases h1
    exact hu ob _ _ (by simp)
  case buildSlice t n ps => exact absurd rfl (hb t n ps)
  case convert src dst x =>
    split at h
    · cases h
    · rename_i hx
      obtain ⟨u, hu⟩ := xConvert_pure (fun s hs => hx s hs) h
      have h1 := h.symm.trans (hu 0 ob _ (fun v _ => some v) (fun _ _ => rfl))
      cases h1
      exact hu d ob _ _ (fun _ _ => rfl)
  case slice t x lo hi mx =>
    split at h
    · rename_i s hs
      rw [hs]
      obtain ⟨u, hu⟩ := xSlice_pure h
      have h1 := h.symm.trans (hu 0 [] _ (fun v _ => some v))
      cases h1
      exact hu d ob _ _
    · cases h
  case fieldAddr t x f =>
    obtain ⟨u, hu⟩ := xFieldAddr_pure h
    have h1 := h.symm.trans (hu [] _ (fun v _ => some v) (by simp))
    cases h1
    exact hu ob _ _ (by simp)
  case field t x f =>
    obtain ⟨u, hu⟩ := xField_pure h
    have h1 := h.symm.trans (hu [] _ (fun v _ => some v) (by simp))
    cases h1
    exact hu ob _ _ (by simp)
  case indexAddr t x i =>
    obtain ⟨u, hu⟩ := xIndexAddr_pure h
    have h1 := h.symm.trans (hu ob _ (fun v _ => some v) (fun _ _ => rfl))
    cases h1
    exact hu ob _ _ (fun _ _ => rfl)
  case index t x i =>
    obtain ⟨u, hu⟩ := xIndex_pure h
    have h1 := h.symm.trans (hu [] _ (fun v _ => some v) (by simp))
    cases h1
    exact hu ob _ _ (by simp)
  case extract t i =>
    split at h
    · rename_i vs hs
      obtain ⟨u, hu⟩ := ret1_pure h (ns := [])
      have h1 := h.symm.trans (hu [] _ (fun v _ => some v) (by simp))
      cases h1
      exact hu ob _ _ (by simp)
    · cases h
  case call c =>
    obtain ⟨callee, args, ats⟩ := c
    cases callee with
    | builtin b =>
      cases b <;> simp only [reduceCtorEq] at h
      case len =>
        obtain ⟨u, hu⟩ := xLen_pure h
        have h1 := h.symm.trans (hu 0 ob _ (fun v _ => some v) (fun _ _ => rfl))
        cases h1
        exact hu d ob _ _ (fun _ _ => rfl)
      case min =>
        obtain ⟨u, hu⟩ := xMin_pure (.inl rfl) h
        have h1 := h.symm.trans (hu 0 [] _ (fun v _ => some v))
        cases h1
        exact hu d ob _ _
      case max =>
        obtain ⟨u, hu⟩ := xMin_pure (.inr rfl) h
        have h1 := h.symm.trans (hu 0 [] _ (fun v _ => some v))
        cases h1
        exact hu d ob _ _
    | _ => simp at h

/-! #### In the world -/
variable {w0 : World} {R0 S0 : Nat → Nat → Prop} {γ : Gh} {w : World} {ob : Obs}

theorem Mem.newRo (hm : Mem w0 R0 S0 γ ob w) {w' : World} (hev : Ev (fun _ _ => False) w w') (hsz : w.heap.size < w'.heap.size) {e : K} {xs : List e.T} {ns : List Value} {cap : Nat}
    (hf : Flat w γ.S e xs ns) (hr : w'.rangeAt w.heap.size 0 ns) (hc : xs.length ≤ cap) (hl : xs.length ≤ lim) :
    Mem w0 R0 S0 { β := γ.β, S := fun b i => γ.S b i ∨ b = w.heap.size } ob w' ∧ Le γ w { β := γ.β, S := fun b i => γ.S b i ∨ b = w.heap.size } w' ∧
    V w' { β := γ.β, S := fun b i => γ.S b i ∨ b = w.heap.size } (.ro e xs) (.slice (some ⟨w.heap.size, 0, none⟩) xs.length cap) := by
  obtain ⟨m1, le1⟩ := hm.still hev
  have hle : Le γ w { β := γ.β, S := fun b i => γ.S b i ∨ b = w.heap.size } w' := ⟨le1.β, fun b i h => .inl h, le1.keeps⟩
  have hlim := lim_eq
  refine ⟨⟨fun n ent hn => ?_, hm.top, hm.disj, fun n b i h1 h2 => ?_, m1.live, fun b i h => ?_, fun b i h => ?_, m1.ev⟩, hle, ?_⟩
  · obtain ⟨l, h1, h2⟩ := hm.objs n ent hn
    exact ⟨l, h1, h2.mono hle hev fun _ _ _ hf => hf⟩
  · rcases h2 with h2 | h2
    · exact hm.stab n b i h1 h2
    · have := (hm.live n b i h1).2; omega
  · rcases h with h | h
    · exact m1.sex b i h
    · omega
  · rcases h with h | h
    · exact hm.sb b i h
    · refine .inr (.inr ?_)
      rw [h]
      exact hm.ev.size
  · simp only [V]
    refine ⟨_, _, _, rfl, rfl, hc, by omega, fun hne => ⟨w.heap.size, 0, rfl, fun i hi => ?_⟩⟩
    obtain ⟨cs, h1, h2⟩ := (hf.mono (S' := fun b i => γ.S b i ∨ b = w.heap.size) (fun _ _ h => .inl h) le1.keeps).rows (w' := w') (b := w.heap.size) (off := 0) hr i hi
    exact ⟨cs, h1, by simpa using h2, fun j hj => .inr rfl⟩

theorem toK_flat : ∀ {e : K} {l r : List SV} {ob ob' : Obs} {x : e.T}, e.deep = false → toK e l ob = some (x, r, ob') → ∀ ob2, toK e l ob2 = some (x, r, ob2)
  | .int k, l, r, ob, ob', x, _, h, ob2 => by
    cases l with
    | nil => simp [toK] at h
    | cons v l =>
      cases v <;> simp only [toK, reduceCtorEq] at h ⊢
      split at h
      · rename_i hk; cases h; rw [if_pos hk]
      · cases h
  | .bool, l, r, ob, ob', x, _, h, ob2 => by
    cases l with
    | nil => simp [toK] at h
    | cons v l =>
      cases v <;> simp only [toK, reduceCtorEq] at h ⊢
      cases h; rfl
  | .str, l, r, ob, ob', x, _, h, ob2 => by
    cases l with
    | nil => simp [toK] at h
    | cons v l =>
      cases v <;> simp only [toK, reduceCtorEq] at h ⊢
      cases h; rfl
  | .sl e, l, r, ob, ob', x, hd, h, ob2 => by simp [K.deep] at hd
  | .unit, l, r, ob, ob', x, _, h, ob2 => by simp only [toK] at h ⊢; cases h; rfl
  | .pair a b, l, r, ob, ob', x, hd, h, ob2 => by
    simp only [K.deep, Bool.or_eq_false_iff] at hd
    simp only [toK] at h ⊢
    split at h
    · rename_i x1 r1 ob1 h1
      split at h
      · rename_i y r2 ob2' h2
        cases h
        simp only [toK_flat hd.1 h1 ob2, toK_flat hd.2 h2 ob2]
      · cases h
    · cases h

theorem fillSl_flat {e : K} (hd : e.deep = false) : ∀ {vs : List SV} {ob ob' : Obs} {xs : List e.T}, fillSl e ob vs = some (xs, ob') → ∀ ob2, fillSl e ob2 vs = some (xs, ob2)
  | [], ob, ob', xs, h, ob2 => by simp only [fillSl] at h ⊢; cases h; rfl
  | v :: vs, ob, ob', xs, h, ob2 => by
    simp only [fillSl] at h ⊢
    split at h
    · rename_i cs hcs
      split at h
      · rename_i x ob1 hx
        split at h
        · rename_i xs' ob2' hxs
          cases h
          have h1 : toK1 e cs ob2 = some (x, ob2) := by
            unfold toK1 at hx ⊢
            split at hx
            · rename_i h3
              cases hx
              rw [toK_flat hd h3 ob2]
            · cases hx
          simp only [hcs, h1, fillSl_flat hd hxs ob2]
        · cases h
      · cases h
    · cases h

theorem xBuildRo_ok {t len : Nat} {ps : List (Nat × SV)} {qs : List (Nat × Value)} {v : SV} (hm : Mem w0 R0 S0 γ ob w) (hi : qs.map (·.1) = ps.map (·.1)) (hv : VL w γ (ps.map (·.2)) (qs.map (·.2))) (h : xBuildRo E t len ps [] some = some v) :
    ∃ u w' γ', (Instr.buildSlice t len qs.toArray).run E.P w = .ok u w' ∧ V w' γ' v u ∧ Mem w0 R0 S0 γ' ob w' ∧ Le γ w γ' w' := by
  unfold xBuildRo at h
  split at h
  · rename_i tu e hel
    obtain ⟨u, i, z, a1, a2, a3, a4, a5, a6, a7, a8, a9, a10, a11⟩ := el_spec hel
    split at h
    · rename_i hc
      obtain ⟨hc1, hc3, hc2, hdp⟩ := hc
      split at h
      · rename_i xs ob1 hf
        cases h
        obtain ⟨γ1, m1, le1, f1, hl, hs⟩ := fillSl_ok hm hv (fillSl_flat hdp hf ob)
        have hqs : qs = ((qs.map (·.2)).zipIdx 0).map fun p => (p.2, p.1) := by
          apply List.ext_getElem?
          intro j
          rw [List.getElem?_map, List.getElem?_zipIdx, List.getElem?_map]
          rcases Nat.lt_or_ge j qs.length with hj | hj
          · have h1 : (qs.map (·.1))[j]? = (List.range len)[j]? := by rw [hi, hc2]
            have hlen : qs.length = len := by have := congrArg List.length hi; rw [hc2] at this; simpa using this
            rw [List.getElem?_map, List.getElem?_eq_getElem hj, List.getElem?_range (by omega)] at h1
            rw [List.getElem?_eq_getElem hj]
            have h2 : qs[j].1 = j := by simpa using h1
            show some qs[j] = some (0 + j, qs[j].2)
            rw [Nat.zero_add]
            exact congrArg some (Prod.ext h2 rfl)
          · rw [List.getElem?_eq_none hj]; rfl
        have hlen : (qs.map (·.2)).length = len := by have := congrArg List.length hi; rw [hc2] at this; simpa using this
        have hlim : lim = 4294967296 := rfl
        have hsize := run_size (E := E) a2 w
        rw [a6] at hsize
        let zs : Array Value := if len * e.cells = 0 then #[] else z.cells
        let zc : Array Value := (Array.range (len * e.cells)).map fun i => zs[i % zs.size]!
        obtain ⟨cs, h2, h3⟩ := fill_all e.cells (qs.map (·.2)) 0 zc hs (by simp [zc, hlen])
        rw [← hqs] at h2
        simp only [Nat.zero_mul, List.take_zero, List.nil_append] at h3
        have hfl := f1.len
        rw [← h3] at f1 hfl
        have hcap : xs.length = len := by omega
        obtain ⟨hm', hle, hV⟩ := Mem.newRo m1 (w' := w.alloc (.cells cs u)) (Ev.alloc _ _ _) (size_alloc _ _) (cap := len) f1 (rangeAt_alloc _ _ _ _ _ (fun j v hv => by simpa using hv)) (by omega) (by rw [hcap]; exact hc3)
        refine ⟨.slice (some ⟨w.heap.size, 0, none⟩) len len, _, _, ?_, by rw [← hcap] at hV ⊢; exact hV, hm', le1.trans hle⟩
        have hz := run_zero (E := E) a3 a4 w
        have h16 : ¬ (len * e.cells > 2 ^ 24) := by omega
        simp only [Instr.buildSlice, Sem.run_bind, run_underlying a1, Result.andThen_ok, hsize, Sem.run_ite, if_neg h16]
        by_cases h0 : len * e.cells = 0
        · rw [if_pos h0]
          simp only [zc, zs] at h2
          rw [if_pos h0] at h2
          simp only [Sem.run_pure, Result.andThen_ok, h2]
          rfl
        · rw [if_neg h0]
          simp only [zc, zs] at h2
          rw [if_neg h0] at h2
          simp only [hz, Sem.run_pure, Result.andThen_ok, h2]
          rfl
      · cases h
    · cases h
  · cases h

/-- an operation that changes nothing, in the world -/
theorem execN_ok {o : Oper} {a : Act} {sl : List SV} {v : SV} {next : Act → World → Prop} {Q : Exit → Act → World → Prop} {gl : List (Nat × Obj)} (hsat : Sats E gl w0 R0 S0) (hS0 : ∀ b i, S0 b i → γ.S b i) (hm : Mem w0 R0 S0 γ ob w) (hs : Sl w γ sl a)
    (h : execN E o.op (opd sl) ob some = some v) (hnext : ∀ u w' γ', V w' γ' v u → Mem w0 R0 S0 γ' ob w' → Le γ w γ' w' → next (a.put o.dst u) w') : o.wp E.P a w next Q := by
  by_cases hb : ∃ t n ps, o.op = .buildSlice t n ps
  · obtain ⟨t, n, ps, ho⟩ := hb
    rw [ho] at h
    simp only [execN] at h
    have h2 : VL w γ ((ps.toList.map fun p => (p.1, opd sl p.2)).map (·.2)) ((ps.toList.map fun p => (p.1, a.eval p.2)).map (·.2)) := by
      have := VL_map hs (ps.toList.map (·.2))
      simpa [List.map_map, Function.comp_def] using this
    obtain ⟨u, w', γ', h3, h4, h5, h6⟩ := xBuildRo_ok hm (qs := ps.toList.map fun p => (p.1, a.eval p.2)) (by simp [List.map_map, Function.comp_def]) h2 h
    have h7 : (execOp a.eval o) = (do pure (.value (← Instr.buildSlice t n (ps.toList.map fun p => (p.1, a.eval p.2)).toArray))) := by
      obtain ⟨dst, op, ty, pos, after, guard⟩ := o
      simp only at ho
      subst ho
      simp only [execOp]
      congr 2
      apply Array.ext'
      simp
    unfold Oper.wp
    rw [h7, Sem.run_bind, h3]
    exact hnext u w' γ' h4 h5 h6
  · have := execN_exec (E := E) (fun t n ps he => hb ⟨t, n, ps, he⟩) h (o.dst.getD 0)
    refine exec_ok hsat hS0 hm hs this fun v' ob' u w' γ' h1 h2 h3 h4 => ?_
    cases h1
    exact hnext u w' γ' h2 h3 h4

end
end Go.Vm
