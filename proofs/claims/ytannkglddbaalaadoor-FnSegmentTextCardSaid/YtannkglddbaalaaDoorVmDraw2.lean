/-
  Regions that draw their order: what changes objects, with only these objects in sight.
-/
import Derived.Test.YtannkglddbaalaaDoorVmDraw
set_option linter.unusedSimpArgs false
set_option linter.unusedVariables false
namespace Go.Vm

section
variable {E : Env} {R : Type}

/-! #### Only some objects -/
theorem get_restr {ob : Obs} {n : Nat} : ∀ {ts : List Nat}, get (restr ob ts) n = if n ∈ ts then get ob n else none
  | [] => by simp [restr, get]
  | m :: ts => by
    simp only [restr]
    split
    · rename_i e he
      rw [get_upd]
      by_cases h : m = n
      · subst h; simp [he]
      · rw [if_neg h, get_restr]
        have : (n ∈ m :: ts) ↔ n ∈ ts := by simp [List.mem_cons, Ne.symm h]
        simp only [this]
    · rename_i he
      rw [get_restr]
      by_cases h : m = n
      · subst h; simp [he]
      · have : (n ∈ m :: ts) ↔ n ∈ ts := by simp [List.mem_cons, Ne.symm h]
        simp only [this]

theorem get_merge {ob ob' : Obs} {n : Nat} : ∀ {ts : List Nat}, get (merge ob ob' ts) n = if n ∈ ts then (match get ob' n with | some e => some e | none => get ob n) else get ob n
  | [] => by simp [merge]
  | m :: ts => by
    simp only [merge]
    split
    · rename_i e he
      rw [get_upd]
      by_cases h : m = n
      · subst h; simp [he]
      · rw [if_neg h, get_merge]
        have : (n ∈ m :: ts) ↔ n ∈ ts := by simp [List.mem_cons, Ne.symm h]
        simp only [this]
    · rename_i he
      rw [get_merge]
      by_cases h : m = n
      · subst h; simp [he]
      · have : (n ∈ m :: ts) ↔ n ∈ ts := by simp [List.mem_cons, Ne.symm h]
        simp only [this]

theorem restr_congr {ob ob2 : Obs} : ∀ {ts : List Nat}, (∀ n ∈ ts, get ob2 n = get ob n) → restr ob2 ts = restr ob ts
  | [], _ => rfl
  | m :: ts, h => by
    simp only [restr]
    rw [h m (List.mem_cons_self ..), restr_congr fun n hn => h n (List.mem_cons_of_mem _ hn)]

theorem keys_get {ob ob' : Obs} {ts : List Nat} (h : keysOK ob ob' ts = true) : (∀ n, n ∉ ts → get ob' n = none) ∧ ∀ n ∈ ts, get ob' n = none → get ob n = none := by
  unfold keysOK at h
  simp only [Bool.and_eq_true, List.all_eq_true, Bool.or_eq_true, List.contains_iff_mem] at h
  refine ⟨fun n hn => ?_, fun n hn hg => ?_⟩
  · have : ∀ l : Obs, (∀ p ∈ l, p.1 ∈ ts) → get l n = none := by
      intro l
      induction l with
      | nil => intro _; rfl
      | cons p l ih =>
        intro hl
        obtain ⟨m, e⟩ := p
        simp only [get]
        rw [if_neg (fun e => hn (by rw [← e]; exact hl _ (List.mem_cons_self ..)))]
        exact ih fun p hp => hl p (List.mem_cons_of_mem _ hp)
    exact this ob' h.1
  · rcases h.2 n hn with h1 | h1
    · rw [hg] at h1; simp at h1
    · simpa using h1

theorem get_merge' {ob ob' : Obs} {ts : List Nat} (h : keysOK (restr ob ts) ob' ts = true) {n : Nat} : get (merge ob ob' ts) n = if n ∈ ts then get ob' n else get ob n := by
  rw [get_merge]
  by_cases hn : n ∈ ts
  · rw [if_pos hn, if_pos hn]
    split
    · rename_i e he; rw [he]
    · rename_i he
      have := (keys_get h).2 n hn he
      rw [get_restr, if_pos hn] at this
      rw [this, he]
  · rw [if_neg hn, if_neg hn]

/-! #### What it hands on -/
theorem xAppend_cps {d t : Nat} {x y : SV} {ob : Obs} {k : SV → Obs → Option R} {r : R} (h : xAppend E d t x y ob k = some r) :
    ∃ v ob', xAppend E d t x y ob (fun v ob => some (v, ob)) = some (v, ob') ∧ k v ob' = some r := by
  unfold xAppend at h ⊢
  cases hE : E.el t with
  | none => simp [hE] at h
  | some p =>
    obtain ⟨tu, e⟩ := p
    simp only [hE] at h ⊢
    cases hs : srcOf ob e y with
    | none => simp [hs] at h
    | some q =>
      obtain ⟨ys, rd⟩ := q
      simp only [hs] at h ⊢
      generalize (if e.deep = true then freezes ob rd else ob) = ob1 at h ⊢
      repeat' split at h
      all_goals first | (cases h; done) | (refine ⟨_, _, ?_, h⟩; simp_all; done)

theorem exec_cps {o : Op} {d : Nat} {ρ : Operand → SV} {ob : Obs} {k : SV → Obs → Option R} {r : R} (hc : isCh E o = true) (h : exec E d o ρ ob k = some r) :
    ∃ v ob', exec E d o ρ ob (fun v ob => some (v, ob)) = some (v, ob') ∧ k v ob' = some r := by
  cases o <;> simp only [isCh, Bool.false_eq_true] at hc <;> simp only [exec] at h ⊢
  case alloc t =>
    repeat' split at h
    all_goals first | (cases h; done) | exact ⟨_, _, rfl, h⟩
  case box t x =>
    repeat' split at h
    all_goals first | (cases h; done) | exact ⟨_, _, rfl, h⟩
  case buildSlice t n ps =>
    unfold xBuildSlice at h ⊢
    repeat' split at h
    all_goals first | (cases h; done) | (rename_i h1 h2; exact ⟨_, _, by simp only [*]; rfl, h⟩) | (refine ⟨_, _, ?_, h⟩; simp only [*]; rfl)
  case makeSlice t l c =>
    unfold xMake at h ⊢
    repeat' split at h
    all_goals first | (cases h; done) | (refine ⟨_, _, ?_, h⟩; simp only [*]; rfl)
  case store t a v =>
    unfold xStore at h ⊢
    repeat' split at h
    all_goals first | (cases h; done) | (refine ⟨_, _, ?_, h⟩; simp_all; done)
  case slice t x lo hi mx =>
    unfold xSlice at h ⊢
    repeat' split at h
    all_goals first | (cases h; done) | (refine ⟨_, _, ?_, h⟩; simp_all; done)
  case convert s t x =>
    unfold xConvert at h ⊢
    repeat' split at h
    all_goals first | (cases h; done) | (refine ⟨_, _, ?_, h⟩; simp_all; done)
  case call c =>
    obtain ⟨callee, args, ats⟩ := c
    cases callee with
    | value f =>
      simp only at h ⊢
      split at h
      · unfold xCall at h ⊢
        repeat' split at h
        all_goals first
          | (cases h; done)
          | (obtain ⟨y, hy, hk⟩ := Option.bind_eq_some_iff.1 h
             simp only at hk
             refine ⟨_, _, ?_, hk⟩
             simp only [*]
             rfl)
      · cases h
    | builtin b =>
      cases b
      case append =>
        generalize ats.toList = l1 at h ⊢
        generalize args.toList.map ρ = l2 at h ⊢
        match l1, l2, h with
        | [t, tx], [x, y], h =>
          simp only [xBuiltin] at h ⊢
          split at h
          · rename_i h1
            rw [if_pos h1]
            exact xAppend_cps h
          · cases h
        | [], _, h => simp [xBuiltin] at h
        | [_], _, h => simp [xBuiltin] at h
        | _ :: _ :: _ :: _, _, h => simp [xBuiltin] at h
        | [_, _], [], h => simp [xBuiltin] at h
        | [_, _], [_], h => simp [xBuiltin] at h
        | [_, _], _ :: _ :: _ :: _, h => simp [xBuiltin] at h
      all_goals exact absurd hc (by simp)
    | invoke x n => simp at hc

end
end Go.Vm
