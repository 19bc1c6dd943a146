/-
  Regions that draw their order: every order.
-/
import Derived.Test.YtannkglddbaalaaDoorVmDraw3
set_option linter.unusedSimpArgs false
set_option linter.unusedVariables false
namespace Go.Vm

section
variable {E : Env} {R : Type} {w0 : World} {R0 S0 : Nat → Nat → Prop} {β0 : Nat → Option Loc} {kp : List Nat} {N : Nat}

structure Form (ops : Array Oper) (cl : List (List Nat)) : Prop where
  back : ∀ i o, ops[i]? = some o → ∀ j ∈ cl.getD i [], j < i
  edge : ∀ (i : Nat) (o : Oper), ops[i]? = some o → ∀ e ∈ o.after, Region.binds .any e = true → e.on < i
  clos : ∀ (i : Nat) (o : Oper), ops[i]? = some o → ∀ j ∈ cl.getD i [], ∃ e ∈ o.after, Region.binds .any e = true ∧ (e.on = j ∨ j ∈ cl.getD e.on [])
  slot : ∀ (i j : Nat) (o p : Oper), ops[i]? = some o → ops[j]? = some p → j ≠ i → j ∈ cl.getD i [] ∨ i ∈ cl.getD j [] ∨ ∀ d, p.dst = some d → d ∉ o.looksAt ops
  dst : ∀ (i j : Nat) (o p : Oper), ops[i]? = some o → ops[j]? = some p → j ≠ i → ∀ d, p.dst = some d → o.dst ≠ some d

theorem form_ok {ops : Array Oper} {cl : List (List Nat)} (h : drawOK ops.toList cl = true) : Form ops cl := by
  unfold drawOK at h
  simp only [Bool.and_eq_true, List.all_eq_true, List.mem_range, Array.length_toList] at h
  obtain ⟨_, h⟩ := h
  have get : ∀ i o, ops[i]? = some o → i < ops.size ∧ ops.toList[i]? = some o := fun i o ho => ⟨(Array.getElem?_eq_some_iff.1 ho).1, by rw [Array.getElem?_toList]; exact ho⟩
  have at_ : ∀ i o, ops[i]? = some o → _ := fun i o ho => by
    obtain ⟨h1, h2⟩ := get i o ho
    have h3 := h i h1
    simp only [h2, Bool.and_eq_true, List.all_eq_true, decide_eq_true_eq] at h3
    exact h3
  refine ⟨fun i o ho j hj => (at_ i o ho).1.1.1 j hj, fun i o ho e he hb => ?_, fun i o ho j hj => ?_, fun i j o p ho hp hne => ?_, fun i j o p ho hp hne d hd => ?_⟩
  · have := (at_ i o ho).1.1.2 e (by simpa using he)
    simpa [hb] using this
  · have := (at_ i o ho).1.2 j hj
    simp only [List.any_eq_true, Bool.and_eq_true, Bool.or_eq_true, beq_iff_eq, List.contains_iff_mem] at this
    obtain ⟨e, h1, h2, h3⟩ := this
    exact ⟨e, by simpa using h1, h2, h3⟩
  all_goals
    obtain ⟨hj1, hj2⟩ := get j p hp
    have h3 := (at_ i o ho).2 j (List.mem_range.2 hj1)
    simp only [hj2] at h3
    simp only [Bool.or_eq_true, beq_iff_eq, hne, false_or, Bool.and_eq_true, List.contains_iff_mem] at h3
  · rcases h3.1 with h4 | h4
    · rcases h4 with h4 | h4
      · exact .inl h4
      · exact .inr (.inl h4)
    · refine .inr (.inr fun d hd => ?_)
      simp only [hd] at h4
      simpa using h4
  · have h4 := h3.2
    simp only [hd] at h4
    simpa using h4

/-! #### The slots, after some of the operations -/
structure SlotInv (ops : Array Oper) (base : List SV) (vals : Nat → SV) (L : Nat → Prop) (sl : List SV) : Prop where
  len : sl.length = base.length
  put : ∀ i o d, ops[i]? = some o → o.dst = some d → L i → d < base.length → sl.getD d .undef = vals i
  keep : ∀ t, (∀ i o, ops[i]? = some o → L i → o.dst ≠ some t) → sl.getD t .undef = base.getD t .undef

theorem getD_ge {sl : List SV} {t : Nat} (h : sl.length ≤ t) : sl.getD t .undef = .undef := by
  simp [List.getD, List.getElem?_eq_none h]

theorem SlotInv.agree {ops : Array Oper} {base : List SV} {vals : Nat → SV} {L1 L2 : Nat → Prop} {s1 s2 : List SV} (h1 : SlotInv ops base vals L1 s1) (h2 : SlotInv ops base vals L2 s2) {t : Nat}
    (h : ∀ j o, ops[j]? = some o → o.dst = some t → (L1 j ↔ L2 j)) : s1.getD t .undef = s2.getD t .undef := by
  by_cases ht : t < base.length
  · by_cases hx : ∃ j o, ops[j]? = some o ∧ o.dst = some t ∧ L1 j
    · obtain ⟨j, o, ho, hd, hl⟩ := hx
      rw [h1.put j o t ho hd hl ht, h2.put j o t ho hd ((h j o ho hd).1 hl) ht]
    · rw [h1.keep t fun i o ho hl hd => hx ⟨i, o, ho, hd, hl⟩, h2.keep t fun i o ho hl hd => hx ⟨i, o, ho, hd, (h i o ho hd).2 hl⟩]
  · rw [getD_ge (by rw [h1.len]; omega), getD_ge (by rw [h2.len]; omega)]

theorem putD_len (sl : List SV) (d : Option Nat) (v : SV) : (putD sl d v).length = sl.length := by
  cases d <;> simp [putD, setAt]

theorem putD_same {sl : List SV} {d : Nat} {v : SV} (h : d < sl.length) : (putD sl (some d) v).getD d .undef = v := by
  simp [putD, setAt, List.getD, List.getElem?_set_self h]

theorem putD_ne {sl : List SV} {d : Option Nat} {t : Nat} {v : SV} (h : d ≠ some t) : (putD sl d v).getD t .undef = sl.getD t .undef := by
  cases d with
  | none => rfl
  | some d =>
    have : d ≠ t := fun e => h (by rw [e])
    simp [putD, setAt, List.getD, List.getElem?_set_ne this]

theorem SlotInv.step {ops : Array Oper} {cl : List (List Nat)} (hF : Form ops cl) {base : List SV} {vals : Nat → SV} {L L' : Nat → Prop} {sl : List SV} (h : SlotInv ops base vals L sl) {i : Nat} {o : Oper} (ho : ops[i]? = some o)
    (hL : ∀ j, L' j ↔ L j ∨ j = i) : SlotInv ops base vals L' (putD sl o.dst (vals i)) := by
  refine ⟨by rw [putD_len, h.len], fun j p d hp hd hl ht => ?_, fun t ht => ?_⟩
  · by_cases e : j = i
    · subst e
      rw [ho] at hp
      cases hp
      rw [hd]
      exact putD_same (by rw [h.len]; exact ht)
    · rw [putD_ne (hF.dst i j o p ho hp e d hd)]
      exact h.put j p d hp hd (((hL j).1 hl).resolve_right e) ht
  · rw [putD_ne (ht i o ho ((hL i).2 (.inr rfl)))]
    exact h.keep t fun j p hp hl => ht j p hp ((hL j).2 (.inl hl))

/-- in the text's order -/
theorem run_slots {ops : Array Oper} {cl : List (List Nat)} (hF : Form ops cl) {m : Nat} {sls : Nat → List SV} {obs : Nat → Obs} {vals : Nat → SV} {nms tch : Nat → List Nat} (hr : Run E ops cl 0 m sls obs vals nms tch) :
    ∀ i, i ≤ m → SlotInv ops (sls 0) vals (fun j => j < i) (sls i)
  | 0, _ => ⟨rfl, fun j _ _ _ _ h => by omega, fun _ _ => rfl⟩
  | i + 1, hi => by
    obtain ⟨o, h1, _, h2⟩ := hr.step i (by omega) (by omega)
    rw [h2]
    exact SlotInv.step hF (run_slots hF hr i (by omega)) h1 fun j => by omega

theorem run_get {ops : Array Oper} {cl : List (List Nat)} {m : Nat} {sls : Nat → List SV} {obs : Nat → Obs} {vals : Nat → SV} {nms tch : Nat → List Nat} (hr : Run E ops cl 0 m sls obs vals nms tch) {x : Nat} :
    ∀ (n a : Nat), a + n ≤ m → (∀ c, a ≤ c → c < a + n → x ∉ tch c) → get (obs (a + n)) x = get (obs a) x
  | 0, a, _, _ => rfl
  | n + 1, a, hn, h => by
    have ih := run_get hr n a (by omega) fun c h1 h2 => h c h1 (by omega)
    obtain ⟨o, h1, h2, _⟩ := hr.step (a + n) (by omega) (by omega)
    rw [show a + (n + 1) = a + n + 1 by omega, ← ih]
    rcases h2 with ⟨_, _, _, _, _, _, _, _, h3, _⟩ | ⟨_, h2⟩
    · rw [h3]
    · rcases h2 with ⟨_, _, ⟨ob1, _, hk, h3⟩, _⟩ | ⟨_, _, h3, _⟩
      · rw [h3, get_merge' hk, if_neg (h (a + n) (by omega) (by omega))]
      · rw [h3]

/-- the objects, after some of the operations: each as the last change that touches it has left it -/
def ObInv (obs : Nat → Obs) (tch : Nat → List Nat) (n : Nat) (L : Nat → Prop) (ob : Obs) : Prop :=
  ∀ x, ∃ q, q ≤ n ∧ get ob x = get (obs q) x ∧ ∀ c, c < n → x ∈ tch c → (L c ↔ c < q)

/-! #### Every order -/
def Li (listed : Array Bool) (i : Nat) : Prop := listed.getD i false = true

theorem li_set {listed : Array Bool} {i j : Nat} (hi : i < listed.size) : Li (listed.setIfInBounds i true) j ↔ Li listed j ∨ j = i := by
  unfold Li
  by_cases e : i = j
  · subst e; simp [hi]
  · simp only [getD_set_ne false e]
    constructor
    · exact .inl
    · rintro (h | h)
      · exact h
      · exact absurd h.symm e

theorem un_iff {listed : Array Bool} {i : Nat} (hi : i < listed.size) : listed.getD i true = false ↔ ¬ Li listed i := by
  unfold Li
  simp [hi]

/-- all the grounds of what has come up have come up -/
def Shut (ops : Array Oper) (listed : Array Bool) : Prop := ∀ (i : Nat) (o : Oper), ops[i]? = some o → Li listed i → ∀ e ∈ o.after, Region.binds .any e = true → Li listed e.on

theorem clos_li {ops : Array Oper} {cl : List (List Nat)} (hF : Form ops cl) {listed : Array Bool} (hS : Shut ops listed) : ∀ (i : Nat) (o : Oper), ops[i]? = some o →
    (∀ e ∈ o.after, Region.binds .any e = true → Li listed e.on) → ∀ j ∈ cl.getD i [], Li listed j := by
  intro i
  induction i using Nat.strongRecOn with
  | _ i ih =>
    intro o ho he j hj
    obtain ⟨e, h1, h2, h3⟩ := hF.clos i o ho j hj
    have hl := he e h1 h2
    rcases h3 with h3 | h3
    · rw [← h3]; exact hl
    · have hlt := hF.edge i o ho e h1 h2
      have hi := (Array.getElem?_eq_some_iff.1 ho).1
      have hp : ops[e.on]? = some ops[e.on] := Array.getElem?_eq_getElem (by omega)
      exact ih e.on hlt _ hp (hS e.on _ hp hl) j h3

def unl (listed : Array Bool) (n : Nat) : Nat := (List.range n).countP fun i => !listed.getD i false

theorem countP_lt {p q : Nat → Bool} : ∀ {l : List Nat} {x : Nat}, x ∈ l → (∀ y ∈ l, p y = true → q y = true) → q x = true → p x = false → l.countP p < l.countP q
  | y :: l, x, hx, h, hq, hp => by
    have hle : l.countP p ≤ l.countP q := List.countP_mono_left fun y hy h1 => h y (List.mem_cons_of_mem _ hy) h1
    simp only [List.countP_cons]
    rcases List.mem_cons.1 hx with e | hx
    · subst e
      rw [hq, hp]
      simp
      omega
    · have := countP_lt hx (fun y hy => h y (List.mem_cons_of_mem _ hy)) hq hp
      have := h y (List.mem_cons_self ..)
      split
      · rename_i h1; rw [this h1]; simp; omega
      · split <;> omega

theorem unl_set {listed : Array Bool} {i n : Nat} (hn : n = listed.size) (hi : i < n) (hu : ¬ Li listed i) : unl (listed.setIfInBounds i true) n < unl listed n := by
  refine countP_lt (x := i) (List.mem_range.2 hi) (fun y hy h => ?_) (by simpa [Li] using hu) (by simp; omega)
  have : ¬ Li (listed.setIfInBounds i true) y := by simpa [Li] using h
  rw [li_set (by omega)] at this
  have h2 : ¬ Li listed y := fun h => this (.inl h)
  simpa [Li] using h2

theorem any_order {ops : Array Oper} {cl : List (List Nat)} {gl : List (Nat × Obj)} (hsat : Sats E gl w0 R0 S0) (hF : Form ops cl) {sls : Nat → List SV} {obs : Nat → Obs} {vals : Nat → SV} {nms tch : Nat → List Nat} (hr : Run E ops cl 0 ops.size sls obs vals nms tch)
    {k : Xt → St → Option R} {r : R} (hk : k .normal ⟨sls ops.size, obs ops.size⟩ = some r) : ∀ (fuel : Nat) (listed : Array Bool) (γ : Gh) (a : Act) (w : World) (sl : List SV) (ob : Obs),
      listed.size = ops.size → unl listed ops.size ≤ fuel → Shut ops listed → SlotInv ops (sls 0) vals (Li listed) sl → ObInv obs tch ops.size (Li listed) ob →
      Sim w0 R0 S0 β0 kp N ⟨sl, ob⟩ γ a w → wpAny E.P .any ops (Ok w0 R0 S0 β0 kp N k r) fuel listed a w := by
  -- when nothing is ready all have come up
  have hall : ∀ listed : Array Bool, listed.size = ops.size → Region.ready .any ops listed = [] → ∀ i, i < ops.size → Li listed i := by
    intro listed hsz hrd i
    induction i using Nat.strongRecOn with
    | _ i ih =>
      intro hi
      by_cases hL : Li listed i
      · exact hL
      · have ho : ops[i]? = some ops[i] := Array.getElem?_eq_getElem hi
        have : i ∈ Region.ready .any ops listed := mem_ready.2 ⟨(un_iff (by omega)).2 hL, _, ho, fun e he hb => ih e.on (hF.edge i _ ho e he hb) (by have := hF.edge i _ ho e he hb; omega)⟩
        rw [hrd] at this
        cases this
  have hfin : ∀ (listed : Array Bool) (γ : Gh) (a : Act) (w : World) (sl : List SV) (ob : Obs), (∀ i, i < ops.size → Li listed i) → SlotInv ops (sls 0) vals (Li listed) sl → ObInv obs tch ops.size (Li listed) ob →
      Sim w0 R0 S0 β0 kp N ⟨sl, ob⟩ γ a w → Ok w0 R0 S0 β0 kp N k r .normal a w := by
    intro listed γ a w sl ob hL hsl hoi hs
    have hslot := run_slots hF hr ops.size (Nat.le_refl _)
    refine ⟨.normal, ⟨sls ops.size, obs ops.size⟩, γ, rfl, ⟨⟨?_, fun t => ?_⟩, ?_, hs.nd, hs.size, hs.keep, hs.S⟩, hk⟩
    · rw [hslot.len, ← hsl.len]; exact hs.sl.1
    · rw [hslot.agree hsl (fun j o ho _ => by have := (Array.getElem?_eq_some_iff.1 ho).1; exact ⟨fun _ => hL j this, fun _ => this⟩)]
      exact hs.sl.2 t
    · refine hs.mem.congr fun x => ?_
      obtain ⟨q, h1, h2, h3⟩ := hoi x
      have := run_get hr (x := x) (ops.size - q) q (by omega) fun c h4 h5 h6 => by
        have := (h3 c (by omega) h6).1 (hL c (by omega)); omega
      rw [show q + (ops.size - q) = ops.size by omega] at this
      simp only
      rw [this, h2]
  intro fuel
  induction fuel with
  | zero =>
    intro listed γ a w sl ob hsz hfu hS hsl hoi hs
    have hL : ∀ i, i < ops.size → Li listed i := by
      intro i hi
      by_cases hL : Li listed i
      · exact hL
      · exfalso
        have := List.countP_pos_iff (p := fun i => !listed.getD i false).2 ⟨i, List.mem_range.2 hi, (by simpa [Li] using hL : (!listed.getD i false) = true)⟩
        unfold unl at hfu
        omega
    refine ⟨?_, hfin listed γ a w sl ob hL hsl hoi hs⟩
    cases hrd : Region.ready .any ops listed with
    | nil => rfl
    | cons i rest =>
      have : i ∈ Region.ready .any ops listed := by rw [hrd]; exact List.mem_cons_self ..
      obtain ⟨h1, o, ho, _⟩ := mem_ready.1 this
      have hi := (Array.getElem?_eq_some_iff.1 ho).1
      exact absurd (hL i hi) ((un_iff (by omega)).1 h1)
  | succ fuel ih =>
    intro listed γ a w sl ob hsz hfu hS hsl hoi hs
    refine ⟨fun hrd => hfin listed γ a w sl ob (hall listed hsz hrd) hsl hoi hs, fun i hi => ?_⟩
    obtain ⟨h1, o, ho, hgr⟩ := mem_ready.1 hi
    have hin := (Array.getElem?_eq_some_iff.1 ho).1
    have hun : ¬ Li listed i := (un_iff (by omega)).1 h1
    have hcl := clos_li hF hS i o ho hgr
    have hnot : ∀ j, i ∈ cl.getD j [] → ∀ p, ops[j]? = some p → ¬ Li listed j := fun j hj p hp hl => hun (clos_li hF hS j p hp (hS j p hp hl) i hj)
    obtain ⟨o', ho', hst, hnx⟩ := hr.step i (by omega) (by omega)
    rw [ho] at ho'
    cases ho'
    have hslot := run_slots hF hr i (by omega)
    -- the slots that it looks at
    have hlook : ∀ t, t ∈ o.looksAt ops → sl.getD t .undef = (sls i).getD t .undef := by
      intro t ht
      refine hsl.agree hslot fun j q hq hd => ?_
      by_cases e : j = i
      · subst e
        exact ⟨fun h => absurd h hun, fun h => absurd h (Nat.lt_irrefl _)⟩
      · rcases hF.slot i j o q ho hq e with h2 | h2 | h2
        · exact ⟨fun _ => hF.back i o ho j h2, fun _ => hcl j h2⟩
        · have hlt := hF.back j q hq i h2
          exact ⟨fun h => absurd h (hnot j h2 q hq), fun h => by omega⟩
        · exact absurd ht (h2 t hd)
    have hops : ∀ x ∈ o.op.operands, opd sl x = opd (sls i) x := by
      intro x hx
      cases x with
      | tmp t => exact hlook t (List.mem_append_left _ (List.mem_filterMap.2 ⟨.tmp t, by simpa using hx, rfl⟩))
      | _ => rfl
    -- the objects that it looks at
    have hord : ∀ x, (∀ c, c < ops.size → c ≠ i → x ∈ tch c → c ∈ cl.getD i [] ∨ i ∈ cl.getD c []) → (∀ c, c < ops.size → c ≠ i → x ∈ tch c → (Li listed c ↔ c < i)) ∧ get ob x = get (obs i) x := by
      intro x hx
      have h2 : ∀ c, c < ops.size → c ≠ i → x ∈ tch c → (Li listed c ↔ c < i) := by
        intro c hc hne hxc
        have hp : ops[c]? = some ops[c] := Array.getElem?_eq_getElem hc
        rcases hx c hc hne hxc with h2 | h2
        · exact ⟨fun _ => hF.back i o ho c h2, fun _ => hcl c h2⟩
        · have hlt := hF.back c _ hp i h2
          exact ⟨fun h => absurd h (hnot c h2 _ hp), fun h => by omega⟩
      refine ⟨h2, ?_⟩
      obtain ⟨q, h3, h4, h5⟩ := hoi x
      rw [h4]
      rcases Nat.le_total q i with hqi | hqi
      · have := run_get hr (x := x) (i - q) q (by omega) fun c h6 h7 hxc => by
          have := (h5 c (by omega) hxc).1 ((h2 c (by omega) (by omega) hxc).2 (by omega)); omega
        rw [show q + (i - q) = i by omega] at this
        exact this.symm
      · have := run_get hr (x := x) (q - i) i (by omega) fun c h6 h7 hxc => by
          have h8 := (h5 c (by omega) hxc).2 (by omega)
          by_cases e : c = i
          · subst e; exact hun h8
          · have := (h2 c (by omega) e hxc).1 h8; omega
        rw [show i + (q - i) = q by omega] at this
        exact this
    have hsz' : (listed.setIfInBounds i true).size = ops.size := by simp [hsz]
    have hfu' : unl (listed.setIfInBounds i true) ops.size ≤ fuel := by
      have := unl_set (n := ops.size) (by omega) hin hun
      omega
    have hS' : Shut ops (listed.setIfInBounds i true) := by
      intro j q hq hl e he hb
      rw [li_set (by omega)] at hl ⊢
      rcases hl with hl | hl
      · exact .inl (hS j q hq hl e he hb)
      · subst hl
        rw [ho] at hq
        cases hq
        exact .inl (hgr e he hb)
    have hsl' : SlotInv ops (sls 0) vals (Li (listed.setIfInBounds i true)) (putD sl o.dst (vals i)) := SlotInv.step hF hsl ho fun j => li_set (by omega)
    -- what touches nothing leaves the objects as they were
    have hsame : tch i = [] → ObInv obs tch ops.size (Li (listed.setIfInBounds i true)) ob := by
      intro ht x
      obtain ⟨q, h3, h4, h5⟩ := hoi x
      refine ⟨q, h3, h4, fun c hc hxc => ?_⟩
      have hne : c ≠ i := fun e => by subst e; rw [ht] at hxc; cases hxc
      rw [li_set (by omega), ← h5 c hc hxc]
      simp [hne]
    -- what follows
    have hgo : ∀ u w' γ' ob', V w' γ' (vals i) u → Mem w0 R0 S0 γ' ob' w' → Le γ w γ' w' → ObInv obs tch ops.size (Li (listed.setIfInBounds i true)) ob' → wpAny E.P .any ops (Ok w0 R0 S0 β0 kp N k r) fuel (listed.setIfInBounds i true) (a.put o.dst u) w' := by
      intro u w' γ' ob' hV hm hle hoi'
      exact ih _ γ' _ w' _ ob' hsz' hfu' hS' hsl' hoi' (hs.put hs.sl o.dst hV hm hle)
    unfold wpOp
    simp only [ho]
    have hguard : ∀ j want g b, o.guard = some (j, want) → (ops[j]?).bind (·.dst) = some g → (sls i).getD g .undef = .bool b → yielded ops a.tmps j = some b := by
      intro j want g b hg hd hb
      refine yielded_ok hd (tmp_some hs.sl ?_)
      rw [hlook g (List.mem_append_right _ (by simp [hg, hd]))]
      exact hb
    have hdis : ∀ (l m : List Nat) (x : Nat), disj l m = true → x ∈ l → x ∉ m := by
      intro l m x hl hxl hxm
      have := List.all_eq_true.1 hl x hxl
      simp [hxm] at this
    rcases hst with ⟨j, want, g, b, hg, hd, hb, hv, hob, hns, hts⟩ | ⟨hw, hst⟩
    · have hw : ¬ Region.wanted o (yielded ops a.tmps) = true := by
        rcases hb with ⟨hb, hne⟩ | hb
        · have hy := hguard j want g b hg hd hb
          simp only [Region.wanted, hg, hy, beq_iff_eq, Option.some.injEq]
          exact hne
        · have h2 := hs.sl.2 g
          simp only at h2
          rw [hlook g (List.mem_append_right _ (by simp [hg, hd])), hb] at h2
          simp only [V] at h2
          simp [Region.wanted, hg, yielded_skip hd h2]
      rw [if_neg hw]
      exact hgo undef w γ ob (by rw [hv]; simp only [V]) hs.mem (Le.refl _ _) (hsame hts)
    · have hwt : Region.wanted o (yielded ops a.tmps) = true := by
        rcases hw with hg | ⟨j, want, g, hg, hd, hb⟩
        · simp [Region.wanted, hg]
        · simp [Region.wanted, hg, hguard j want g want hg hd hb]
      rw [if_pos hwt]
      refine .inl ?_
      rcases hst with ⟨hc, hT, ⟨ob1, he, hkeys, hob⟩, _⟩ | ⟨hc, hnv, hob, hnm, hts⟩
      · have hx : ∀ x ∈ tch i, (∀ c, c < ops.size → c ≠ i → x ∈ tch c → (Li listed c ↔ c < i)) ∧ get ob x = get (obs i) x := by
          intro x hx
          refine hord x fun c hcs hne hxc => ?_
          rcases Nat.lt_or_ge c i with h2 | h2
          · rcases (hr.apart c i (by omega) h2 (by omega)).2.2 with h3 | h3
            · exact .inl h3
            · exact absurd hx (hdis _ _ x h3 hxc)
          · rcases (hr.apart i c (by omega) (by omega) (by omega)).2.2 with h3 | h3
            · exact .inr h3
            · exact absurd hxc (hdis _ _ x h3 hx)
        have hres : restr ob (tch i) = restr (obs i) (tch i) := restr_congr fun x h => (hx x h).2
        have hT' : okT o.op (opd sl) ob (tch i) = true := by rw [okT_congr hops fun x h => (hx x h).2]; exact hT
        have he' : exec E (o.dst.getD 0) o.op (opd sl) (restr ob (tch i)) (fun v ob => some (v, ob)) = some (vals i, ob1) := by rw [exec_congr hops, hres]; exact he
        have hkeys' : keysOK (restr ob (tch i)) ob1 (tch i) = true := by rw [hres]; exact hkeys
        refine exec_frame hsat hs.S hs.mem hs.sl hT' he' hkeys' fun u w' γ' h3 h4 h5 => ?_
        refine hgo u w' γ' _ h3 h4 h5 fun x => ?_
        by_cases hxt : x ∈ tch i
        · refine ⟨i + 1, by omega, ?_, fun c hcs hxc => ?_⟩
          · rw [hob, get_merge' hkeys', get_merge' hkeys, if_pos hxt, if_pos hxt]
          · rw [li_set (by omega)]
            by_cases e : c = i
            · subst e; simp
            · rw [(hx x hxt).1 c hcs e hxc]
              omega
        · obtain ⟨q, h6, h7, h8⟩ := hoi x
          refine ⟨q, h6, by rw [get_merge' hkeys', if_neg hxt]; exact h7, fun c hcs hxc => ?_⟩
          have hne : c ≠ i := fun e => by subst e; exact hxt hxc
          rw [li_set (by omega), ← h8 c hcs hxc]
          simp [hne]
      · have hnm' : namesN o.op (opd sl) = nms i := by rw [namesN_congr hops, hnm]
        have hread : ∀ x ∈ namesN o.op (opd (sls i)), get ob x = get (obs i) x := by
          intro x hx
          rw [← hnm] at hx
          refine (hord x fun c hcs hne hxc => ?_).2
          rcases Nat.lt_or_ge c i with h2 | h2
          · rcases (hr.apart c i (by omega) h2 (by omega)).2.1 with h3 | h3
            · exact .inl h3
            · exact absurd hxc (hdis _ _ x h3 hx)
          · rcases (hr.apart i c (by omega) (by omega) (by omega)).1 with h3 | h3
            · exact .inr h3
            · exact absurd hxc (hdis _ _ x h3 hx)
        have he : execN E o.op (opd sl) ob some = some (vals i) := by
          rw [execN_congr hops]
          exact hnv _ _ _ hread
        refine execN_ok hsat hs.S hs.mem hs.sl he fun u w' γ' h3 h4 h5 => ?_
        exact hgo u w' γ' ob h3 h4 h5 (hsame hts)

/-- A REGION THAT DRAWS ITS ORDER DOES WHAT THE TEXT'S ORDER DOES. -/
theorem draw_ok {id : Nat} {ops : Array Oper} {R : Type} {σ : St} {γ : Gh} {a : Act} {w : World} {k : Xt → St → Option R} {r : R} {gl : List (Nat × Obj)} (hsat : Sats E gl w0 R0 S0) (hs : Sim w0 R0 S0 β0 kp N σ γ a w)
    (hm : E.P.follows .mixedOrders = true) (hF : drawOK ops.toList (closOf ops.toList) = true) (h : evalDraw E ops (closOf ops.toList) (List.range ops.size) σ ⟨[], []⟩ (k .normal) = some r) :
    (Code.region id ops true).wp E.P (Ok w0 R0 S0 β0 kp N k r) a w := by
  refine wp_region_any hm ?_
  rw [List.range_eq_range'] at h
  obtain ⟨sls, obs, vals, nms, tch, h1, h2, h3, h4, _⟩ := evalDraw_run ops.size 0 σ ⟨[], []⟩ h
  rw [Nat.zero_add] at h3
  have hev : Ev (fun _ _ => False) w { w with drawn := w.drawn + 1 } := ⟨rfl, rfl, rfl, Nat.le_refl _, fun _ x hx => ⟨x, hx, .inr (.inl rfl)⟩⟩
  obtain ⟨m1, le1⟩ := hs.mem.still hev
  have hs' : Sim w0 R0 S0 β0 kp N ⟨σ.sl, obs 0⟩ γ a { w with drawn := w.drawn + 1 } := ⟨hs.sl.mono le1, by rw [h2]; exact m1, hs.nd, hs.size, hs.keep, hs.S⟩
  have hL0 : ∀ i, ¬ Li (Array.replicate ops.size false) i := by
    intro i
    simp only [Li, Array.getD_eq_getD_getElem?, Array.getElem?_replicate]
    split <;> simp
  refine any_order (cl := closOf ops.toList) hsat (form_ok hF) h4 h3 ops.size (Array.replicate ops.size false) γ a _ σ.sl (obs 0) (by simp) ?_ (fun i o ho hl => absurd hl (hL0 i)) ?_ (fun x => ⟨0, Nat.zero_le _, rfl, fun c hc hxc => ⟨fun h => absurd h (hL0 c), fun h => by omega⟩⟩) hs'
  · unfold unl
    refine Nat.le_trans List.countP_le_length ?_
    simp
  · rw [h1]
    exact ⟨rfl, fun i o d _ _ hl => absurd hl (hL0 i), fun _ _ => rfl⟩

end
end Go.Vm
