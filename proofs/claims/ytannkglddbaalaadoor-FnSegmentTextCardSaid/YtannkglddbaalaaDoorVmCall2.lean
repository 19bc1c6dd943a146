/-
  Calls by contract: what comes back.
-/
import Derived.Test.YtannkglddbaalaaDoorVmCall
set_option linter.unusedSimpArgs false
set_option linter.unusedVariables false
namespace Go.Vm

theorem look_built : ∀ {l : List (Nat × ObT)} {x : ObTs l} {m : Nat} {ent : Ent}, get (buildObs l x) m = some ent → ent.g = 0 ∧ ∃ o z, look l m = some o ∧ ent.o = ObT.build o z
  | [], _, m, ent, h => by simp [buildObs, get] at h
  | (k, o) :: r, x, m, ent, h => by
    simp only [buildObs, get_upd] at h
    simp only [look]
    split at h
    · rename_i e
      subst e
      cases h
      exact ⟨rfl, o, x.1, by rw [if_pos rfl], rfl⟩
    · rename_i e
      rw [if_neg e]
      exact look_built h

section
variable {w0 : World} {R0 S0 : Nat → Nat → Prop} {w' : World} {d : Nat} {ob1 : Obs} {mu : Mu}

/-- what the callee's values are in the caller's names -/
structure Give (d : Nat) (ob1 : Obs) (mu : Mu) (γ' γk : Gh) : Prop where
  hdr : ∀ m A l c, γ'.β m 0 = some (.hdr A l c) → isK m = false → γk.β (nm d m) (fresh ob1 (nm d m)) = some (.hdr A l c)
  hdrK : ∀ m A l c, γ'.β m 0 = some (.hdr A l c) → isK m = true → (∃ n g off, look mu m = some (.ob n g off) ∧ γk.β n g = some (.hdr A l c)) ∨ (look mu m = some .nil ∧ A = none ∧ l = 0 ∧ c = 0)
  blk : ∀ m b o, γ'.β m 0 = some (.blk b o) → ∃ n g off o0, look mu m = some (.ob n g off) ∧ γk.β n g = some (.blk b o0) ∧ o = o0 + off

mutual
theorem Lf.give_ok {γ' γk : Gh} (hg : Give d ob1 mu γ' γk) : ∀ {l : Lf} {x : l.T} {u : Value}, (l.deep = true → ∀ b i, γ'.S b i → γk.S b i) → V w' γ' (l.build x) u → V w' γk (l.give d ob1 mu x) u
  | .int k, x, u, _, h => by simp only [Lf.build, Lf.give, V] at h ⊢; exact h
  | .bool, x, u, _, h => by simp only [Lf.build, Lf.give, V] at h ⊢; exact h
  | .str, x, u, _, h => by simp only [Lf.build, Lf.give, V] at h ⊢; exact h
  | .ro e, x, u, hs, h => by
    simp only [Lf.build, Lf.give, V] at h ⊢
    exact h.mono (hs rfl) (fun _ _ _ _ h => h)
  | .err, x, u, _, h => by simp only [Lf.build, Lf.give, V] at h ⊢; exact h
  | .agg ls, x, u, hs, h => by
    simp only [Lf.build, Lf.give, V] at h ⊢
    obtain ⟨vs, h1, h2, h3⟩ := h
    exact ⟨vs, h1, Lf.gives_ok hg (fun hd => hs (by simpa [Lf.deep] using hd)) h2, h3⟩
  | .tup ls, x, u, hs, h => by
    simp only [Lf.build, Lf.give, V] at h ⊢
    obtain ⟨vs, h1, h2⟩ := h
    exact ⟨vs, h1, Lf.gives_ok hg (fun hd => hs (by simpa [Lf.deep] using hd)) h2⟩
  | .fn f ls, x, u, hs, h => by
    simp only [Lf.build, Lf.give, V] at h ⊢
    obtain ⟨vs, h1, h2⟩ := h
    exact ⟨vs, h1, Lf.gives_ok hg (fun hd => hs (by simpa [Lf.deep] using hd)) h2⟩
  | .undef, x, u, _, h => by simp only [Lf.give, V]
  | .own m, x, u, _, h => by
    simp only [Lf.build, V] at h
    simp only [Lf.give]
    obtain ⟨A, l, c, h1, h2⟩ := h
    cases hk : isK m with
    | false => simp only [Bool.false_eq_true, if_false, V]; exact ⟨A, l, c, hg.hdr m A l c h1 hk, h2⟩
    | true =>
      rcases hg.hdrK m A l c h1 hk with ⟨n, g, off, h3, h4⟩ | ⟨h3, rfl, rfl, rfl⟩
      · simp only [if_true, h3, V]; exact ⟨A, l, c, h4, h2⟩
      · simp only [if_true, h3, V]; exact h2
  | .nilsl, x, u, _, h => by simp only [Lf.build, Lf.give, V] at h ⊢; exact h
  | .ptr m, x, u, _, h => by
    simp only [Lf.build, V] at h
    obtain ⟨b, o, h1, h2⟩ := h
    obtain ⟨n, g, off, o0, h3, h4, h5⟩ := hg.blk m b o h1
    simp only [Lf.give, h3, V]
    exact ⟨b, o0, h4, by rw [h2, h5]; rfl⟩
  | .nilptr, x, u, _, h => by simp only [Lf.build, Lf.give, V] at h ⊢; exact h
  | .iter m, x, u, _, h => by simp only [Lf.give, V]
  | .lint k n, x, u, _, h => by simp only [Lf.build, Lf.give, V] at h ⊢; exact h
theorem Lf.gives_ok {γ' γk : Gh} (hg : Give d ob1 mu γ' γk) : ∀ {ls : List Lf} {x : Lf.Ts ls} {us : List Value}, (Lf.deeps ls = true → ∀ b i, γ'.S b i → γk.S b i) → VL w' γ' (Lf.builds ls x) us → VL w' γk (Lf.gives d ob1 mu ls x) us
  | [], x, us, _, h => by simp only [Lf.builds, Lf.gives, VL] at h ⊢; exact h
  | l :: ls, x, [], _, h => by simp only [Lf.builds, VL] at h
  | l :: ls, x, u :: us, hs, h => by
    simp only [Lf.builds, Lf.gives, VL] at h ⊢
    exact ⟨Lf.give_ok hg (fun hd => hs (by simp [Lf.deeps, hd])) h.1, Lf.gives_ok hg (fun hd => hs (by simp [Lf.deeps, hd])) h.2⟩
end

theorem Lf.gives_len : ∀ {ls : List Lf} {x : Lf.Ts ls}, (Lf.gives d ob1 mu ls x).length = ls.length
  | [], _ => rfl
  | l :: ls, x => by simp [Lf.gives, Lf.gives_len (ls := ls)]

theorem nm_inj {d m m' : Nat} (h : nm d m = nm d m') : m = m' := by unfold nm at h; omega

theorem Rd.shallow {w : World} {S : Nat → Nat → Prop} (S' : Nat → Nat → Prop) : ∀ {e : K} {x : e.T} {vs : List Value}, e.deep = false → Rd w S e x vs → Rd w S' e x vs
  | .int _, _, _, _, h => h
  | .bool, _, _, _, h => h
  | .str, _, _, _, h => h
  | .sl e, _, _, hd, _ => by simp [K.deep] at hd
  | .pair a b, _, _, hd, h => by
    simp [K.deep] at hd
    obtain ⟨v1, v2, h0, h1, h2⟩ := h
    exact ⟨v1, v2, h0, h1.shallow S' hd.1, h2.shallow S' hd.2⟩
  | .unit, _, _, _, h => h

theorem ArrOK.reS {w : World} {γ γ2 : Gh} {A : Option Addr} {len cap : Nat} {e : K} {xs : List e.T} (h : ArrOK w γ A len cap e xs) (hs : e.deep = true → ∀ b i, γ.S b i → γ2.S b i) : ArrOK w γ2 A len cap e xs := by
  obtain ⟨h1, h2, h3, h4, h5⟩ := h
  refine ⟨h1, h2, h3, h4, fun a ha => ?_⟩
  obtain ⟨h6, h7, h8⟩ := h5 a ha
  refine ⟨h6, h7, fun i hi => ?_⟩
  obtain ⟨cs, h9, h10⟩ := h8 i hi
  refine ⟨cs, ?_, h10⟩
  cases hd : e.deep with
  | false => exact h9.shallow _ hd
  | true => exact h9.mono (hs hd) (fun _ _ _ _ h => h)

/-- the caller's side of a box that goes in and comes back -/
structure BoxBack (w : World) (γ : Gh) (ob0 : Obs) (w' : World) (γ' : Gh) (outO : Obs) (mu : Mu) (m n g off b o : Nat) (cs : List SV) : Prop where
  at_ : look mu m = some (.ob n g off)
  get0 : get ob0 n = some ⟨g, .box cs⟩
  β0 : γ.β n g = some (.blk b o)
  old : BoxOK w γ b o cs
  β' : γ'.β m 0 = some (.blk b (o + off))
  /-- outside of the callee's part nothing has changed -/
  rest : ∀ i, o ≤ i → i < o + cs.length → (i < o + off ∨ ∀ c, get outO m = some c → ∀ ds, c.o = .box ds → o + off + ds.length ≤ i) → w'.cell? ⟨b, i, none⟩ = w.cell? ⟨b, i, none⟩ ∧ w'.frozen? ⟨b, i, none⟩ = w.frozen? ⟨b, i, none⟩

theorem box_back {w : World} {γ γ' γk : Gh} {ob0 : Obs} {outO : Obs} {m n g off b o : Nat} {cs : List SV} {ls : List Lf} {z : Lf.Ts ls} (hbb : BoxBack w γ ob0 w' γ' outO mu m n g off b o cs) (hout : get outO m = some ⟨0, .box (Lf.builds ls z)⟩) (hlen : off + ls.length ≤ cs.length)
    (hok : ObOK w' γ' (.blk b (o + off)) (.box (Lf.builds ls z))) (hle : Le γ w γk w') (hg : Give d ob1 mu γ' γk) (hs : Lf.deeps ls = true → ∀ b i, γ'.S b i → γk.S b i) :
    BoxOK w' γk b o (splice cs off (Lf.gives d ob1 mu ls z)) := by
  obtain ⟨vs, h1, h2, h3, h4⟩ := hbb.old
  obtain ⟨b', o', e, us, h5, h6, h7, h8⟩ := hok
  cases e
  have hcl := h1.len
  have hul := h5.len
  rw [Lf.builds_len] at hul
  have hgv := Lf.gives_ok hg hs h5
  have hsame : ∀ i, o ≤ i → i < o + cs.length → (i < o + off ∨ o + off + us.length ≤ i) → w'.cell? ⟨b, i, none⟩ = w.cell? ⟨b, i, none⟩ ∧ w'.frozen? ⟨b, i, none⟩ = w.frozen? ⟨b, i, none⟩ := by
    intro i hi1 hi2 hi3
    refine hbb.rest i hi1 hi2 (hi3.imp id fun hi c hc ds hds => ?_)
    rw [hout] at hc
    cases hc
    cases hds
    rw [Lf.builds_len]
    omega
  refine ⟨vs.take off ++ us ++ vs.drop (off + us.length), (VL.mono hle h1).splice (off := off) hgv, fun v hv => ?_, fun j v hv => ?_, fun j hj => ?_⟩
  · simp only [List.mem_append] at hv
    rcases hv with (hv | hv) | hv
    · exact h2 v (List.mem_of_mem_take hv)
    · exact h6 v hv
    · exact h2 v (List.mem_of_mem_drop hv)
  · rcases Nat.lt_or_ge j off with hj | hj
    · rw [List.append_assoc, List.getElem?_append_left (by simp; omega), List.getElem?_take, if_pos hj] at hv
      rw [(hsame (o + j) (by omega) (by omega) (.inl (by omega))).1]
      exact h3 j v hv
    · rcases Nat.lt_or_ge j (off + us.length) with hj2 | hj2
      · rw [List.append_assoc, List.getElem?_append_right (by simp; omega), List.getElem?_append_left (by simp; omega)] at hv
        have e1 : j - (vs.take off).length = j - off := by rw [List.length_take, Nat.min_eq_left (by omega)]
        rw [e1] at hv
        have := h7 (j - off) v hv
        rwa [show o + off + (j - off) = o + j by omega] at this
      · rw [List.append_assoc, List.getElem?_append_right (by simp; omega), List.getElem?_append_right (by simp; omega), List.getElem?_drop] at hv
        have e1 : off + us.length + (j - (vs.take off).length - us.length) = j := by rw [List.length_take, Nat.min_eq_left (by omega)]; omega
        rw [e1] at hv
        have hjl : j < vs.length := (List.getElem?_eq_some_iff.1 hv).1
        rw [(hsame (o + j) (by omega) (by omega) (.inr (by omega))).1]
        exact h3 j v hv
  · have hl2 : (splice cs off (Lf.gives d ob1 mu ls z)).length = cs.length := by simp [splice, Lf.gives_len]; omega
    rw [hl2] at hj
    rcases Nat.lt_or_ge j off with hj1 | hj1
    · have := hsame (o + j) (by omega) (by omega) (.inl (by omega))
      rw [this.1, this.2]
      exact h4 j hj
    · rcases Nat.lt_or_ge j (off + us.length) with hj2 | hj2
      · have := h8 (j - off) (by rw [Lf.builds_len]; omega)
        rwa [show o + off + (j - off) = o + j by omega] at this
      · have := hsame (o + j) (by omega) (by omega) (.inr (by omega))
        rw [this.1, this.2]
        exact h4 j hj

theorem all_box : ∀ {r : List (Nat × ObT)}, (r.all fun p => match p.2 with | .box _ => true | _ => false) = true → arrsFirst r = true
  | [], _ => rfl
  | (m, o) :: r, h => by
    simp only [List.all_cons, Bool.and_eq_true] at h
    cases o with
    | box ls => simp only [arrsFirst]; exact h.2
    | arr e => simp at h
    | iter => simp at h

theorem all_box_look : ∀ {r : List (Nat × ObT)} {m : Nat} {e : K}, (r.all fun p => match p.2 with | .box _ => true | _ => false) = true → look r m ≠ some (.arr e)
  | [], _, _, _ => by simp [look]
  | (k, o) :: r, m, e, h => by
    simp only [List.all_cons, Bool.and_eq_true] at h
    simp only [look]
    split
    · intro hh; cases hh; simp at h
    · exact all_box_look h.2

/-- WHAT COMES BACK. -/
theorem giveObs_ok {w : World} {γ γ' γB : Gh} {ob0 outO : Obs} {out : List (Nat × ObT)} {R S1 : Nat → Nat → Prop} (hM : Mem w R S1 γ' outO w')
    (hbox : ∀ m ls, look out m = some (.box ls) → ∃ n g off b o cs, BoxBack w γ ob0 w' γ' outO mu m n g off b o cs ∧ off + ls.length ≤ cs.length)
    (hS : ∀ l : List (Nat × ObT), (∀ m o, look l m = some o → look out m = some o) → ∀ m o, look l m = some o → o.deep = true → ∀ b i, γ'.S b i → γB.S b i)
    (hcls : ∀ m A l c, γ'.β m 0 = some (.hdr A l c) → ∃ e, look out m = some (.arr e))
    (hblk : ∀ m b o, γ'.β m 0 = some (.blk b o) → ∃ n g off o0, look mu m = some (.ob n g off) ∧ γ.β n g = some (.blk b o0) ∧ o = o0 + off)
    (hkept : ∀ m e, look out m = some (.arr e) → isK m = true → (∃ n g off, look mu m = some (.ob n g off) ∧ γ.β n g = γ'.β m 0) ∨ (look mu m = some .nil ∧ γ'.β m 0 = some (.hdr none 0 0)))
    (hnm : ∀ m e, look out m = some (.arr e) → isK m = false → ∀ m' n g off, look mu m' = some (.ob n g off) → nm d m ≠ n)
    (hap : ∀ m1 m2 n g1 o1 g2 o2, look mu m1 = some (.ob n g1 o1) → look mu m2 = some (.ob n g2 o2) → m1 = m2)
    (hle0 : Le γ w γB w')
    (hreg : ∀ m ls n g off b o cs, look out m = some (.box ls) → BoxBack w γ ob0 w' γ' outO mu m n g off b o cs → ∀ b' i, reg (.blk b o) (.box cs) b' i → ¬ γB.S b' i ∧ (R0 b' i ∨ w0.heap.size ≤ b') ∧ b' < w'.heap.size ∧
      (∀ k e, look out k = some (.arr e) → ¬ RG γ' outO k b' i) ∧ ∀ m2 ls2 n2 g2 off2 b2 o2 cs2, m2 ≠ m → look out m2 = some (.box ls2) → BoxBack w γ ob0 w' γ' outO mu m2 n2 g2 off2 b2 o2 cs2 → ¬ reg (.blk b2 o2) (.box cs2) b' i)
    (harr : ∀ k e, look out k = some (.arr e) → ∀ b i, RG γ' outO k b i → ¬ γB.S b i ∧ (R0 b i ∨ w0.heap.size ≤ b) ∧ b < w'.heap.size) :
    ∀ (l : List (Nat × ObT)) (x : ObTs l) (γk : Gh) (obk : Obs), nodupKeys l = true → arrsFirst l = true → (∀ m o, look l m = some o → look out m = some o) → (∀ m ent, get (buildObs l x) m = some ent → get outO m = some ent) →
      Mem w0 R0 S0 γk obk w' → Le γB w' γk w' → (∀ b i, γk.S b i ↔ γB.S b i) →
      (∀ m e, look l m = some (.arr e) → (isK m = false → ∀ ent, get obk (nm d m) = some ent → ent.g < fresh ob1 (nm d m)) ∧ (isK m = true → ∀ n g off, look mu m = some (.ob n g off) → get obk n = some ⟨g, .gone⟩) ∧ ∀ k b i, RG γk obk k b i → ¬ RG γ' outO m b i) →
      (∀ m e, look out m = some (.arr e) → isK m = false → look l m = none → γk.β (nm d m) (fresh ob1 (nm d m)) = γ'.β m 0) →
      (∀ m ls n g off b o cs, look l m = some (.box ls) → BoxBack w γ ob0 w' γ' outO mu m n g off b o cs → get obk n = some ⟨g, .gone⟩ ∧ ∀ k b' i, RG γk obk k b' i → ¬ reg (.blk b o) (.box cs) b' i) →
      ∃ γ2, Mem w0 R0 S0 γ2 (giveObs d ob0 ob1 mu l x obk) w' ∧ Le γB w' γ2 w' ∧ (∀ b i, γ2.S b i ↔ γB.S b i) ∧ Give d ob1 mu γ' γ2
  | [], x, γk, obk, hnd, haf, hsub, hdat, hm, hle, hs, ha, hdone, hb => by
    refine ⟨γk, hm, hle, hs, ⟨fun m A l c h hk => ?_, fun m A l c h hk => ?_, fun m b o h => ?_⟩⟩
    · obtain ⟨e, he⟩ := hcls m A l c h
      rw [hdone m e he hk rfl, h]
    · obtain ⟨e, he⟩ := hcls m A l c h
      rcases hkept m e he hk with ⟨n, g, off, h1, h2⟩ | ⟨h1, h2⟩
      · exact .inl ⟨n, g, off, h1, hle.β _ _ _ (hle0.β _ _ _ (by rw [h2, h]))⟩
      · rw [h] at h2
        cases h2
        exact .inr ⟨h1, rfl, rfl, rfl⟩
    · obtain ⟨n, g, off, o0, h1, h2, h3⟩ := hblk m b o h
      exact ⟨n, g, off, o0, h1, hle.β _ _ _ (hle0.β _ _ _ h2), h3⟩
  | (m, .iter) :: r, x, γk, obk, hnd, haf, hsub, hdat, hm, hle, hs, ha, hdone, hb => by simp [arrsFirst] at haf
  | (m, .arr e) :: r, x, γk, obk, hnd, haf, hsub, hdat, hm, hle, hs, ha, hdone, hb => by
    simp only [nodupKeys, Bool.and_eq_true] at hnd
    simp only [arrsFirst] at haf
    have hlm : look ((m, ObT.arr e) :: r) m = some (.arr e) := by simp [look]
    have hno : look r m = none := by simpa using hnd.1
    have hlook : ∀ k, k ≠ m → look ((m, ObT.arr e) :: r) k = look r k := fun k hk => by simp [look, Ne.symm hk]
    have hget : get outO m = some ⟨0, .arr e x.1⟩ := hdat m _ (by simp only [buildObs, get_upd_same, ObT.build])
    obtain ⟨lc, h1, A, ln, cp, h2, h3⟩ := hM.objs m _ hget
    simp only at h1
    subst h2
    obtain ⟨ha1, haK, ha2⟩ := ha m e hlm
    have hob : ObOK w' γk (.hdr A ln cp) (.arr e x.1) := ⟨A, ln, cp, rfl, h3.reS fun hd b i hh => (hs b i).2 (hS ((m, .arr e) :: r) hsub m (.arr e) hlm hd b i hh)⟩
    have hrg : ∀ b i, reg (.hdr A ln cp) (.arr e x.1) b i → RG γ' outO m b i := fun b i hr => ⟨_, _, hget, h1, hr⟩
    -- the array under its name
    have hput : ∀ N G, (∀ ent, get obk N = some ent → ent.g < G ∨ (ent.g = G ∧ γk.β N G = some (.hdr A ln cp))) → (isK m = false → N = nm d m ∧ G = fresh ob1 (nm d m)) →
        (∀ k f, isK k = false → look out k = some (.arr f) → k ≠ m → nm d k ≠ N) → (∀ k f, isK k = true → look out k = some (.arr f) → k ≠ m → ∀ n g off, look mu k = some (.ob n g off) → N ≠ n) →
        (∀ k ls n g off b o cs, look out k = some (.box ls) → BoxBack w γ ob0 w' γ' outO mu k n g off b o cs → N ≠ n) →
        ∃ γ2, Mem w0 R0 S0 γ2 (giveObs d ob0 ob1 mu r x.2 (upd obk N ⟨G, .arr e x.1⟩)) w' ∧ Le γB w' γ2 w' ∧ (∀ b i, γ2.S b i ↔ γB.S b i) ∧ Give d ob1 mu γ' γ2 := by
      intro N G hN hnew hne1 hne2 hne3
      obtain ⟨hm', hle'⟩ := hm.add (n := N) (g' := G) (o' := .arr e x.1) (l' := .hdr A ln cp) hN hob
        (fun k hk b i hr hr2 => ha2 k b i hr2 (hrg b i hr)) (fun b i hr hh => (harr m e (hsub _ _ hlm) b i (hrg b i hr)).1 ((hs b i).1 hh)) (fun b i hr => (harr m e (hsub _ _ hlm) b i (hrg b i hr)).2)
      have hSk : ∀ b i, (γk.set N G (.hdr A ln cp) fun _ _ => False).S b i ↔ γB.S b i := fun b i => by
        rw [← hs b i]
        simp [Gh.set]
      have hRGk : ∀ k b i, RG (γk.set N G (.hdr A ln cp) fun _ _ => False) (upd obk N ⟨G, .arr e x.1⟩) k b i → RG γk obk k b i ∨ RG γ' outO m b i := by
        rintro k b i ⟨ent, l, h4, h5, h6⟩
        by_cases e1 : N = k
        · subst e1
          rw [get_upd_same] at h4
          cases h4
          simp only [Gh.set, and_self, if_true] at h5
          cases h5
          exact .inr (hrg b i h6)
        · rw [get_upd_ne e1] at h4
          simp only [Gh.set] at h5
          rw [if_neg (fun hh => e1 hh.1.symm)] at h5
          exact .inl ⟨ent, l, h4, h5, h6⟩
      refine giveObs_ok hM hbox hS hcls hblk hkept hnm hap hle0 hreg harr r x.2 _ _ hnd.2 haf (fun k o hk => hsub k o (by rw [hlook k (by rintro rfl; rw [hno] at hk; cases hk)]; exact hk)) (fun k ent hk => hdat k ent ?_) hm' (hle.trans hle') hSk (fun k f hk => ?_) (fun k f hk hkf hkn => ?_) (fun k ls n g off b o cs hk hbb => ?_)
      · have hkm : k ≠ m := by
          rintro rfl
          obtain ⟨_, o, z, h4, _⟩ := look_built hk
          rw [hno] at h4
          cases h4
        simp only [buildObs]
        rw [get_upd_ne (Ne.symm hkm)]
        exact hk
      · have hkm : k ≠ m := by rintro rfl; rw [hno] at hk; cases hk
        have hk' : look ((m, ObT.arr e) :: r) k = some (.arr f) := by rw [hlook k hkm]; exact hk
        obtain ⟨h4, h4K, h5⟩ := ha k f hk'
        refine ⟨fun hkf ent he => ?_, fun hkt n g off hl => ?_, fun q b i hr hr2 => ?_⟩
        · rw [get_upd_ne (Ne.symm (hne1 k f hkf (hsub _ _ hk') hkm))] at he
          exact h4 hkf ent he
        · rw [get_upd_ne (hne2 k f hkt (hsub _ _ hk') hkm n g off hl)]
          exact h4K hkt n g off hl
        · rcases hRGk q b i hr with h6 | h6
          · exact h5 q b i h6 hr2
          · exact hM.disj m k (Ne.symm hkm) b i h6 hr2
      · by_cases hkm : k = m
        · subst hkm
          obtain ⟨rfl, rfl⟩ := hnew hkf
          simp [Gh.set, h1]
        · have := hdone k f hk hkf (by rw [hlook k hkm]; exact hkn)
          simp only [Gh.set]
          rw [if_neg (fun hh => hne1 k f hkf hk hkm hh.1)]
          exact this
      · have hkm : k ≠ m := by rintro rfl; rw [hno] at hk; cases hk
        have hk' : look ((m, ObT.arr e) :: r) k = some (.box ls) := by rw [hlook k hkm]; exact hk
        obtain ⟨h4, h5⟩ := hb k ls n g off b o cs hk' hbb
        refine ⟨?_, fun q b' i hr hr2 => ?_⟩
        · rw [get_upd_ne (hne3 k ls n g off b o cs (hsub _ _ hk') hbb)]
          exact h4
        · rcases hRGk q b' i hr with h6 | h6
          · exact h5 q b' i h6 hr2
          · exact (hreg k ls n g off b o cs (hsub k _ hk') hbb b' i hr2).2.2.2.1 m e (hsub _ _ hlm) h6
    simp only [giveObs]
    cases hkm : isK m with
    | false =>
      simp only [Bool.false_eq_true, if_false]
      refine hput _ _ (fun ent he => .inl (ha1 hkm ent he)) (fun _ => ⟨rfl, rfl⟩) (fun k f hkf hk hne hh => hne (nm_inj hh)) (fun k f hkt hk hne n g off hl => hnm m e (hsub _ _ hlm) hkm k n g off hl) (fun k ls n g off b o cs hk hbb => hnm m e (hsub _ _ hlm) hkm k n g off hbb.at_)
    | true =>
      simp only [if_true]
      rcases hkept m e (hsub _ _ hlm) hkm with ⟨n, g, off, h4, h5⟩ | ⟨h4, h5⟩
      · simp only [h4]
        refine hput n g (fun ent he => ?_) (fun hf => by rw [hkm] at hf; cases hf) (fun k f hkf hk hne => hnm k f hk hkf m n g off h4) (fun k f hkt hk hne n' g' off' hl e1 => ?_) (fun k ls n' g' off' b o cs hk hbb e1 => ?_)
        · rw [haK hkm n g off h4] at he
          cases he
          exact .inr ⟨rfl, hle.β _ _ _ (hle0.β _ _ _ (by rw [h5, h1]))⟩
        · subst e1; exact hne (hap _ _ _ _ _ _ _ hl h4)
        · subst e1
          have := hap _ _ _ _ _ _ _ hbb.at_ h4
          subst this
          rw [hsub _ _ hlm] at hk
          cases hk
      · simp only [h4]
        rw [h1] at h5
        cases h5
        -- nothing is there
        refine giveObs_ok hM hbox hS hcls hblk hkept hnm hap hle0 hreg harr r x.2 _ _ hnd.2 haf (fun k o hk => hsub k o (by rw [hlook k (by rintro rfl; rw [hno] at hk; cases hk)]; exact hk)) (fun k ent hk => hdat k ent ?_) hm hle hs (fun k f hk => ?_) (fun k f hk hkf hkn => ?_) (fun k ls n g off b o cs hk hbb => ?_)
        · have hkm : k ≠ m := by
            rintro rfl
            obtain ⟨_, o, z, h4, _⟩ := look_built hk
            rw [hno] at h4
            cases h4
          simp only [buildObs]
          rw [get_upd_ne (Ne.symm hkm)]
          exact hk
        · have hkm : k ≠ m := by rintro rfl; rw [hno] at hk; cases hk
          exact ha k f (by rw [hlook k hkm]; exact hk)
        · have hkm' : k ≠ m := by rintro rfl; rw [hkm] at hkf; cases hkf
          exact hdone k f hk hkf (by rw [hlook k hkm']; exact hkn)
        · have hkm : k ≠ m := by rintro rfl; rw [hno] at hk; cases hk
          exact hb k ls n g off b o cs (by rw [hlook k hkm]; exact hk) hbb
  | (m, .box ls) :: r, x, γk, obk, hnd, haf, hsub, hdat, hm, hle, hs, ha, hdone, hb => by
    simp only [nodupKeys, Bool.and_eq_true] at hnd
    simp only [arrsFirst] at haf
    have hlm : look ((m, ObT.box ls) :: r) m = some (.box ls) := by simp [look]
    have hno : look r m = none := by simpa using hnd.1
    have hlook : ∀ k, k ≠ m → look ((m, ObT.box ls) :: r) k = look r k := fun k hk => by simp [look, Ne.symm hk]
    have hget : get outO m = some ⟨0, .box (Lf.builds ls x.1)⟩ := hdat m _ (by simp only [buildObs, get_upd_same, ObT.build])
    obtain ⟨n, g, off, b, o, cs, hbb, hlen⟩ := hbox m ls (hsub _ _ hlm)
    obtain ⟨hgone, hfree⟩ := hb m ls n g off b o cs hlm hbb
    obtain ⟨lc, h1, h2⟩ := hM.objs m _ hget
    simp only at h1
    rw [hbb.β'] at h1
    cases h1
    have hgive : Give d ob1 mu γ' γk := by
      refine ⟨fun k A l c h hkf => ?_, fun k A l c h hkt => ?_, fun k b o h => ?_⟩
      · obtain ⟨e, he⟩ := hcls k A l c h
        have hkm : k ≠ m := by
          rintro rfl
          rw [hsub _ _ hlm] at he
          cases he
        have hkn : look ((m, ObT.box ls) :: r) k = none := by
          rw [hlook k hkm]
          cases hk : look r k with
          | none => rfl
          | some o2 =>
            have := hsub k o2 (by rw [hlook k hkm]; exact hk)
            rw [he] at this
            cases this
            exact absurd hk (all_box_look haf)
        rw [hdone k e he hkf hkn, h]
      · obtain ⟨e, he⟩ := hcls k A l c h
        rcases hkept k e he hkt with ⟨n, g, off, h1, h2⟩ | ⟨h1, h2⟩
        · exact .inl ⟨n, g, off, h1, hle.β _ _ _ (hle0.β _ _ _ (by rw [h2, h]))⟩
        · rw [h] at h2
          cases h2
          exact .inr ⟨h1, rfl, rfl, rfl⟩
      · obtain ⟨n, g, off, o0, h1, h2, h3⟩ := hblk k b o h
        exact ⟨n, g, off, o0, h1, hle.β _ _ _ (hle0.β _ _ _ h2), h3⟩
    have hnew := box_back (w' := w') (d := d) (ob1 := ob1) (mu := mu) hbb hget hlen h2 (hle0.trans hle) hgive (fun hd b' i hh => (hs b' i).2 (hS ((m, .box ls) :: r) hsub m (.box ls) hlm hd b' i hh))
    have hlen2 : (splice cs off (Lf.gives d ob1 mu ls x.1)).length = cs.length := by simp [splice, Lf.gives_len]; omega
    have hrg : ∀ b' i, reg (.blk b o) (.box (splice cs off (Lf.gives d ob1 mu ls x.1))) b' i → reg (.blk b o) (.box cs) b' i := fun b' i hr => by
      obtain ⟨h3, h4, h5⟩ := hr
      rw [hlen2] at h5
      exact ⟨h3, h4, h5⟩
    have hβk : γk.β n g = some (.blk b o) := hle.β _ _ _ (hle0.β _ _ _ hbb.β0)
    have hR := hreg m ls n g off b o cs (hsub _ _ hlm) hbb
    obtain ⟨hm', hle'⟩ := hm.add (n := n) (g' := g) (o' := .box (splice cs off (Lf.gives d ob1 mu ls x.1))) (l' := .blk b o) (fun ent he => by rw [hgone] at he; cases he; exact .inr ⟨rfl, hβk⟩) ⟨b, o, rfl, hnew⟩
      (fun k hk b' i hr hr2 => hfree k b' i hr2 (hrg b' i hr)) (fun b' i hr hh => (hR b' i (hrg b' i hr)).1 ((hs b' i).1 hh)) (fun b' i hr => ⟨(hR b' i (hrg b' i hr)).2.1, (hR b' i (hrg b' i hr)).2.2.1⟩)
    have hSk : ∀ b' i, (γk.set n g (.blk b o) fun _ _ => False).S b' i ↔ γB.S b' i := fun b' i => by
      rw [← hs b' i]
      simp [Gh.set]
    have hRGk : ∀ k b' i, RG (γk.set n g (.blk b o) fun _ _ => False) (upd obk n ⟨g, .box (splice cs off (Lf.gives d ob1 mu ls x.1))⟩) k b' i → RG γk obk k b' i ∨ reg (.blk b o) (.box cs) b' i := by
      rintro k b' i ⟨ent, l, h4, h5, h6⟩
      by_cases e1 : n = k
      · subst e1
        rw [get_upd_same] at h4
        cases h4
        simp only [Gh.set, and_self, if_true] at h5
        cases h5
        exact .inr (hrg b' i h6)
      · rw [get_upd_ne e1] at h4
        simp only [Gh.set] at h5
        rw [if_neg (fun hh => e1 hh.1.symm)] at h5
        exact .inl ⟨ent, l, h4, h5, h6⟩
    simp only [giveObs, hbb.at_, hbb.get0]
    refine giveObs_ok hM hbox hS hcls hblk hkept hnm hap hle0 hreg harr r x.2 _ _ hnd.2 (all_box haf) (fun k o hk => hsub k o (by rw [hlook k (by rintro rfl; rw [hno] at hk; cases hk)]; exact hk)) (fun k ent hk => hdat k ent ?_) hm' (hle.trans hle') hSk (fun k f hk => absurd hk (all_box_look haf)) (fun k f hk hkf hkn => ?_) (fun k ls2 n2 g2 off2 b2 o2 cs2 hk hbb2 => ?_)
    · have hkm : k ≠ m := by
        rintro rfl
        obtain ⟨_, o, z, h4, _⟩ := look_built hk
        rw [hno] at h4
        cases h4
      simp only [buildObs]
      rw [get_upd_ne (Ne.symm hkm)]
      exact hk
    · have hkm : k ≠ m := by rintro rfl; rw [hsub _ _ hlm] at hk; cases hk
      have := hdone k f hk hkf (by rw [hlook k hkm]; exact hkn)
      simp only [Gh.set]
      rw [if_neg (fun hh => hnm k f hk hkf m n g off hbb.at_ hh.1)]
      exact this
    · have hkm : k ≠ m := by rintro rfl; rw [hno] at hk; cases hk
      obtain ⟨h4, h5⟩ := hb k ls2 n2 g2 off2 b2 o2 cs2 (by rw [hlook k hkm]; exact hk) hbb2
      have hnn : n ≠ n2 := fun e => hkm (hap _ _ _ _ _ _ _ (e ▸ hbb2.at_) hbb.at_)
      refine ⟨by rw [get_upd_ne hnn]; exact h4, fun q b' i hr hr2 => ?_⟩
      rcases hRGk q b' i hr with h6 | h6
      · exact h5 q b' i h6 hr2
      · exact (hR b' i h6).2.2.2.2 k ls2 n2 g2 off2 b2 o2 cs2 hkm (hsub k _ (by rw [hlook k hkm]; exact hk)) hbb2 hr2

end
end Go.Vm
