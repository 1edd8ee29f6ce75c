import Derived.Test.YtfiahgfjepaiiaaGreatDoorVA21
set_option linter.unusedVariables false
set_option linter.unusedSimpArgs false
namespace Go.Tt

/-! ### New numbers -/
/-- The old number of a new one. -/
def backP : List (Nat × Nat) → Nat → Option Nat
  | [], _ => none
  | (a, b) :: r, j => bif Nat.beq b j then some a else backP r j
theorem renP_some {m : List (Nat × Nat)} {id j : Nat} (h : renP m id = some j) : (id, j) ∈ m := by
  induction m with
  | nil => simp [renP] at h
  | cons p r ih =>
    obtain ⟨a, b⟩ := p
    simp only [renP] at h
    cases hb : Nat.beq a id with
    | false => rw [hb] at h; simp only [cond_false] at h; exact List.mem_cons_of_mem _ (ih h)
    | true => rw [hb] at h; simp at h; have := Nat.eq_of_beq_eq_true hb; subst this h; simp
theorem backP_some {m : List (Nat × Nat)} {id j : Nat} (h : backP m j = some id) : (id, j) ∈ m := by
  induction m with
  | nil => simp [backP] at h
  | cons p r ih =>
    obtain ⟨a, b⟩ := p
    simp only [backP] at h
    cases hb : Nat.beq b j with
    | false => rw [hb] at h; simp only [cond_false] at h; exact List.mem_cons_of_mem _ (ih h)
    | true => rw [hb] at h; simp at h; have := Nat.eq_of_beq_eq_true hb; subst this h; simp
theorem nodup_second {m : List (Nat × Nat)} (h : nodupB (m.map (·.2)) = true) {a b j : Nat} (ha : (a, j) ∈ m) (hb : (b, j) ∈ m) : a = b := by
  induction m with
  | nil => simp at ha
  | cons p r ih =>
    simp only [List.map_cons, nodupB, Bool.and_eq_true, Bool.not_eq_true'] at h
    have no : ∀ x, (x, p.2) ∈ r → False := fun x hx => by
      have : mem p.2 (r.map (·.2)) = true := mem_iff.2 (List.mem_map.2 ⟨_, hx, rfl⟩)
      rw [this] at h; simp at h
    rcases List.mem_cons.1 ha with rfl | ha'
    · rcases List.mem_cons.1 hb with e | hb
      · cases e; rfl
      · exact (no _ hb).elim
    · rcases List.mem_cons.1 hb with e | hb'
      · subst e; exact (no _ ha').elim
      · exact ih h.2 ha' hb'
theorem nodup_first {m : List (Nat × Nat)} (h : nodupB (m.map (·.1)) = true) {a i j : Nat} (ha : (a, i) ∈ m) (hb : (a, j) ∈ m) : i = j := by
  induction m with
  | nil => simp at ha
  | cons p r ih =>
    simp only [List.map_cons, nodupB, Bool.and_eq_true, Bool.not_eq_true'] at h
    have no : ∀ x, (p.1, x) ∈ r → False := fun x hx => by
      have : mem p.1 (r.map (·.1)) = true := mem_iff.2 (List.mem_map.2 ⟨_, hx, rfl⟩)
      rw [this] at h; simp at h
    rcases List.mem_cons.1 ha with rfl | ha'
    · rcases List.mem_cons.1 hb with e | hb
      · cases e; rfl
      · exact (no _ hb).elim
    · rcases List.mem_cons.1 hb with e | hb'
      · subst e; exact (no _ ha').elim
      · exact ih h.2 ha' hb'
theorem backP_tot {j : Nat} : ∀ {m : List (Nat × Nat)}, (∃ a, (a, j) ∈ m) → ∃ x, backP m j = some x
  | [], h => by obtain ⟨a, h⟩ := h; simp at h
  | (a, b) :: r, h => by
    obtain ⟨x, hx⟩ := h
    simp only [backP]
    cases hb : Nat.beq b j with
    | true => exact ⟨a, rfl⟩
    | false =>
      simp only [cond_false]
      refine backP_tot ⟨x, ?_⟩
      rcases List.mem_cons.1 hx with e | hx
      · cases e; rw [Nat.beq_refl] at hb; simp at hb
      · exact hx
theorem backP_of {m : List (Nat × Nat)} (h : okM m = true) {id j : Nat} (hr : (id, j) ∈ m) : backP m j = some id := by
  simp only [okM, Bool.and_eq_true] at h
  obtain ⟨x, hx⟩ := backP_tot ⟨_, hr⟩
  rw [hx, nodup_second h.2 (backP_some hx) hr]
theorem backP_inj {m : List (Nat × Nat)} (h : okM m = true) {i j id : Nat} (hi : backP m i = some id) (hj : backP m j = some id) : i = j := by
  simp only [okM, Bool.and_eq_true] at h
  exact nodup_first h.1 (backP_some hi) (backP_some hj)
theorem renC_pure {m : List (Nat × Nat)} {c : C} (h : c.pure = true) : renC m c = c := by cases c <;> first | rfl | simp [C.pure] at h
section ren
variable {w : World} {S : Nat → Prop} {β : Beta} {m : List (Nat × Nat)} (hm : okM m = true)
include hm
abbrev bren (β : Beta) (m : List (Nat × Nat)) : Beta := fun j => (backP m j).bind β
theorem bren_at {id j : Nat} (h : renP m id = some j) : bren β m j = β id := by simp only [bren, backP_of hm (renP_some h), Option.bind_some]
theorem renPs_ok : ∀ {xs ys : List (Nat × Nat)}, renPs m xs = some ys → ys.map (ptrV (bren β m)) = xs.map (ptrV β)
  | [], ys, h => by simp [renPs] at h; subst h; rfl
  | (id, o) :: r, ys, h => by
    simp only [renPs] at h
    split at h
    · rename_i j r' h1 h2
      cases h
      simp only [List.map_cons, renPs_ok h2, ptrV, bren_at hm h1]
    · simp at h
/-- Under the new numbers a value stands for what it stood for. -/
theorem renC_ok {c : C} {v : Value} (h : RepC w S β c v) : RepC w S (bren β m) (renC m c) v := by
  cases hp : c.pure with
  | true => rw [renC_pure hp]; exact h.anyβ hp _
  | false =>
    cases h <;> first | (simp [C.pure] at hp; done) | skip
    · rename_i τ id l h
      simp only [renC]; split
      · rename_i j hj; exact .row τ j l (by rw [bren_at hm hj]; exact h)
      · exact .bot _
    · rename_i id off l b h hb
      simp only [renC]; split
      · rename_i j hj; exact .p j off l b (by rw [bren_at hm hj]; exact h) hb
      · exact .bot _
    · rename_i τ id i c l b h hb h0 h1
      simp only [renC]; split
      · rename_i j hj; exact .rp τ j i c l b (by rw [bren_at hm hj]; exact h) hb h0 h1
      · exact .bot _
    · rename_i f first caps vf vc hf hc
      simp only [renC]; split
      · rename_i a b ha hb; exact .fn f a b vf vc ((renPs_ok hm ha).trans hf) ((renPs_ok hm hb).trans hc)
      · exact .bot _
    · rename_i id l b h hb
      simp only [renC]; split
      · rename_i j hj; exact .m j l b (by rw [bren_at hm hj]; exact h) hb
      · exact .bot _
theorem renU_ok {c : U} {v : Value} (h : RepU w S β c v) : RepU w S (bren β m) (renU m c) v := by
  cases h with
  | c h => exact .c (renC_ok hm h)
  | agg h =>
    refine .agg ?_
    rename_i cs vs
    revert h
    generalize vs.toList = l
    intro h
    induction h with
    | nil => exact .nil
    | cons p _ ih => exact .cons ⟨renC_ok hm p.1, p.2⟩ ih
theorem renV_ok {c : V} {v : Value} (h : RepV w S β c v) : RepV w S (bren β m) (renV m c) v := by
  cases h with
  | u h => exact .u (renU_ok hm h)
  | tup h =>
    refine .tup ?_
    rename_i cs vs
    revert h
    generalize vs.toList = l
    intro h
    induction h with
    | nil => exact .nil
    | cons p _ ih => exact .cons (renU_ok hm p) ih
  | nx c i r h => exact .nx c i r h
omit hm in
theorem encU_anyβ {w : World} {S : Nat → Prop} {β β' : Beta} {τ : ET} {x : τ.T} {v : Value} (h : RepU w S β (encU τ x) v) : RepU w S β' (encU τ x) v := by
  have hq : ∀ y ∈ τ.enc x, y.pure = true := fun y hy => by obtain ⟨q, hq, rfl⟩ := List.getElem_of_mem hy; exact enc_pure τ x q _ (List.getElem?_eq_getElem hq)
  unfold encU at h ⊢
  split at h
  · rename_i c _ he
    cases h with
    | c h => exact .c (h.anyβ (hq c (by rw [he]; simp)) _)
  · cases h with
    | agg h =>
      have key : ∀ (cs : List C) (l : List Value), (∀ y ∈ cs, y.pure = true) → All2 (RC w S β) cs l → All2 (RC w S β') cs l := by
        intro cs l hq h
        induction h with
        | nil => exact .nil
        | cons p _ ih => exact .cons ⟨p.1.anyβ (hq _ (by simp)) _, p.2⟩ (ih (fun y hy => hq y (by simp [hy])))
      exact .agg (key _ _ hq h)
theorem renO_ok {F : Nat → Prop} {l : ALoc} {o : AObj} (h : ObjRep w S F β l o) : ObjRep w S F (bren β m) l (renO m o) := by
  cases h with
  | cells b c e h1 h2 h3 h4 h5 =>
    refine .cells b c e h1 h2 h3 h4 ?_
    rename_i cs
    revert h5
    generalize c.toList = l
    intro h
    induction h with
    | nil => exact .nil
    | cons p _ ih => exact .cons ⟨renC_ok hm p.1, p.2⟩ ih
  | none_ h1 h2 h3 => exact .none_ h1 h2 h3
  | row b c e h1 hA h2 h3 h4 h5 h6 h7 h8 hmm h9 =>
    refine .row b c e h1 hA h2 h3 h4 h5 h6 h7 h8 hmm (fun j x hx => ?_)
    rename_i τ xs
    have hq : ∀ (q : Nat) (y : C), (τ.enc x)[q]? = some y → y.pure = true := fun q y h => enc_pure τ x q y h
    have h := h9 j x hx
    revert h hq
    generalize (τ.enc x) = es
    generalize ((c.toList.drop (j * τ.size)).take τ.size) = l
    intro hq h
    induction h with
    | nil => exact .nil
    | cons p _ ih => exact .cons ⟨p.1.anyβ (hq 0 _ rfl) _, p.2⟩ (ih (fun q y hy => hq (q + 1) y (by simpa using hy)))
  | froz h1 h2 => exact .froz h1 (h2.anyβ rfl _)
  | dead => exact .dead
  | mp b arr clk h1 h2 h3 h4 hb h5 => exact .mp b arr clk h1 h2 h3 h4 hb (h5.imp fun _ _ h => ⟨h.1, encU_anyβ h.2⟩)
  | iter b h1 h2 h3 h4 h5 h6 h7 => exact .iter b h1 h2 h3 h4 h5 h6 h7
omit hm in
theorem live_ren (o : AObj) : (renO m o).live = o.live := by cases o <;> rfl
omit hm in
theorem objsL_some {σ : Store} {m : List (Nat × Nat)} : ∀ {l : List (Nat × Nat)} {os : List (Nat × AObj)}, objsL σ m l = some os → ∀ j,
    (∀ o, assocO os j = some o → ∃ a o', (a, j) ∈ l ∧ backP l j = some a ∧ σ a = some o' ∧ o = renO m o') ∧ (assocO os j = none → backP l j = none)
  | [], os, h, j => by simp [objsL] at h; subst h; exact ⟨fun o ho => by simp [assocO] at ho, fun _ => rfl⟩
  | (a, b) :: r, os, h, j => by
    simp only [objsL] at h
    split at h
    · rename_i o l h1 h2
      cases h
      obtain ⟨i1, i2⟩ := objsL_some h2 j
      simp only [assocO, backP]
      cases hb : Nat.beq j b with
      | true =>
        have e := Nat.eq_of_beq_eq_true hb
        subst e
        simp only [Nat.beq_refl, cond_true]
        exact ⟨fun o' ho' => by cases ho'; exact ⟨a, o, by simp, rfl, h1, rfl⟩, fun hn => by simp at hn⟩
      | false =>
        have hb' : Nat.beq b j = false := beq_false_of_ne (fun e => by subst e; rw [Nat.beq_refl] at hb; simp at hb)
        simp only [hb', cond_false]
        exact ⟨fun o' ho' => by obtain ⟨x, y, z1, z2, z3, z4⟩ := i1 o' ho'; exact ⟨x, y, List.mem_cons_of_mem _ z1, z2, z3, z4⟩, i2⟩
    · simp at h
theorem Inv.ren {F : Nat → Prop} {σ : Store} (h : Inv w S F β σ) {os : List (Nat × AObj)} (ho : objsL σ m m = some os) : Inv w S F (bren β m) (assocO os) where
  sS := h.sS
  sF := h.sF
  dom j hj := by simp only [bren, (objsL_some ho j).2 hj, Option.bind_none]
  obj j o hj := by
    obtain ⟨a, o', h1, h2, h3, rfl⟩ := (objsL_some ho j).1 o hj
    obtain ⟨l, hl, hr⟩ := h.obj a o' h3
    exact ⟨l, by simp only [bren, h2, Option.bind_some]; exact hl, renO_ok hm hr⟩
  inj i1 i2 o1 o2 l1 l2 b h1 h2 v1 v2 e1 e2 b1 b2 := by
    obtain ⟨a1, p1, m1, q1, r1, rfl⟩ := (objsL_some ho i1).1 o1 h1
    obtain ⟨a2, p2, m2, q2, r2, rfl⟩ := (objsL_some ho i2).1 o2 h2
    rw [live_ren] at v1 v2
    have e1' : β a1 = some l1 := by simpa [bren, q1] using e1
    have e2' : β a2 = some l2 := by simpa [bren, q2] using e2
    have := h.inj a1 a2 p1 p2 l1 l2 b r1 r2 v1 v2 e1' e2' b1 b2
    subst this
    exact backP_inj hm q1 q2
end ren
theorem assoc_rep {w : World} {S : Nat → Prop} {β : Beta} {g : Nat → Value} : ∀ {l : List (Nat × V)}, (∀ p ∈ l, RepV w S β p.2 (g p.1)) → ∀ j, RepV w S β (assoc l j) (g j)
  | [], _, j => RepV.bot _ _ _ _
  | (t, v) :: r, h, j => by
    simp only [assoc]
    cases hb : Nat.beq j t with
    | true => have := Nat.eq_of_beq_eq_true hb; subst this; exact h (j, v) (by simp)
    | false => exact assoc_rep (fun p hp => h p (List.mem_cons_of_mem _ hp)) j

theorem number_mem : ∀ (l : List Nat) (m : List (Nat × Nat)) (k : Nat), ∀ p ∈ m, p ∈ number l m k
  | [], m, k, p, hp => hp
  | x :: r, m, k, p, hp => by
    simp only [number]
    cases mem x (m.map (·.1)) with
    | true => exact number_mem r m k p hp
    | false => exact number_mem r _ _ p (List.mem_append_left _ hp)
theorem nrm_weak {n : Nat} {keep : List Nat} {s : AS} {s' : NS} (h : nrm n keep s = some s') : Weak n s s'.as := by
  intro a w S F β hs
  unfold nrm at h
  simp only at h
  have hsub := number_mem ((keep.flatMap fun t => idsV (s.env t)) ++ ((List.range n).flatMap fun j => idsO (s.σ j)) ++ (((keep.flatMap fun t => idsV (s.env t)) ++ ((List.range n).flatMap fun j => idsO (s.σ j))).flatMap fun id => idsO (s.σ id))) ((List.range n).map fun j => (j, j)) K0
  generalize number _ _ _ = m at h hsub
  split at h
  · rename_i os hok hos
    cases h
    refine ⟨bren β m, ⟨hs.inv.ren hok hos, hs.marks, hs.nt, fun j => ?_⟩, fun id l hi hl => ?_⟩
    · refine assoc_rep (g := fun j => a.tmps.getD j undef) (fun p hp => ?_) j
      obtain ⟨t, _, rfl⟩ := List.mem_map.1 hp
      exact renV_ok hok (hs.env t)
    · have : (id, id) ∈ m := hsub _ (List.mem_map.2 ⟨id, List.mem_range.2 hi, rfl⟩)
      simp only [bren, backP_of hok this, Option.bind_some]; exact hl
  · simp at h


/-! ### Hints by a list: a loop's block; what is kept at its head, behind it, at a return -/
def hintOf (n : Nat) : List (Nat × List Nat × List Nat × List Nat) → Hint
  | [], _, _, _ => none
  | (b, h, e, t) :: r, c, i, s => bif Nat.beq c b then (match i with | 0 => nrm n h s | 1 => nrm n e s | _ => nrm n t s) else hintOf n r c i s
theorem hintOf_ok (n : Nat) : ∀ l, HintOK n (hintOf n l)
  | [], b, i, s, s', h => by simp [hintOf] at h
  | (b', hd, e, t) :: r, b, i, s, s', h => by
    simp only [hintOf] at h
    cases hb : Nat.beq b b' with
    | true =>
      rw [hb] at h; simp only [cond_true] at h
      split at h <;> exact nrm_weak h
    | false => rw [hb] at h; simp only [cond_false] at h; exact hintOf_ok n r b i s s' h
end Go.Tt
