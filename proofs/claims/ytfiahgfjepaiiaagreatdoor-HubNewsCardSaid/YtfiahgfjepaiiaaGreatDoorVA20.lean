import Derived.Test.YtfiahgfjepaiiaaGreatDoorVA19
set_option linter.unusedVariables false
set_option linter.unusedSimpArgs false
namespace Go.Tt

section
variable {P : Program} {ops : Array Oper}
theorem steps_len {i : Nat} {s s' : AS} {tr : Trace} (h : Steps P ops i s tr s') : i + tr.length = ops.size := by
  induction h with
  | nil => rfl
  | cons _ _ _ ih => simp only [List.length_cons]; omega
theorem steps_at {s0 s' : AS} {tr0 : Trace} : ∀ {i : Nat} {s : AS} {tr : Trace}, Steps P ops i s tr s' → tr0.drop i = tr → s = stD ops tr0 (fun _ => true) i s0 →
    s' = stD ops tr0 (fun _ => true) ops.size s0 ∧ ∀ (j : Nat) (o : Oper) (p : List Nat × Eff), i ≤ j → ops[j]? = some o → tr0[j]? = some p → StepOK P ops j o (stD ops tr0 (fun _ => true) j s0) p.1 p.2 := by
  intro i s tr h
  induction h with
  | nil s =>
    intro hd hs
    refine ⟨hs, fun j o p hj ho hp => ?_⟩
    have := (Array.getElem?_eq_some_iff.1 ho).1
    omega
  | cons ho hst r ih =>
    rename_i i o s s' rd e tr
    intro hd hs
    have hp : tr0[i]? = some (rd, e) := by
      have : (tr0.drop i)[0]? = some (rd, e) := by rw [hd]; rfl
      simpa [List.getElem?_drop] using this
    have hd' : tr0.drop (i + 1) = tr := by rw [← List.drop_drop, hd]; rfl
    obtain ⟨h1, h2⟩ := ih hd' (by simp only [stD, ho, hp, cond_true, ← hs])
    refine ⟨h1, fun j o' p hj ho' hp' => ?_⟩
    by_cases e : j = i
    · subst e
      rw [ho] at ho'; cases ho'
      rw [hp] at hp'; cases hp'
      rw [← hs]; exact hst
    · exact h2 j o' p (by omega) ho' hp'

theorem disj_iff {a b : List Nat} (h : disj a b = true) : ∀ x ∈ a, x ∉ b := by
  intro x hx hb
  have := List.all_eq_true.1 h x hx
  rw [mem_iff.2 hb] at this; simp at this
structure NoClash (ops : Array Oper) (o o' : Oper) (p p' : List Nat × Eff) : Prop where
  dd : ∀ x, o.dst = some x → o'.dst ≠ some x
  ds : ∀ x, o.dst = some x → x ∉ o'.looksAt ops
  ds' : ∀ x, o'.dst = some x → x ∉ o.looksAt ops
  ww : ∀ x ∈ p.2.w.map (·.1), x ∉ p'.2.w.map (·.1)
  wr : ∀ x ∈ p.2.w.map (·.1), x ∉ p'.1
  wr' : ∀ x ∈ p'.2.w.map (·.1), x ∉ p.1
theorem clash_false {o o' : Oper} {p p' : List Nat × Eff} (h : clash ops o o' p p' = false) : NoClash ops o o' p p' := by
  simp only [clash, Bool.not_eq_false', Bool.and_eq_true] at h
  obtain ⟨⟨⟨⟨⟨h1, h2⟩, h3⟩, h4⟩, h5⟩, h6⟩ := h
  refine ⟨fun x hx e => ?_, fun x hx => ?_, fun x hx => ?_, disj_iff h4, disj_iff h5, disj_iff h6⟩
  · exact disj_iff h1 x (by simp [dstOf, hx]) (by simp [dstOf, e])
  · exact disj_iff h2 x (by simp [dstOf, hx])
  · exact disj_iff h3 x (by simp [dstOf, hx])
/-- Those ahead of what is done, or may begin, are done. -/
theorem anc_done {D : Nat → Bool} (hD : ∀ (j : Nat) (o : Oper), D j = true → ops[j]? = some o → ∀ e ∈ o.after, Region.binds .any e = true → D e.on = true) : ∀ (n i j : Nat), anc ops n i j = true → (∀ o, ops[j]? = some o → ∀ e ∈ o.after, Region.binds .any e = true → D e.on = true) → D i = true
  | 0, i, j, h, _ => by simp [anc] at h
  | n + 1, i, j, h, hj => by
    simp only [anc] at h
    split at h
    · rename_i o ho
      obtain ⟨e, he, h⟩ := List.any_eq_true.1 h
      simp only [Bool.and_eq_true, Bool.or_eq_true] at h
      have he' : e ∈ o.after := by simpa using he
      have hde := hj o ho e he' h.1
      rcases h.2 with h | h
      · rw [← Nat.eq_of_beq_eq_true h]; exact hde
      · exact anc_done hD n i e.on h (fun o' ho' => hD _ _ hde ho')
    · simp at h

theorem order_any {tr : Trace} (hlen : tr.length = ops.size) (hok : orderOk ops tr = true) {s0 : AS} (hst : ∀ (j : Nat) (o : Oper) (p : List Nat × Eff), ops[j]? = some o → tr[j]? = some p → StepOK P ops j o (stD ops tr (fun _ => true) j s0) p.1 p.2) {F : Nat → Prop} {Q : Exit → Act → World → Prop} :
    ∀ (fuel : Nat) (listed : Array Bool) (a : Act) (w : World) (S : Nat → Prop) (β : Beta), listed.size = ops.size → listed.toList.count false ≤ fuel →
      (∀ (j : Nat) (o : Oper), listed.getD j false = true → ops[j]? = some o → ∀ e ∈ o.after, Region.binds .any e = true → listed.getD e.on false = true) → St (stD ops tr (fun j => listed.getD j false) ops.size s0) a w S F β →
      (∀ a' w' S' β', St (stD ops tr (fun _ => true) ops.size s0) a' w' S' F β' → Ext w S F w' S' → (∀ id l, β id = some l → β' id = some l) → Q .normal a' w') → wpAny P .any ops Q fuel listed a w := by
  simp only [orderOk, Bool.and_eq_true] at hok
  obtain ⟨hback, hpairs⟩ := hok
  have pair : ∀ (i j : Nat) (o o' : Oper) (p p' : List Nat × Eff), i < j → ops[i]? = some o → ops[j]? = some o' → tr[i]? = some p → tr[j]? = some p' → NoClash ops o o' p p' ∨ anc ops ops.size i j = true := by
    intro i j o o' p p' hij ho ho' hp hp'
    have hj : j < ops.size := (Array.getElem?_eq_some_iff.1 ho').1
    have := List.all_eq_true.1 (List.all_eq_true.1 hpairs j (List.mem_range.2 hj)) i (List.mem_range.2 hij)
    simp only [ho, ho', hp, hp', Bool.or_eq_true, Bool.not_eq_true'] at this
    exact this.imp clash_false (fun h => h)
  have trAt : ∀ (j : Nat) (o : Oper), ops[j]? = some o → ∃ p, tr[j]? = some p := by
    intro j o ho
    have hj : j < ops.size := (Array.getElem?_eq_some_iff.1 ho).1
    exact ⟨tr[j], List.getElem?_eq_getElem (by omega)⟩
  -- when nothing may begin, all is done
  have full : ∀ (listed : Array Bool), listed.size = ops.size → Region.ready .any ops listed = [] → ∀ j, j < ops.size → listed.getD j false = true := by
    intro listed hsz hr j
    induction j using Nat.strongRecOn with
    | _ j ih =>
      intro hj
      cases hd : listed.getD j false with
      | true => rfl
      | false =>
        have ho : ops[j]? = some ops[j] := Array.getElem?_eq_getElem hj
        have : j ∈ Region.ready .any ops listed := by
          rw [mem_ready]
          refine ⟨?_, ops[j], ho, fun e he hb => ?_⟩
          · rw [← hd]; simp [Array.getD_eq_getD_getElem?, Array.getElem?_eq_getElem (show j < listed.size by omega)]
          · have := List.all_eq_true.1 hback j (List.mem_range.2 hj)
            simp only [ho] at this
            have := List.all_eq_true.1 this e (by simpa using he)
            simp only [hb, Bool.not_true, Bool.false_or, Nat.blt_eq] at this
            exact ih e.on this (by omega)
        rw [hr] at this; cases this
  have fin : ∀ (listed : Array Bool) (a : Act) (w : World) (S : Nat → Prop) (β : Beta), listed.size = ops.size → Region.ready .any ops listed = [] → St (stD ops tr (fun j => listed.getD j false) ops.size s0) a w S F β →
      (∀ a' w' S' β', St (stD ops tr (fun _ => true) ops.size s0) a' w' S' F β' → Ext w S F w' S' → (∀ id l, β id = some l → β' id = some l) → Q .normal a' w') → Q .normal a w := by
    intro listed a w S β hsz hr hs hQ
    rw [stD_congr s0 ops.size (fun j hj => full listed hsz hr j hj)] at hs
    exact hQ a w S β hs (Ext.refl _ _ _) (fun _ _ h => h)
  intro fuel
  induction fuel with
  | zero =>
    intro listed a w S β hsz hc hcl hs hQ
    have hr : Region.ready .any ops listed = [] := by
      cases hrr : Region.ready .any ops listed with
      | nil => rfl
      | cons j r =>
        have hj : j ∈ Region.ready .any ops listed := by rw [hrr]; simp
        rw [mem_ready] at hj
        have h1 := hj.1
        have hlt : j < listed.size := by
          rcases Nat.lt_or_ge j listed.size with h | h
          · exact h
          · simp [Array.getD_eq_getD_getElem?, Array.getElem?_eq_none h] at h1
        have hm : false ∈ listed.toList := by
          rw [Array.getD_eq_getD_getElem?, Array.getElem?_eq_getElem hlt] at h1
          simp only [Option.getD_some] at h1
          rw [← h1]; simp
        have := List.count_pos_iff.2 hm
        omega
    exact ⟨hr, fin listed a w S β hsz hr hs hQ⟩
  | succ fuel ih =>
    intro listed a w S β hsz hc hcl hs hQ
    refine ⟨fun hr => fin listed a w S β hsz hr hs hQ, fun i hi => ?_⟩
    obtain ⟨h1, o, ho, hpred⟩ := mem_ready.1 hi
    have hlt : i < listed.size := by
      rcases Nat.lt_or_ge i listed.size with h | h
      · exact h
      · simp [Array.getD_eq_getD_getElem?, Array.getElem?_eq_none h] at h1
    have hfalse : listed.getD i false = false := by
      rw [← h1]; simp [Array.getD_eq_getD_getElem?, Array.getElem?_eq_getElem hlt]
    obtain ⟨p, hp⟩ := trAt i o ho
    have hpred' : ∀ o', ops[i]? = some o' → ∀ e ∈ o'.after, Region.binds .any e = true → listed.getD e.on false = true := fun o' ho' => by rw [ho] at ho'; cases ho'; exact hpred
    -- what is not alike, does not clash
    have noc : ∀ (j : Nat) (o' : Oper) (p' : List Nat × Eff), ops[j]? = some o' → tr[j]? = some p' → j ≠ i → ((j < i ∧ listed.getD j false = false) ∨ (i < j ∧ listed.getD j false = true)) → NoClash ops o o' p p' ∨ NoClash ops o' o p' p := by
      intro j o' p' ho' hp' hne h
      rcases h with ⟨hj, hd⟩ | ⟨hj, hd⟩
      · rcases pair j i o' o p' p hj ho' ho hp' hp with h | h
        · exact .inr h
        · have := anc_done (D := fun j => listed.getD j false) (fun j o => hcl j o) _ _ _ h hpred'
          rw [hd] at this; simp at this
      · rcases pair i j o o' p p' hj ho ho' hp hp' with h | h
        · exact .inl h
        · have := anc_done (D := fun j => listed.getD j false) (fun j o => hcl j o) _ _ _ h (fun o'' ho'' => hcl j o'' hd ho'')
          rw [hfalse] at this; simp at this
    have hi' : i < ops.size := by omega
    have low : stD ops tr (fun _ => true) i s0 = stD ops tr (fun j => Nat.blt j i) ops.size s0 := by
      have := stD_low (ops := ops) (tr := tr) (fun _ => true) i s0 (ops.size - i)
      rw [show i + (ops.size - i) = ops.size by omega] at this
      exact this.symm
    have differ : ∀ j, Nat.blt j i ≠ listed.getD j false → j ≠ i ∧ ((j < i ∧ listed.getD j false = false) ∨ (i < j ∧ listed.getD j false = true)) := by
      intro j hne
      by_cases e : j = i
      · subst e
        have : Nat.blt j j = false := by cases h : Nat.blt j j with | false => rfl | true => rw [Nat.blt_eq] at h; omega
        rw [this, hfalse] at hne; exact (hne rfl).elim
      · refine ⟨e, ?_⟩
        cases hb : Nat.blt j i with
        | true =>
          rw [hb] at hne
          rw [Nat.blt_eq] at hb
          refine .inl ⟨hb, ?_⟩
          cases hd : listed.getD j false with
          | false => rfl
          | true => rw [hd] at hne; exact (hne rfl).elim
        | false =>
          rw [hb] at hne
          refine .inr ⟨?_, ?_⟩
          · rcases Nat.lt_trichotomy j i with h | h | h
            · rw [show Nat.blt j i = true by rw [Nat.blt_eq]; exact h] at hb; simp at hb
            · exact (e h).elim
            · exact h
          · cases hd : listed.getD j false with
            | true => rfl
            | false => rw [hd] at hne; exact (hne rfl).elim
    have agree : Agree ops o p.1 (stD ops tr (fun _ => true) i s0) (stD ops tr (fun j => listed.getD j false) ops.size s0) := by
      rw [low]
      refine ⟨by rw [stD_gen, stD_gen], by rw [stD_nt, stD_nt], fun t ht => ?_, fun id hid => ?_⟩
      · refine stD_env s0 ops.size (fun j o' p' hj ho' hp' hne e => ?_)
        obtain ⟨h1, h2⟩ := differ j (fun e => hne e.symm)
        rcases noc j o' p' ho' hp' h1 h2 with h | h
        · exact h.ds' t e ht
        · exact h.ds t e ht
      · refine stD_σ s0 ops.size (fun j o' p' hj ho' hp' hne e => ?_)
        obtain ⟨h1, h2⟩ := differ j (fun e => hne e.symm)
        rcases noc j o' p' ho' hp' h1 h2 with h | h
        · exact h.wr' id e hid
        · exact h.wr id e hid
    refine hst i o p ho hp _ agree a w S F β hs Q _ (fun a' w' S' β' hs' hx hβ => ?_)
    have hD2 : ∀ j, j < ops.size → (listed.setIfInBounds i true).getD j false = (listed.getD j false || Nat.beq j i) := by
      intro j hj
      by_cases e : j = i
      · subst e
        simp [Array.getD_eq_getD_getElem?, hlt]
      · rw [getD_set_ne false (Ne.symm e), beq_false_of_ne e, Bool.or_false]
    have step : stD ops tr (fun j => (listed.setIfInBounds i true).getD j false) ops.size s0 = p.2.on o.dst (stD ops tr (fun j => listed.getD j false) ops.size s0) := by
      rw [stD_congr s0 ops.size hD2]
      have := stD_add (D := fun j => listed.getD j false) ho hp hfalse s0 (ops.size - (i + 1)) (fun j o' p' h1 h2 ho' hp' hd => by
        rcases noc j o' p' ho' hp' (by omega) (.inr ⟨h1, hd⟩) with h | h
        · exact ⟨fun x hx e => h.dd x e hx, fun x hx hx2 => h.ww x hx2 hx⟩
        · exact ⟨h.dd, h.ww⟩)
      rw [show i + 1 + (ops.size - (i + 1)) = ops.size by omega] at this
      exact this
    refine ih (listed.setIfInBounds i true) a' w' S' β' (by simp [hsz]) ?_ (fun j o' hj ho' e he hb => ?_) (by rw [step]; exact hs') (fun a2 w2 S2 β2 hs2 hx2 hβ2 => hQ a2 w2 S2 β2 hs2 (hx.trans hx2) (fun id l hl => hβ2 _ _ (hβ _ _ hl)))
    · have hge : listed[i] = false := by
        have := hfalse
        rw [Array.getD_eq_getD_getElem?, Array.getElem?_eq_getElem hlt] at this
        simpa using this
      rw [Array.toList_setIfInBounds, List.count_set (by simpa using hlt)]
      have : listed.toList[i]'(by simpa using hlt) = false := by simpa using hge
      rw [this]
      have hpos : 0 < listed.toList.count false := List.count_pos_iff.2 (by rw [← this]; exact List.getElem_mem _)
      generalize listed.toList.count false = n at hpos hc ⊢
      simp; omega
    · by_cases e1 : j = i
      · subst e1
        rw [ho] at ho'; cases ho'
        exact getD_set_true (hpred e he hb)
      · rw [getD_set_ne false (Ne.symm e1)] at hj
        exact getD_set_true (hcl j o' hj ho' e he hb)
end
end Go.Tt
