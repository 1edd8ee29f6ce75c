import Derived.Test.YtfiahgfjepaiiaaGreatDoorVA20
set_option linter.unusedVariables false
set_option linter.unusedSimpArgs false
namespace Go.Tt

theorem yielded_put {ops : Array Oper} {j d : Nat} {o : Oper} (ho : ops[j]? = some o) (hne : o.dst ≠ some d) (a : Act) (v : Value) : yielded ops (a.put (some d) v).tmps j = yielded ops a.tmps j := by
  cases hd : o.dst with
  | none => simp only [yielded, ho, Option.bind_some, hd, Option.bind_none]
  | some t =>
    have : t ≠ d := fun e => hne (by rw [hd, e])
    simp only [yielded, ho, Option.bind_some, hd, Act.put]
    rw [Array.getElem?_setIfInBounds_ne (fun h => this h.symm)]
theorem yielded_none {ops : Array Oper} {j : Nat} (ho : ops[j]? = none) (t : Array Value) : yielded ops t j = none := by simp [yielded, ho]
theorem yielded_getD {ops : Array Oper} {a : Act} {j : Nat} {b : Bool} (h : yielded ops a.tmps j = some b) : ∃ o t, ops[j]? = some o ∧ o.dst = some t ∧ a.tmps.getD t undef = .bool b := by
  unfold yielded at h
  cases ho : ops[j]? with
  | none => rw [ho] at h; simp at h
  | some o =>
    cases hd : o.dst with
    | none => rw [ho] at h; simp [hd] at h
    | some t =>
      refine ⟨o, t, rfl, hd, ?_⟩
      rw [ho] at h
      simp only [Option.bind_some, hd] at h
      rw [Array.getD_eq_getD_getElem?]
      cases hx : a.tmps[t]? with
      | none => rw [hx] at h; simp at h
      | some v =>
        rw [hx] at h
        cases v <;> simp at h
        subst h; rfl
theorem yielded_of {ops : Array Oper} {a : Act} {j t : Nat} {o : Oper} {b : Bool} (ho : ops[j]? = some o) (hd : o.dst = some t) (h : a.tmps.getD t undef = .bool b) : yielded ops a.tmps j = some b := by
  rw [Array.getD_eq_getD_getElem?] at h
  cases hx : a.tmps[t]? with
  | none => rw [hx] at h; simp [undef] at h
  | some v => rw [hx] at h; simp at h; subst h; simp only [yielded, ho, Option.bind_some, hd, hx]
structure SInv (ops : Array Oper) (i : Nat) (s : AS) (sp : SP) (a : Act) (w : World) (S F : Nat → Prop) (β : Beta) : Prop where
  st : St s a w S F β
  guards : ∀ m o, m < i → ops[m]? = some o → ∀ g, o.guard = some g → g.1 < m
  und : ∀ m o t, m < i → ops[m]? = some o → o.dst = some t → Region.wanted o (yielded ops a.tmps) = false → a.tmps.getD t undef = undef
  sp : ∀ t m c, spFind sp t = some (m, c) → m < i ∧ ∃ o, ops[m]? = some o ∧ o.dst = some t ∧ (Region.wanted o (yielded ops a.tmps) = true → RepC w S β c (a.tmps.getD t undef))
theorem bEq_eq {a b : Bool} (h : bEq a b = true) : a = b := by cases a <;> cases b <;> simp [bEq] at h <;> rfl
theorem wanted_guard {o : Oper} {g : Nat × Bool} (h : o.guard = some g) (y : Nat → Option Bool) : Region.wanted o y = (y g.1 == some g.2) := by
  obtain ⟨j, w⟩ := g
  simp only [Region.wanted, h]
theorem implB_ok {ops : Array Oper} {s : AS} {sp : SP} {a : Act} {w : World} {S F : Nat → Prop} {β : Beta} {i : Nat} (h : SInv ops i s sp a w S F β) : ∀ (n k : Nat) (gm : Nat × Bool), k ≤ i → implB ops n k gm = true → ∀ o, ops[k]? = some o → Region.wanted o (yielded ops a.tmps) = true → yielded ops a.tmps gm.1 = some gm.2
  | 0, k, gm, hk, hb, o, ho, hw => by simp [implB] at hb
  | n + 1, k, gm, hk, hb, o, ho, hw => by
    simp only [implB, guardOf, ho, Option.bind_some] at hb
    split at hb
    · simp at hb
    · rename_i g hg
      rw [wanted_guard hg] at hw
      have hw : yielded ops a.tmps g.1 = some g.2 := by simpa using hw
      simp only [Bool.or_eq_true, Bool.and_eq_true] at hb
      rcases hb with ⟨h1, h2⟩ | ⟨h1, h2⟩
      · rw [← Nat.eq_of_beq_eq_true h1, ← bEq_eq h2]; exact hw
      · rw [Nat.blt_eq] at h1
        obtain ⟨o2, t, ho2, hd2, hv⟩ := yielded_getD hw
        refine implB_ok h n g.1 gm (by omega) h2 o2 ho2 ?_
        cases hw2 : Region.wanted o2 (yielded ops a.tmps) with
        | true => rfl
        | false =>
          have := h.und g.1 o2 t (by omega) ho2 hd2 hw2
          rw [hv] at this; simp [undef] at this
theorem nodup_filterMap {ops : Array Oper} (h : nodupB (dstsOf ops) = true) {m i : Nat} {o1 o2 : Oper} {t : Nat} (h1 : ops[m]? = some o1) (h2 : ops[i]? = some o2) (d1 : o1.dst = some t) (d2 : o2.dst = some t) : m = i := by
  have key : ∀ (l : List Oper), nodupB (l.filterMap (·.dst)) = true → ∀ (m i : Nat) (o1 o2 : Oper), l[m]? = some o1 → l[i]? = some o2 → o1.dst = some t → o2.dst = some t → m = i := by
    intro l
    induction l with
    | nil => intro _ m i o1 o2 h; simp at h
    | cons x r ih =>
      intro hn m i o1 o2 h1 h2 d1 d2
      have no : ∀ (k : Nat) (o : Oper), r[k]? = some o → o.dst = some t → x.dst = some t → False := by
        intro k o hk hd hx
        rw [List.filterMap_cons, hx] at hn
        simp only [nodupB, Bool.and_eq_true, Bool.not_eq_true'] at hn
        have : mem t (r.filterMap (·.dst)) = true := mem_iff.2 (List.mem_filterMap.2 ⟨o, List.mem_of_getElem? hk, hd⟩)
        rw [this] at hn; simp at hn
      have hr : nodupB (r.filterMap (·.dst)) = true := by
        rw [List.filterMap_cons] at hn
        split at hn
        · exact hn
        · simp only [nodupB, Bool.and_eq_true] at hn; exact hn.2
      cases m with
      | zero =>
        cases i with
        | zero => rfl
        | succ i => simp at h1 h2; subst h1; exact (no i o2 h2 d2 d1).elim
      | succ m =>
        cases i with
        | zero => simp at h1 h2; subst h2; exact (no m o1 h1 d1 d2).elim
        | succ i => simp at h1 h2; rw [ih hr m i o1 o2 h1 h2 d1 d2]
  exact key ops.toList h m i o1 o2 (by simpa using h1) (by simpa using h2) d1 d2
theorem opdS_ok {ops : Array Oper} {s : AS} {sp : SP} {a : Act} {w : World} {S F : Nat → Prop} {β : Beta} {i : Nat} {o : Oper} (h : SInv ops i s sp a w S F β) (ho : ops[i]? = some o) (hw : Region.wanted o (yielded ops a.tmps) = true) {x : Operand} {v : V} (hx : opdS ops i s sp x = some v) : RepV w S β v (a.eval x) := by
  cases x with
  | tmp t =>
    simp only [opdS] at hx
    split at hx
    · rename_i m c hf
      obtain ⟨hm, o2, ho2, hd2, hr⟩ := h.sp _ _ _ hf
      split at hx
      · rename_i gm hg
        cases hi : implB ops ops.size i gm with
        | false => rw [hi] at hx; simp at hx
        | true =>
          rw [hi] at hx; simp only [cond_true, Option.some.injEq] at hx; subst hx
          have hy := implB_ok h _ _ _ (Nat.le_refl _) hi o ho hw
          simp only [guardOf, ho2, Option.bind_some] at hg
          exact .u (.c (hr (by rw [wanted_guard hg, hy]; simp)))
      · simp at hx
    · cases hx; exact h.st.env t
  | _ => exact h.st.opd hx
theorem opdsS_ok {ops : Array Oper} {s : AS} {sp : SP} {a : Act} {w : World} {S F : Nat → Prop} {β : Beta} {i : Nat} {o : Oper} (h : SInv ops i s sp a w S F β) (ho : ops[i]? = some o) (hw : Region.wanted o (yielded ops a.tmps) = true) : ∀ {xs : List Operand} {vs : List V}, opdsS ops i s sp xs = some vs → All2 (RepV w S β) vs (xs.map a.eval)
  | [], vs, hx => by simp [opdsS] at hx; subst hx; exact .nil
  | x :: xs, vs, hx => by
    simp only [opdsS] at hx
    split at hx
    · rename_i v vs' h1 h2
      cases hx
      exact .cons (opdS_ok h ho hw h1) (opdsS_ok h ho hw h2)
    · simp at hx
theorem altS_ok {ops : Array Oper} {s : AS} {sp : SP} {a : Act} {w : World} {S F : Nat → Prop} {β : Beta} {i : Nat} {o : Oper} (h : SInv ops i s sp a w S F β) (ho : ops[i]? = some o) (hw : Region.wanted o (yielded ops a.tmps) = true) {tc : Nat} {want : Bool} (hc : a.tmps.getD tc undef = .bool want) {x : Operand} {b : Bool} (hx : altS ops i s sp tc want x = some b) : a.eval x = .bool b := by
  cases x with
  | tmp t =>
    simp only [altS] at hx
    split at hx
    · rename_i m b' hf
      obtain ⟨hm, o2, ho2, hd2, hr⟩ := h.sp _ _ _ hf
      split at hx
      · rename_i gm hg
        simp only [guardOf, ho2, Option.bind_some] at hg
        have fin : yielded ops a.tmps gm.1 = some gm.2 → a.eval (.tmp t) = .bool b' := by
          intro hy
          have := hr (by rw [wanted_guard hg, hy]; simp)
          generalize hv : a.tmps.getD t undef = v at this
          cases this
          exact hv
        generalize hcond : (implB ops ops.size i gm || (bEq gm.2 want && (match dstAt ops gm.1 with | some d => Nat.beq d tc | none => false))) = g at hx
        cases g with
        | false => simp at hx
        | true =>
          simp only [cond_true, Option.some.injEq] at hx; subst hx
          simp only [Bool.or_eq_true, Bool.and_eq_true] at hcond
          rcases hcond with hi | ⟨h1, h2⟩
          · exact fin (implB_ok h _ _ _ (Nat.le_refl _) hi o ho hw)
          · split at h2
            · rename_i d hd
              have e := Nat.eq_of_beq_eq_true h2
              subst e
              simp only [dstAt] at hd
              cases ho3 : ops[gm.1]? with
              | none => rw [ho3] at hd; simp at hd
              | some o3 =>
                rw [ho3] at hd
                simp only [Option.bind_some] at hd
                have := yielded_of ho3 hd hc
                rw [← bEq_eq h1] at this
                exact fin this
            · simp at h2
      · simp at hx
    · simp at hx
    · split at hx
      · rename_i hb
        cases hx
        have := h.st.env t
        rw [hb] at this
        exact this.bool
      · simp at hx
  | const c =>
    cases c <;> simp [altS] at hx
    subst hx; rfl
  | _ => simp [altS] at hx
theorem pickS_ok {ops : Array Oper} {s : AS} {sp : SP} {a : Act} {w : World} {S F : Nat → Prop} {β : Beta} {i : Nat} {o : Oper} (h : SInv ops i s sp a w S F β) (ho : ops[i]? = some o) (hw : Region.wanted o (yielded ops a.tmps) = true) {c x y : Operand} (hop : o.op = .pick c x y) {r : C} (hx : pickS ops i s sp c x y = some r) {P : Program} :
    ∃ v, (execOp a.eval o).run P w = .ok (.value v) w ∧ RepC w S β r v := by
  cases c with
  | tmp tc =>
    simp only [pickS] at hx
    split at hx
    · rename_i bc hbc
      split at hx
      · rename_i bx by_ h1 h2
        cases hx
        have hc := (opdS_ok h ho hw hbc).bool
        have hc' : a.tmps.getD tc undef = .bool bc := hc
        cases bc with
        | true => exact ⟨.bool bx, by simp [execOp, hop, hc, asBool, altS_ok h ho hw hc' h1], .b _⟩
        | false => exact ⟨.bool by_, by simp [execOp, hop, hc, asBool, altS_ok h ho hw hc' h2], .b _⟩
      · simp at hx
    · simp at hx
  | _ => simp [pickS] at hx
theorem specOp_ok {P : Program} {T : Nat → TD} (hT : TOK P T) {ops : Array Oper} {s : AS} {sp : SP} {a : Act} {w : World} {S F : Nat → Prop} {β : Beta} {i : Nat} {o : Oper} (h : SInv ops i s sp a w S F β) (ho : ops[i]? = some o) (hw : Region.wanted o (yielded ops a.tmps) = true) {c : C} (hx : specOp T ops i s sp o = some c) : ∃ r w' S' β' v, (execOp a.eval o).run P w = .ok r w' ∧ (r = .value v ∨ (r = .skip ∧ v = undef)) ∧ Inv w' S' F β' s.σ ∧ RepC w' S' β' c v ∧ Ext w S F w' S' ∧ (∀ id l, β id = some l → β' id = some l) := by
  unfold specOp at hx
  split at hx
  · rename_i c0 x y hop
    obtain ⟨v, h1, h2⟩ := pickS_ok (P := P) h ho hw hop hx
    exact ⟨_, w, S, β, v, h1, .inl rfl, h.st.inv, h2, Ext.refl _ _ _, fun _ _ h => h⟩
  · split at hx
    · rename_i vs hvs
      split at hx
      · rename_i c' he
        cases hx
        by_cases h0 : s.σ 0 = none
        · obtain ⟨r, w', S', β', v, q1, q2, q3, q4, q5, q6⟩ := opE_ok (P := P) hT he rfl h.st.inv (Sub.refl _) (fun h => h) (opdsS_ok h ho hw hvs)
          exact ⟨r, w', S', β', v, q1, q2, q3, q4.cell, q5, q6⟩
        · obtain ⟨r, w', S', β', v, q1, q2, q3, q4, q5, q6⟩ := opE_ok (P := P) hT he rfl h.st.inv (Sub.refl _) (fun h => h) (opdsS_ok h ho hw hvs)
          exact ⟨r, w', S', β', v, q1, q2, q3, q4.cell, q5, q6⟩
      · simp at hx
    · simp at hx
theorem SInv.step {ops : Array Oper} {i : Nat} {o : Oper} (ho : ops[i]? = some o) (hnd : nodupB (dstsOf ops) = true) (hg : ∀ g, o.guard = some g → g.1 < i) {s s' : AS} {sp : SP} {a : Act} {w w' : World} {S S' F : Nat → Prop} {β β' : Beta} (h : SInv ops i s sp a w S F β) {v : Value}
    (hst : St s' (a.put o.dst v) w' S' F β') (hx : Ext w S F w' S') (hβ : ∀ id l, β id = some l → β' id = some l) (hun : Region.wanted o (yielded ops a.tmps) = false → v = undef) : SInv ops (i + 1) s' sp (a.put o.dst v) w' S' F β' := by
  have hy : ∀ j, j < i → yielded ops (a.put o.dst v).tmps j = yielded ops a.tmps j := by
    intro j hj
    cases hd : o.dst with
    | none => rfl
    | some d =>
      cases hoj : ops[j]? with
      | none => rw [yielded_none hoj, yielded_none hoj]
      | some oj =>
        refine yielded_put hoj (fun e => ?_) a v
        have := nodup_filterMap hnd hoj ho e hd
        omega
  have hwm : ∀ m om, m ≤ i → ops[m]? = some om → (∀ g, om.guard = some g → g.1 < i) → Region.wanted om (yielded ops (a.put o.dst v).tmps) = Region.wanted om (yielded ops a.tmps) := by
    intro m om hm hom hgm
    cases hg : om.guard with
    | none => simp only [Region.wanted, hg]
    | some g => rw [wanted_guard hg, wanted_guard hg, hy g.1 (hgm g hg)]
  have hget : ∀ m om t, m < i → ops[m]? = some om → om.dst = some t → (a.put o.dst v).tmps.getD t undef = a.tmps.getD t undef := by
    intro m om t hm hom hd
    cases hod : o.dst with
    | none => rfl
    | some d =>
      have hne : t ≠ d := fun e => by subst e; have := nodup_filterMap hnd hom ho hd hod; omega
      simp only [Act.put]
      rw [Array.getD_eq_getD_getElem?, Array.getElem?_setIfInBounds_ne (fun h => hne h.symm), ← Array.getD_eq_getD_getElem?]
  refine ⟨hst, fun m om hm hom g hgm => ?_, fun m om t hm hom hd hw => ?_, fun t m c hf => ?_⟩
  · by_cases hmi : m = i
    · subst hmi; rw [ho] at hom; obtain rfl := Option.some.inj hom; exact hg g hgm
    · exact h.guards m om (by omega) hom g hgm
  · by_cases hmi : m = i
    · subst hmi
      rw [ho] at hom; obtain rfl := Option.some.inj hom
      rw [hwm m o (Nat.le_refl _) ho hg] at hw
      rw [hun hw, hd]
      simp only [Act.put]
      rw [Array.getD_eq_getD_getElem?]
      by_cases hl : t < a.tmps.size
      · rw [Array.getElem?_setIfInBounds_self_of_lt hl]; rfl
      · rw [Array.getElem?_eq_none (by simpa using hl)]; rfl
    · have hm' : m < i := by omega
      rw [hget m om t hm' hom hd]
      refine h.und m om t hm' hom hd ?_
      rw [← hwm m om (by omega) hom (fun g hgm => by have := h.guards m om hm' hom g hgm; omega)]; exact hw
  · obtain ⟨hm, om, hom, hd, hr⟩ := h.sp t m c hf
    refine ⟨by omega, om, hom, hd, fun hw => ?_⟩
    rw [hget m om t hm hom hd]
    rw [hwm m om (by omega) hom (fun g hgm => by have := h.guards m om hm hom g hgm; omega)] at hw
    exact (hr hw).mono (fun b hb => hx.keep b (.inl hb)) hx.mono hβ
theorem St.bot {s : AS} {a : Act} {w : World} {S F : Nat → Prop} {β : Beta} (h : St s a w S F β) (d : Nat) (v : Value) : St (s.set d .bot) (a.put (some d) v) w S F β := h.value (some d) (RepV.bot _ _ _ _)
theorem evOpsS_wp {R : Type} {P : Program} {T : Nat → TD} (hT : TOK P T) {CH : CallK R} (hC : CHOK P CH) {ops : Array Oper} (hnd : nodupB (dstsOf ops) = true) : ∀ (n i : Nat), i + n = ops.size → ∀ (s : AS) (sp : SP) (k : AS → Option R) (r : R),
    evOpsS ifK T CH ops i (ops.toList.drop i) s sp k = some r → ∃ s', k s' = some r ∧ ∀ (a : Act) (w : World) (S F : Nat → Prop) (β : Beta) (Q : Exit → Act → World → Prop), SInv ops i s sp a w S F β →
      (∀ a' w' S' β', St s' a' w' S' F β' → Ext w S F w' S' → (∀ id l, β id = some l → β' id = some l) → Q .normal a' w') → wpOps P ops Q (List.range' i n) a w
  | 0, i, hi, s, sp, k, r, h => by
    have hd : ops.toList.drop i = [] := by apply List.drop_eq_nil_of_le; simp; omega
    rw [hd] at h
    simp only [evOpsS] at h
    exact ⟨s, h, fun a w S F β Q hs hQ => hQ a w S β hs.st (Ext.refl _ _ _) (fun _ _ h => h)⟩
  | n + 1, i, hi, s, sp, k, r, h => by
    have hlt : i < ops.size := by omega
    have hd : ops.toList.drop i = ops[i] :: ops.toList.drop (i + 1) := by
      rw [List.drop_eq_getElem_cons (by simpa using hlt)]; simp
    have ho : ops[i]? = some ops[i] := Array.getElem?_eq_getElem hlt
    rw [hd] at h
    generalize ops[i] = o at h ho hd
    -- an unguarded step by its law
    have plain : o.guard = none → (opK ifK T CH o s fun rd e => evOpsS ifK T CH ops (i + 1) (ops.toList.drop (i + 1)) (e.on o.dst s) sp k) = some r →
        ∃ s', k s' = some r ∧ ∀ (a : Act) (w : World) (S F : Nat → Prop) (β : Beta) (Q : Exit → Act → World → Prop), SInv ops i s sp a w S F β →
          (∀ a' w' S' β', St s' a' w' S' F β' → Ext w S F w' S' → (∀ id l, β id = some l → β' id = some l) → Q .normal a' w') → wpOps P ops Q (List.range' i (n + 1)) a w := by
      intro hg h
      obtain ⟨rd, e, h1, h2⟩ := opK_ok hT hC ho h
      obtain ⟨s', h3, h4⟩ := evOpsS_wp hT hC hnd n (i + 1) (by omega) _ _ _ _ h1
      refine ⟨s', h3, fun a w S F β Q hs hQ => ?_⟩
      rw [List.range'_succ, wpOps_cons]
      have hw : Region.wanted o (yielded ops a.tmps) = true := by simp only [Region.wanted, hg]
      simp only [wpOp, ho, hw, if_true]
      refine .inl (h2 s (Agree.refl _ _ _ _) a w S F β hs.st Q _ (fun a' w' S' β' hv hst hx hβ => ?_))
      obtain ⟨v, rfl⟩ := hv
      refine h4 _ w' S' F β' Q (hs.step ho hnd (fun g hg' => by rw [hg] at hg'; simp at hg') hst hx hβ (fun hw' => by rw [hw] at hw'; simp at hw')) (fun a2 w2 S2 β2 hs2 hx2 hb2 => hQ a2 w2 S2 β2 hs2 (hx.trans hx2) (fun id l hl => hb2 _ _ (hβ _ _ hl)))
    simp only [evOpsS] at h
    split at h
    · rename_i j want hg
      split at h
      · rename_i d hdd
        generalize hc : (Nat.blt j i && Nat.blt d s.nt) = g at h
        cases g with
        | false => simp at h
        | true =>
        simp only [cond_true] at h
        simp only [Bool.and_eq_true, Nat.blt_eq] at hc
        obtain ⟨c, hc1, h⟩ := optK_some h
        obtain ⟨s', h3, h4⟩ := evOpsS_wp hT hC hnd n (i + 1) (by omega) _ _ _ _ h
        refine ⟨s', h3, fun a w S F β Q hs hQ => ?_⟩
        rw [List.range'_succ, wpOps_cons]
        have hgd : ∀ g, o.guard = some g → g.1 < i := fun g hg' => by rw [hg] at hg'; cases hg'; exact hc.1
        have ext : ∀ {a' : Act} {w' : World} {S' : Nat → Prop} {β' : Beta} {v : Value}, SInv ops (i + 1) (s.set d .bot) sp (a.put o.dst v) w' S' F β' → Ext w S F w' S' → (∀ id l, β id = some l → β' id = some l) → (Region.wanted o (yielded ops (a.put o.dst v).tmps) = true → RepC w' S' β' c v) → wpOps P ops Q (List.range' (i + 1) n) (a.put o.dst v) w' := by
          intro a' w' S' β' v hs' hx hβ hr
          refine h4 _ w' S' F β' Q ⟨hs'.st, hs'.guards, hs'.und, fun t m c' hf => ?_⟩ (fun a2 w2 S2 β2 hs2 hx2 hb2 => hQ a2 w2 S2 β2 hs2 (hx.trans hx2) (fun id l hl => hb2 _ _ (hβ _ _ hl)))
          simp only [spFind] at hf
          cases hb : Nat.beq t d with
          | true =>
            rw [hb] at hf; simp only [cond_true, Option.some.injEq, Prod.mk.injEq] at hf
            obtain ⟨rfl, rfl⟩ := hf
            have e := Nat.eq_of_beq_eq_true hb
            subst e
            refine ⟨by omega, o, ho, hdd, fun hw => ?_⟩
            have := hr hw
            rw [hdd]
            simp only [Act.put]
            have hl : t < a.tmps.size := by rw [hs.st.nt]; exact hc.2
            rw [Array.getD_eq_getD_getElem?, Array.getElem?_setIfInBounds_self_of_lt hl]; exact this
          | false => rw [hb] at hf; exact hs'.sp t m c' hf
        cases hw : Region.wanted o (yielded ops a.tmps) with
        | false =>
          simp only [wpOp, ho, hw, Bool.false_eq_true, if_false]
          have hs' := hs.step ho hnd hgd (s' := s.set d .bot) (v := undef) (by rw [hdd]; exact hs.st.bot d undef) (Ext.refl _ _ _) (fun _ _ h => h) (fun _ => rfl)
          refine ext (a' := a) hs' (Ext.refl _ _ _) (fun _ _ h => h) (fun hw2 => ?_)
          -- it is still not wanted
          exfalso
          rw [wanted_guard hg] at hw hw2
          rw [hdd] at hw2
          cases hoj : ops[j]? with
          | none => rw [yielded_none hoj] at hw2; simp at hw2
          | some oj =>
            rw [yielded_put hoj (fun e => by have := nodup_filterMap hnd hoj ho e hdd; omega)] at hw2
            rw [hw] at hw2; simp at hw2
        | true =>
          simp only [wpOp, ho, hw, if_true]
          obtain ⟨rr, w', S', β', v, q1, q2, q3, q4, q5, q6⟩ := specOp_ok (P := P) hT hs ho hw hc1
          have hst : St (s.set d .bot) (a.put o.dst v) w' S' F β' := by
            rw [hdd]; exact (hs.st.world q3 q5 q6).bot d v
          have hs' := hs.step ho hnd hgd hst q5 q6 (fun h => by rw [hw] at h; simp at h)
          refine .inl ?_
          simp only [Oper.wp, q1]
          rcases q2 with rfl | ⟨rfl, rfl⟩
          · exact ext (a' := a) hs' q5 q6 (fun _ => q4)
          · exact ext (a' := a) hs' q5 q6 (fun _ => q4)
      · simp at h
    · rename_i hg
      split at h
      · rename_i c x y d hop hdd
        split at h
        · rename_i v hv
          obtain ⟨s', h3, h4⟩ := evOpsS_wp hT hC hnd n (i + 1) (by omega) _ _ _ _ h
          refine ⟨s', h3, fun a w S F β Q hs hQ => ?_⟩
          rw [List.range'_succ, wpOps_cons]
          have hw : Region.wanted o (yielded ops a.tmps) = true := by simp only [Region.wanted, hg]
          simp only [wpOp, ho, hw, if_true]
          obtain ⟨vv, q1, q2⟩ := pickS_ok (P := P) hs ho hw hop hv
          refine .inl ?_
          simp only [Oper.wp, q1]
          have hst : St (s.set d (.c v)) (a.put o.dst vv) w S F β := by rw [hdd]; exact hs.st.value (some d) (.u (.c q2))
          exact h4 _ w S F β Q (hs.step ho hnd (fun g hg' => by rw [hg] at hg'; simp at hg') hst (Ext.refl _ _ _) (fun _ _ h => h) (fun h => by rw [hw] at h; simp at h)) hQ
        · exact plain hg h
      · exact plain hg h
theorem specReg_nodup {T : Nat → TD} {ops : Array Oper} (h : specReg T ops = true) : nodupB (dstsOf ops) = true := by
  simp only [specReg, Bool.and_eq_true] at h; exact h.2
theorem SInv.start {ops : Array Oper} {s : AS} {a : Act} {w : World} {S F : Nat → Prop} {β : Beta} (h : St s a w S F β) : SInv ops 0 s [] a w S F β :=
  ⟨h, fun m o hm => by omega, fun m o t hm => by omega, fun t m c hf => by simp [spFind] at hf⟩
end Go.Tt
