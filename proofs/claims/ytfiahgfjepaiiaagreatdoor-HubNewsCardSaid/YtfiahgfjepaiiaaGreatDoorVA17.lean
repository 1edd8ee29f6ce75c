import Derived.Test.YtfiahgfjepaiiaaGreatDoorVA16
import Derived.Orders
set_option linter.unusedVariables false
set_option linter.unusedSimpArgs false
namespace Go.Tt

/-- As far as an operation looks, the same state. -/
structure Agree (ops : Array Oper) (o : Oper) (rd : List Nat) (s s2 : AS) : Prop where
  gen : s2.gen = s.gen
  nt : s2.nt = s.nt
  env : ∀ t ∈ o.looksAt ops, s2.env t = s.env t
  σ : ∀ id ∈ rd, s2.σ id = s.σ id
theorem Agree.refl (ops : Array Oper) (o : Oper) (rd : List Nat) (s : AS) : Agree ops o rd s s := ⟨rfl, rfl, fun _ _ => rfl, fun _ _ => rfl⟩

/-- One step, told by its effect, wherever it is taken. -/
def StepOK (P : Program) (ops : Array Oper) (i : Nat) (o : Oper) (s : AS) (rd : List Nat) (e : Eff) : Prop :=
  ∀ s2, Agree ops o rd s s2 → ∀ (a : Act) (w : World) (S F : Nat → Prop) (β : Beta), St s2 a w S F β → ∀ (Q : Exit → Act → World → Prop) (K : Act → World → Prop),
    (∀ a' w' S' β', St (e.on o.dst s2) a' w' S' F β' → Ext w S F w' S' → (∀ id l, β id = some l → β' id = some l) → K a' w') → wpOp P ops Q i K a w

theorem Eff.on_st {s : AS} {a : Act} {w w' : World} {S S' F : Nat → Prop} {β β' : Beta} (hs : St s a w S F β) {e : Eff} (d : Option Tmp) {v : Value} (hi : Inv w' S' F β' (puts s.σ e.w)) (hx : Ext w S F w' S') (hβ : ∀ id l, β id = some l → β' id = some l) (hv : RepV w' S' β' e.v v) : St (e.on d s) (a.put d v) w' S' F β' :=
  (hs.world hi hx hβ).value d hv
theorem opds_congr {s s2 : AS} : ∀ {xs : List Operand}, (∀ t, Operand.tmp t ∈ xs → s2.env t = s.env t) → opds s2 xs = opds s xs
  | [], _ => rfl
  | x :: xs, h => by
    have e1 : s2.opd x = s.opd x := by
      cases x with
      | tmp t => simp [AS.opd, h t (by simp)]
      | _ => rfl
    simp only [opds, e1, opds_congr (fun t ht => h t (List.mem_cons_of_mem _ ht))]
theorem mem_iff {x : Nat} : ∀ {l : List Nat}, mem x l = true ↔ x ∈ l
  | [] => by simp [mem]
  | y :: r => by
    simp only [mem, Bool.or_eq_true, List.mem_cons, mem_iff]
    constructor
    · rintro (h | h); exact .inl (Nat.eq_of_beq_eq_true h); exact .inr h
    · rintro (rfl | h); exact .inl (Nat.beq_refl _); exact .inr h
theorem restr_congr {σ σ2 : Store} {ids : List Nat} (h : ∀ id ∈ ids, σ2 id = σ id) : restr σ2 ids = restr σ ids := by
  funext j
  simp only [restr]
  cases hm : mem j ids with
  | false => rfl
  | true => simp only [cond_true]; exact h j (mem_iff.1 hm)
theorem tmp_looks {ops : Array Oper} {o : Oper} {t : Nat} (h : Operand.tmp t ∈ o.op.operands.toList) : t ∈ o.looksAt ops := by
  unfold Oper.looksAt
  exact List.mem_append_left _ (List.mem_filterMap.2 ⟨_, h, rfl⟩)
theorem effG_congr {T : Nat → TD} {ops : Array Oper} {o : Oper} {s s2 : AS} {e : Eff} {rd : List Nat} (h : effG T o s = some (e, rd)) (ha : Agree ops o rd s s2) : effG T o s2 = some (e, rd) := by
  unfold effG at h ⊢
  have e1 : opds s2 o.op.operands.toList = opds s o.op.operands.toList := opds_congr fun t ht => ha.env t (tmp_looks ht)
  have e2 : nid s2 (o.dst.getD 0) = nid s (o.dst.getD 0) := by simp [nid, ha.gen]
  rw [e1, e2]
  split at h
  · simp at h
  · rename_i vs hvs
    split at h
    · rename_i e' he
      cases h
      rw [restr_congr ha.σ, he]
    · simp at h
theorem effG_did {P : Program} {T : Nat → TD} (hT : TOK P T) {o : Oper} {s : AS} {e : Eff} {rd : List Nat} (h : effG T o s = some (e, rd)) (hg : e.g = true) {a : Act} {w : World} {S F : Nat → Prop} {β : Beta} (hs : St s a w S F β) : Did P o e s.σ a w S F β := by
  unfold effG at h
  split at h
  · simp at h
  · rename_i vs hvs
    split at h
    · rename_i e' he
      cases h
      refine opE_ok hT he hg hs.inv (Sub.restr _ _) (fun h0 => ?_) (opds_ok hs hvs)
      simp only [restr, readsG, mem, Nat.beq_refl, Bool.true_or, cond_true] at h0
      exact h0
    · simp at h
/-- An operation that is no call. -/
theorem eff_step {P : Program} {T : Nat → TD} (hT : TOK P T) {ops : Array Oper} {i : Nat} {o : Oper} (ho : ops[i]? = some o) {s : AS} {e : Eff} {rd : List Nat} (h : effG T o s = some (e, rd)) (hg : e.g = true) {a : Act} {w : World} {S F : Nat → Prop} {β : Beta} {s2 : AS} (ha : Agree ops o rd s s2) (hs : St s2 a w S F β)
    {Q : Exit → Act → World → Prop} {K : Act → World → Prop} (hK : ∀ a' w' S' β', (∃ v, a' = a.put o.dst v) → St (e.on o.dst s2) a' w' S' F β' → Ext w S F w' S' → (∀ id l, β id = some l → β' id = some l) → K a' w') : o.wp P a w K Q := by
  obtain ⟨r, w', S', β', v, hrun, hr, hi, hv, hx, hβ⟩ := effG_did (P := P) hT (effG_congr h ha) hg hs
  simp only [Oper.wp, hrun]
  have hst := Eff.on_st hs o.dst hi hx hβ hv
  rcases hr with rfl | ⟨rfl, rfl⟩
  · exact hK _ _ _ _ ⟨_, rfl⟩ hst hx hβ
  · exact hK _ _ _ _ ⟨_, rfl⟩ hst hx hβ

/-! ### Calls -/
def EntersOK (P : Program) (f : FuncId) : Prop := ∀ (args : Array Value) (w : World), (callFunc f args).run P w = .ok (.enter f args) w
/-- What a call answers: the whole of what callers ask. -/
def CallIn (P : Program) (f : FuncId) (args : List V) (σ : Store) (v : V) (ws : List (Nat × AObj)) (rd : List Nat) : Prop :=
  EntersOK P f ∧ ∀ σ2, (∀ id ∈ rd, σ2 id = σ id) → ∀ (w : World) (S F : Nat → Prop) (β : Beta) (vals : List Value), Inv w S F β σ2 → All2 (RepV w S β) args vals →
    Calls P f vals.toArray w fun e w' => ∃ x S' β', e = .returned x ∧ Inv w' S' F β' (puts σ2 ws) ∧ Ext w S F w' S' ∧ (∀ id l, β id = some l → β' id = some l) ∧ RepV w' S' β' v x
/-- A function without a text: its value at once. -/
def Native (P : Program) (f : FuncId) (args : List V) (v : V) : Prop := ∀ (w : World) (S : Nat → Prop) (β : Beta) (vals : List Value), All2 (RepV w S β) args vals → ∃ x, (callFunc f vals.toArray).run P w = .ok (.value x) w ∧ RepV w S β v x
def CallEff (P : Program) (f : FuncId) (args : List V) (σ : Store) (v : V) (ws : List (Nat × AObj)) (rd : List Nat) : Prop := CallIn P f args σ v ws rd ∨ (ws = [] ∧ Native P f args v)
def CHOK {R : Type} (P : Program) (CH : CallK R) : Prop := ∀ f n args σ k r, CH f n args σ k = some r → ∃ v ws rd, CallEff P f args σ v ws rd ∧ k v ws rd = some r

theorem ptrs_rep {w : World} {S : Nat → Prop} {β : Beta} : ∀ {xs : List (Nat × Nat)} {vs : List Value}, xs.map (ptrV β) = vs.map some → All2 (RepV w S β) (xs.map pv) vs
  | [], [], _ => .nil
  | [], _ :: _, h => by simp at h
  | _ :: _, [], h => by simp at h
  | x :: xs, v :: vs, h => by
    simp only [List.map_cons, List.cons.injEq] at h
    refine .cons ?_ (ptrs_rep h.2)
    have h1 := h.1
    unfold ptrV at h1
    simp only [Option.bind_eq_some_iff, Option.map_eq_some_iff] at h1
    obtain ⟨l, hl, b, hb, rfl⟩ := h1
    exact .u (.c (.p _ _ l b hl hb))
theorem selC_congr {ops : Array Oper} {o : Oper} {c : Call} (ho : o.op = .call c) {s s2 : AS} {rd : List Nat} (ha : Agree ops o rd s s2) : selC c s2 = selC c s := by
  have hops : ∀ t, Operand.tmp t ∈ (Call.operands c).toList → s2.env t = s.env t := fun t ht => ha.env t (tmp_looks (by rw [ho]; exact ht))
  unfold selC
  cases hc : c.callee with
  | value f =>
    have e1 : s2.opd f = s.opd f := by
      cases f with
      | tmp t => simp [AS.opd]; exact hops t (by simp [Call.operands, hc])
      | _ => rfl
    have e2 : opds s2 c.args.toList = opds s c.args.toList := opds_congr fun t ht => hops t (by simp [Call.operands, hc, ht])
    simp only [e1, e2]
  | _ => rfl
theorem call_step {P : Program} {ops : Array Oper} {i : Nat} {o : Oper} (ho' : ops[i]? = some o) {c : Call} (ho : o.op = .call c) {s : AS} {g : FuncId} {args : List V} (hsel : selC c s = some (g, args)) {v : V} {ws : List (Nat × AObj)} {rd : List Nat} (hc : CallEff P g args s.σ v ws rd)
    {a : Act} {w : World} {S F : Nat → Prop} {β : Beta} {s2 : AS} (ha : Agree ops o rd s s2) (hs : St s2 a w S F β)
    {Q : Exit → Act → World → Prop} {K : Act → World → Prop} (hK : ∀ a' w' S' β', (∃ v, a' = a.put o.dst v) → St ((⟨true, v, ws⟩ : Eff).on o.dst s2) a' w' S' F β' → Ext w S F w' S' → (∀ id l, β id = some l → β' id = some l) → K a' w') : o.wp P a w K Q := by
  rw [← selC_congr ho ha] at hsel
  unfold selC at hsel
  split at hsel
  · rename_i f hcal
    split at hsel
    · rename_i g' first caps vs hf hvs
      simp only [Option.some.injEq, Prod.mk.injEq] at hsel
      obtain ⟨rfl, rfl⟩ := hsel
      have hfv := (hs.opd hf).cell
      generalize hfe : a.eval f = fv at hfv
      cases hfv with
      | fn _ _ _ vf vc h1 h2 =>
        have hx := opds_ok hs hvs
        have hargs := ((ptrs_rep (w := w) (S := S) h1).append hx).append (ptrs_rep (w := w) (S := S) h2)
        have e : (vf.toArray ++ c.args.map a.eval ++ vc.toArray) = (vf ++ c.args.toList.map a.eval ++ vc).toArray := by
          apply Array.toList_inj.1; simp
        have hx0 : (execOp a.eval o).run P w = (callFunc g' (vf ++ c.args.toList.map a.eval ++ vc).toArray).run P w := by
          simp [execOp, ho, resolve, hcal, hfe, Deferred.ofValue, invoke, e]
        rcases hc with ⟨he, hcall⟩ | ⟨rfl, hnat⟩
        · have hC := hcall s2.σ ha.σ w S F β _ hs.inv hargs
          simp only [Oper.wp, hx0, he _ _, Oper.upon_enter]
          refine hC.mono ?_
          rintro e w' ⟨x, S', β', rfl, hi, hxt, hβ, hr⟩
          exact hK _ _ _ _ ⟨_, rfl⟩ (Eff.on_st hs o.dst (e := ⟨true, v, ws⟩) hi hxt hβ hr) hxt hβ
        · obtain ⟨x, hr, hv⟩ := hnat w S β _ hargs
          simp only [Oper.wp, hx0, hr]
          exact hK _ _ _ _ ⟨_, rfl⟩ (Eff.on_st hs o.dst (e := ⟨true, v, []⟩) hs.inv (Ext.refl _ _ _) (fun _ _ h => h) hv) (Ext.refl _ _ _) (fun _ _ h => h)
    · simp at hsel
  · simp at hsel
theorem opK_ok {R : Type} {P : Program} {T : Nat → TD} (hT : TOK P T) {CH : CallK R} (hC : CHOK P CH) {ops : Array Oper} {i : Nat} {o : Oper} (ho : ops[i]? = some o) {s : AS} {k : List Nat → Eff → Option R} {r : R} (h : opK ifK T CH o s k = some r) :
    ∃ rd e, k rd e = some r ∧ ∀ s2, Agree ops o rd s s2 → ∀ (a : Act) (w : World) (S F : Nat → Prop) (β : Beta), St s2 a w S F β → ∀ (Q : Exit → Act → World → Prop) (K : Act → World → Prop),
      (∀ a' w' S' β', (∃ v, a' = a.put o.dst v) → St (e.on o.dst s2) a' w' S' F β' → Ext w S F w' S' → (∀ id l, β id = some l → β' id = some l) → K a' w') → o.wp P a w K Q := by
  have base : (optK (effG T o s) fun r => ifK r.1.g (k r.2 r.1) none) = some r → ∃ rd e, k rd e = some r ∧ ∀ s2, Agree ops o rd s s2 → ∀ (a : Act) (w : World) (S F : Nat → Prop) (β : Beta), St s2 a w S F β → ∀ (Q : Exit → Act → World → Prop) (K : Act → World → Prop),
      (∀ a' w' S' β', (∃ v, a' = a.put o.dst v) → St (e.on o.dst s2) a' w' S' F β' → Ext w S F w' S' → (∀ id l, β id = some l → β' id = some l) → K a' w') → o.wp P a w K Q := by
    intro h
    cases he : effG T o s with
    | none => rw [he] at h; simp [optK] at h
    | some x =>
      obtain ⟨e, rd⟩ := x
      rw [he] at h
      simp only [optK] at h
      cases hg : e.g with
      | false => rw [hg] at h; simp [ifK] at h
      | true =>
        rw [hg] at h
        exact ⟨rd, e, h, fun s2 ha a w S F β hs Q K hK => eff_step hT ho he hg ha hs hK⟩
  unfold opK at h
  split at h
  · rename_i c hc
    split at h
    · split at h
      · rename_i d hd
        cases hsel : selC c s with
        | none => rw [hsel] at h; simp [optK] at h
        | some x =>
          obtain ⟨g, args⟩ := x
          rw [hsel] at h
          simp only [optK] at h
          obtain ⟨v, ws, rd, hce, hk⟩ := hC _ _ _ _ _ _ h
          exact ⟨rd, ⟨true, v, ws⟩, hk, fun s2 ha a w S F β hs Q K hK => call_step ho hc hsel hce ha hs hK⟩
      · simp at h
    · exact base h
  · exact base h
theorem cut_step {P : Program} {T : Nat → TD} (hT : TOK P T) {ops : Array Oper} {i : Nat} {o : Oper} (ho : ops[i]? = some o) (hgd : o.guard = none) {s : AS} {rd : List Nat} (h : cutK T o s = some (true, rd)) : StepOK P ops i o s rd (.val .bot) := by
  intro s2 ha a w S F β hs Q K hK
  have hw : Region.wanted o (yielded ops a.tmps) = true := by simp only [Region.wanted, hgd]
  simp only [wpOp, ho, hw, if_true]
  unfold cutK at h
  split at h
  · rename_i t x lo hi' hop
    have hmem : ∀ t, Operand.tmp t ∈ o.op.operands.toList → s2.env t = s.env t := fun t ht => ha.env t (tmp_looks ht)
    rw [hop] at hmem
    split at h
    · rename_i τ0 id vs hx hvs
      split at h
      · rename_i τ xs hσ
        cases hd : isSl τ (T t) with
        | false => rw [hd] at h; simp at h
        | true =>
          rw [hd] at h
          simp only [cond_true, Option.map_eq_some_iff, Prod.mk.injEq] at h
          obtain ⟨r, hr, hg, rfl⟩ := h
          have hx2 : s2.opd x = some (.u (.c (.row τ0 id))) := by
            rw [← hx]
            cases x with
            | tmp u => simp only [AS.opd, hmem u (by simp [Op.operands])]
            | _ => rfl
          have hv2 : opds s2 (lo.toList ++ hi'.toList) = some vs := by
            rw [← hvs]
            exact opds_congr fun u hu => hmem u (by
              simp only [Op.operands, Array.toList_append, List.mem_append]
              rcases List.mem_append.1 hu with h | h
              · exact .inl (.inl (.inr (by simpa using h)))
              · exact .inl (.inr (by simpa using h)))
          have hrow := (hs.opd hx2).cell
          have hvs2 := opds_ok hs hv2
          generalize hxe : a.eval x = vx at hrow
          cases hrow with
          | row _ _ l hl =>
            obtain ⟨l', hl', hr'⟩ := hs.inv.obj id _ (by rw [ha.σ id (by simp)]; exact hσ)
            rw [hl] at hl'; obtain rfl := Option.some.inj hl'
            obtain ⟨news, _, e2, e3, _⟩ := row_readL hr'
            have hmap : (lo.toList ++ hi'.toList).map a.eval = (lo.map a.eval).toList ++ (hi'.map a.eval).toList := by cases lo <;> cases hi' <;> rfl
            rw [hmap] at hvs2
            have hr2 : bounds (llen xs) (lo.map a.eval).isSome (hi'.map a.eval).isSome vs = some r := by rw [Option.isSome_map, Option.isSome_map]; exact hr
            obtain ⟨b1, b2⟩ := bounds_ok hr2 hvs2
            have ht := isSl_eq hd
            have c := hT t
            rw [ht] at c
            obtain ⟨i', e, j, v, h1', h2', h3', h4', h5', h6', h7', h8', h9'⟩ := chk_slice c
            have hrun := run_slice_s (P := P) (w := w) (A := l.A) (len := l.n) (cap := l.cap) (lo := lo.map a.eval) (hi := hi'.map a.eval) (l := r.1) (h := r.2) h2' h6' b1 (by rw [e2, ← llen_eq]; exact b2) (by rw [e2, ← llen_eq]; exact hg) (by rw [e2]; exact e3)
            refine .inl ?_
            have hex : (execOp a.eval o).run P w = .ok (.value (.slice (if l.cap = r.1.toNat then l.A else l.A.map (·.add (r.1.toNat * j.size))) (r.2.toNat - r.1.toNat) (l.cap - r.1.toNat))) w := by
              simp [execOp, hop, hxe, hrun]
            simp only [Oper.wp, hex]
            exact hK _ _ S β (Eff.on_st hs o.dst (e := .val .bot) hs.inv (Ext.refl _ _ _) (fun _ _ h => h) (RepV.bot _ _ _ _)) (Ext.refl _ _ _) (fun _ _ h => h)
      · simp at h
    · simp at h
  · simp at h
end Go.Tt
