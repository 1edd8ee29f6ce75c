import Derived.Test.YtfiahgfjepaiiaaGreatDoorVA17
set_option linter.unusedVariables false
set_option linter.unusedSimpArgs false
namespace Go.Tt

inductive Steps (P : Program) (ops : Array Oper) : Nat → AS → Trace → AS → Prop
  | nil (s : AS) : Steps P ops ops.size s [] s
  | cons {i : Nat} {o : Oper} {s s' : AS} {rd : List Nat} {e : Eff} {tr : Trace} (ho : ops[i]? = some o) (h : StepOK P ops i o s rd e) (r : Steps P ops (i + 1) (e.on o.dst s) tr s') : Steps P ops i s ((rd, e) :: tr) s'

theorem guard_looks {ops : Array Oper} {o : Oper} {j : Nat} {want : Bool} (hg : o.guard = some (j, want)) {d : Nat} (hd : (ops[j]?).bind (·.dst) = some d) : d ∈ o.looksAt ops := by
  unfold Oper.looksAt
  rw [hg]
  exact List.mem_append_right _ (by simp [hd])
theorem boolAt_some {s : AS} {d : Option Tmp} {x : Bool} (h : boolAt s d = some x) : ∃ t, d = some t ∧ t < s.nt ∧ s.env t = .c (.b x) ∧ AS.dst s d (.c (.b x)) = s := by
  unfold boolAt at h
  split at h
  · rename_i d
    cases hlt : Nat.blt d s.nt with
    | false => rw [hlt] at h; simp at h
    | true =>
      rw [hlt] at h; simp only [cond_true] at h
      split at h
      · rename_i y hy
        cases h
        refine ⟨d, rfl, by rw [Nat.blt_eq] at hlt; exact hlt, hy, ?_⟩
        simp only [AS.dst, AS.set, hlt, cond_true]
        obtain ⟨nt, env, σ, gen⟩ := s
        simp only [AS.mk.injEq, true_and, and_true]
        funext j
        cases hb : Nat.beq j d with
        | true => rw [Nat.eq_of_beq_eq_true hb]; exact hy.symm
        | false => rfl
      · simp at h
  · simp at h
theorem unAt_some {s : AS} {d : Option Tmp} (h : unAt s d = true) : ∃ t, d = some t ∧ t < s.nt ∧ s.env t = .c .un := by
  unfold unAt at h
  split at h
  · rename_i d
    simp only [Bool.and_eq_true] at h
    obtain ⟨h1, h2⟩ := h
    split at h2
    · rename_i hy
      exact ⟨d, rfl, by rw [Nat.blt_eq] at h1; exact h1, hy⟩
    · simp at h2
  · simp at h
theorem wanted_bool {ops : Array Oper} {o : Oper} {j : Nat} {want : Bool} (hg : o.guard = some (j, want)) {s s2 : AS} {rd : List Nat} (ha : Agree ops o rd s s2) {a : Act} {w : World} {S F : Nat → Prop} {β : Beta} (hs : St s2 a w S F β) {x : Bool} (h : boolAt s ((ops[j]?).bind (·.dst)) = some x) :
    Region.wanted o (yielded ops a.tmps) = (bif want then x else !x) := by
  obtain ⟨t, hd, hlt, hx, _⟩ := boolAt_some h
  have hv := hs.env t
  rw [ha.env t (guard_looks hg hd), hx] at hv
  have hb := hv.bool
  have hlt' : t < a.tmps.size := by rw [hs.nt, ha.nt]; exact hlt
  rw [Array.getD_eq_getD_getElem?, Array.getElem?_eq_getElem hlt'] at hb
  simp only [Option.getD_some] at hb
  have hy : yielded ops a.tmps j = some x := by simp only [yielded, hd, Option.bind_some, Array.getElem?_eq_getElem hlt', hb]
  simp only [Region.wanted, hg, hy]
  cases want <;> cases x <;> rfl
theorem wanted_un {ops : Array Oper} {o : Oper} {j : Nat} {want : Bool} (hg : o.guard = some (j, want)) {s s2 : AS} {rd : List Nat} (ha : Agree ops o rd s s2) {a : Act} {w : World} {S F : Nat → Prop} {β : Beta} (hs : St s2 a w S F β) (h : unAt s ((ops[j]?).bind (·.dst)) = true) :
    Region.wanted o (yielded ops a.tmps) = false := by
  obtain ⟨t, hd, hlt, hx⟩ := unAt_some h
  have hv := hs.env t
  rw [ha.env t (guard_looks hg hd), hx] at hv
  have hb := hv.cell
  have hlt' : t < a.tmps.size := by rw [hs.nt, ha.nt]; exact hlt
  rw [Array.getD_eq_getD_getElem?, Array.getElem?_eq_getElem hlt'] at hb
  simp only [Option.getD_some] at hb
  generalize hvv : a.tmps[t] = v at hb
  cases hb
  have hy : yielded ops a.tmps j = none := by simp only [yielded, hd, Option.bind_some, Array.getElem?_eq_getElem hlt', hvv, undef]
  simp only [Region.wanted, hg, hy]
  rfl
/-- A step that is not wanted. -/
theorem skip_step {P : Program} {ops : Array Oper} {i : Nat} {o : Oper} (ho : ops[i]? = some o) {s : AS} (hw : ∀ s2, Agree ops o [] s s2 → ∀ (a : Act) (w : World) (S F : Nat → Prop) (β : Beta), St s2 a w S F β → Region.wanted o (yielded ops a.tmps) = false) : StepOK P ops i o s [] (.val .un) := by
  intro s2 ha a w S F β hs Q K hK
  simp only [wpOp, ho, hw s2 ha a w S F β hs, Bool.false_eq_true, if_false]
  exact hK _ _ S β (Eff.on_st hs o.dst (e := .val .un) hs.inv (Ext.refl _ _ _) (fun _ _ h => h) (.u (.c .un))) (Ext.refl _ _ _) (fun _ _ h => h)
theorem boolK_some {R : Type} {x : Option Bool} {y z : Option R} {r : R} (h : boolK ifK x y z = some r) : ∃ g, x = some g ∧ (bif g then y else z) = some r := by
  cases x with
  | none => simp [boolK] at h
  | some a => cases a <;> exact ⟨_, rfl, h⟩
theorem optK_some {R α : Type} {x : Option α} {k : α → Option R} {r : R} (h : optK x k = some r) : ∃ a, x = some a ∧ k a = some r := by
  cases x with
  | none => simp [optK] at h
  | some a => exact ⟨a, rfl, h⟩
theorem evOpsK_steps {R : Type} {P : Program} {T : Nat → TD} (hT : TOK P T) {CH : CallK R} (hC : CHOK P CH) {ops : Array Oper} : ∀ (n i : Nat), i + n = ops.size → ∀ (s : AS) (acc : Trace) (k : AS → Trace → Option R) (r : R),
    evOpsK ifK T CH ops (ops.toList.drop i) s acc k = some r → ∃ tr s', Steps P ops i s tr s' ∧ k s' (acc.reverse ++ tr) = some r
  | 0, i, hi, s, acc, k, r, h => by
    have hd : ops.toList.drop i = [] := by apply List.drop_eq_nil_of_le; simp; omega
    rw [hd] at h
    simp only [evOpsK] at h
    have : i = ops.size := by omega
    subst this
    exact ⟨[], s, .nil s, by simpa using h⟩
  | n + 1, i, hi, s, acc, k, r, h => by
    have hlt : i < ops.size := by omega
    have hd : ops.toList.drop i = ops[i] :: ops.toList.drop (i + 1) := by
      rw [List.drop_eq_getElem_cons (by simpa using hlt)]; simp
    have ho : ops[i]? = some ops[i] := Array.getElem?_eq_getElem hlt
    rw [hd] at h
    have go : ∀ (s1 : AS) (rd : List Nat) (e : Eff), StepOK P ops i ops[i] s1 rd e → evOpsK ifK T CH ops (ops.toList.drop (i + 1)) (e.on ops[i].dst s1) ((rd, e) :: acc) k = some r → ∃ tr s', Steps P ops i s1 tr s' ∧ k s' (acc.reverse ++ tr) = some r := by
      intro s1 rd e hst h
      obtain ⟨tr, s', h1, h2⟩ := evOpsK_steps hT hC n (i + 1) (by omega) _ _ _ _ h
      exact ⟨(rd, e) :: tr, s', .cons ho hst h1, by simpa using h2⟩
    simp only [evOpsK] at h
    split at h
    · rename_i hg
      have plain : (opK ifK T CH ops[i] s fun rd e => evOpsK ifK T CH ops (ops.toList.drop (i + 1)) (e.on ops[i].dst s) ((rd, e) :: acc) k) = some r → ∃ tr s', Steps P ops i s tr s' ∧ k s' (acc.reverse ++ tr) = some r := by
       intro h
       obtain ⟨rd, e, h1, h2⟩ := opK_ok hT hC ho h
       refine go s rd e (fun s2 ha a w S F β hs Q K hK => ?_) h1
       have hw : Region.wanted ops[i] (yielded ops a.tmps) = true := by simp only [Region.wanted, hg]
       simp only [wpOp, ho, hw, if_true]
       exact .inl (h2 s2 ha a w S F β hs Q K (fun a' w' S' β' _ p q r => hK a' w' S' β' p q r))
      split at h
      · rename_i g rd hrest hcut
        rw [hrest] at go
        cases g with
        | false => simp [ifK] at h
        | true => exact go s rd (.val .bot) (cut_step hT ho hg hcut) (by simpa [ifK, hrest] using h)
      · exact plain h
    · rename_i j want hg
      cases hu : unAt s ((ops[j]?).bind (·.dst)) with
      | true =>
        rw [hu] at h
        simp only [cond_true] at h
        exact go s [] (.val .un) (skip_step ho (fun s2 ha a w S F β hs => wanted_un hg ha hs hu)) h
      | false =>
        rw [hu] at h
        simp only [cond_false] at h
        have yes : ∀ x, boolAt s ((ops[j]?).bind (·.dst)) = some x → (bif want then x else !x) = true → opK ifK T CH ops[i] (AS.dst s ((ops[j]?).bind (·.dst)) (.c (.b x))) (fun rd e => evOpsK ifK T CH ops (ops.toList.drop (i + 1)) (e.on ops[i].dst (AS.dst s ((ops[j]?).bind (·.dst)) (.c (.b x)))) ((rd, e) :: acc) k) = some r →
            ∃ tr s', Steps P ops i s tr s' ∧ k s' (acc.reverse ++ tr) = some r := by
          intro x hx hw h
          rw [(boolAt_some hx).choose_spec.2.2.2] at h
          obtain ⟨rd, e, h1, h2⟩ := opK_ok hT hC ho h
          refine go s rd e (fun s2 ha a w S F β hs Q K hK => ?_) h1
          simp only [wpOp, ho, (wanted_bool hg ha hs hx).trans hw, if_true]
          exact .inl (h2 s2 ha a w S F β hs Q K (fun a' w' S' β' _ p q r => hK a' w' S' β' p q r))
        have no : ∀ x, boolAt s ((ops[j]?).bind (·.dst)) = some x → (bif want then x else !x) = false → evOpsK ifK T CH ops (ops.toList.drop (i + 1)) ((Eff.val .un).on ops[i].dst (AS.dst s ((ops[j]?).bind (·.dst)) (.c (.b x)))) (([], .val .un) :: acc) k = some r →
            ∃ tr s', Steps P ops i s tr s' ∧ k s' (acc.reverse ++ tr) = some r := by
          intro x hx hw h
          rw [(boolAt_some hx).choose_spec.2.2.2] at h
          exact go s [] (.val .un) (skip_step ho (fun s2 ha a w S F β hs => (wanted_bool hg ha hs hx).trans hw)) h
        cases want with
        | true =>
          simp only [cond_true] at h
          obtain ⟨x, hx, h⟩ := boolK_some h
          cases x with
          | true => exact yes true hx rfl (by simpa using h)
          | false => exact no false hx rfl (by simpa using h)
        | false =>
          simp only [cond_false] at h
          obtain ⟨x, hx, h⟩ := boolK_some h
          cases x with
          | true => exact no true hx rfl (by simpa using h)
          | false => exact yes false hx rfl (by simpa using h)
/-- Steps in their order. -/
theorem steps_wp {P : Program} {ops : Array Oper} {F : Nat → Prop} {Q : Exit → Act → World → Prop} {i : Nat} {s s' : AS} {tr : Trace} (h : Steps P ops i s tr s') : ∀ (n : Nat), i + n = ops.size → ∀ (a : Act) (w : World) (S : Nat → Prop) (β : Beta), St s a w S F β →
    (∀ a' w' S' β', St s' a' w' S' F β' → Ext w S F w' S' → (∀ id l, β id = some l → β' id = some l) → Q .normal a' w') → wpOps P ops Q (List.range' i n) a w := by
  induction h with
  | nil s =>
    intro n hn a w S β hs hQ
    have : n = 0 := by omega
    subst this
    exact hQ a w S β hs (Ext.refl _ _ _) (fun _ _ h => h)
  | cons ho hst r ih =>
    rename_i i o s s' rd e tr
    intro n hn a w S β hs hQ
    have hlt : i < ops.size := (Array.getElem?_eq_some_iff.1 ho).1
    obtain ⟨n, rfl⟩ : ∃ m, n = m + 1 := ⟨n - 1, by omega⟩
    rw [List.range'_succ, wpOps_cons]
    refine hst s (Agree.refl _ _ _ _) a w S F β hs Q _ (fun a' w' S' β' hs' hx hβ => ?_)
    exact ih n (by omega) a' w' S' β' hs' (fun a2 w2 S2 β2 hs2 hx2 hβ2 => hQ a2 w2 S2 β2 hs2 (hx.trans hx2) (fun id l hl => hβ2 _ _ (hβ _ _ hl)))
end Go.Tt
