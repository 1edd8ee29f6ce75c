import Derived.Test.YtfiahgfjepaiiaaGreatDoorVA18
set_option linter.unusedVariables false
set_option linter.unusedSimpArgs false
namespace Go.Tt

/-! ### What effects come to -/
theorem puts_out {j : Nat} : ∀ {w : List (Nat × AObj)} {σ : Store}, j ∉ w.map (·.1) → puts σ w j = σ j
  | [], σ, h => rfl
  | (id, o) :: r, σ, h => by
    simp only [List.map_cons, List.mem_cons, not_or] at h
    simp only [puts]
    rw [puts_out h.2, sput_other _ _ _ _ h.1]
theorem puts_in {j : Nat} : ∀ {w : List (Nat × AObj)} {σ σ' : Store}, j ∈ w.map (·.1) → puts σ w j = puts σ' w j
  | [], σ, σ', h => by simp at h
  | (id, o) :: r, σ, σ', h => by
    simp only [puts]
    by_cases h2 : j ∈ r.map (·.1)
    · exact puts_in h2
    · rw [puts_out h2, puts_out h2]
      simp only [List.map_cons, List.mem_cons] at h
      rcases h with rfl | h
      · rw [sput_same, sput_same]
      · exact (h2 h).elim
theorem puts_comm {w1 w2 : List (Nat × AObj)} (h : ∀ x ∈ w1.map (·.1), x ∉ w2.map (·.1)) (σ : Store) : puts (puts σ w1) w2 = puts (puts σ w2) w1 := by
  funext j
  by_cases h2 : j ∈ w2.map (·.1)
  · have h1 : j ∉ w1.map (·.1) := fun h1 => h j h1 h2
    rw [puts_out (σ := puts σ w2) h1]; exact puts_in h2
  · rw [puts_out h2]
    by_cases h1 : j ∈ w1.map (·.1)
    · exact puts_in h1
    · rw [puts_out h1, puts_out h1, puts_out h2]
theorem on_nt (e : Eff) (d : Option Tmp) (s : AS) : (e.on d s).nt = s.nt := by
  cases d with
  | none => rfl
  | some d => simp only [Eff.on, AS.dst, AS.set, AS.puts]; cases Nat.blt d s.nt <;> rfl
theorem on_gen (e : Eff) (d : Option Tmp) (s : AS) : (e.on d s).gen = s.gen := by
  cases d with
  | none => rfl
  | some d => simp only [Eff.on, AS.dst, AS.set, AS.puts]; cases Nat.blt d s.nt <;> rfl
theorem on_σ (e : Eff) (d : Option Tmp) (s : AS) : (e.on d s).σ = puts s.σ e.w := by
  cases d with
  | none => rfl
  | some d => simp only [Eff.on, AS.dst, AS.set, AS.puts]; cases Nat.blt d s.nt <;> rfl
def envOn (v : V) (nt : Nat) : Option Tmp → (Nat → V) → Nat → V
  | none, env, t => env t
  | some d, env, t => bif Nat.blt d nt && Nat.beq t d then v else env t
theorem on_env (e : Eff) (d : Option Tmp) (s : AS) (t : Nat) : (e.on d s).env t = envOn e.v s.nt d s.env t := by
  cases d with
  | none => rfl
  | some d =>
    simp only [Eff.on, AS.dst, AS.set, AS.puts, envOn]
    cases Nat.blt d s.nt with
    | false => rfl
    | true => simp only [cond_true, Bool.true_and]
theorem envOn_other {v : V} {nt : Nat} {d : Option Tmp} {env : Nat → V} {t : Nat} (h : ∀ x, d = some x → x ≠ t) : envOn v nt d env t = env t := by
  cases d with
  | none => rfl
  | some d => simp only [envOn, beq_false_of_ne (fun e : t = d => h d rfl e.symm), Bool.and_false, cond_false]
theorem AS.ext' {s s2 : AS} (h1 : s.nt = s2.nt) (h2 : ∀ t, s.env t = s2.env t) (h3 : s.σ = s2.σ) (h4 : s.gen = s2.gen) : s = s2 := by
  obtain ⟨a, b, c, d⟩ := s
  obtain ⟨a', b', c', d'⟩ := s2
  simp only at h1 h2 h3 h4
  rw [h1, h3, h4, funext h2]
theorem on_comm {e1 e2 : Eff} {d1 d2 : Option Tmp} (hd : ∀ x, d1 = some x → d2 ≠ some x) (hw : ∀ x ∈ e1.w.map (·.1), x ∉ e2.w.map (·.1)) (s : AS) : e1.on d1 (e2.on d2 s) = e2.on d2 (e1.on d1 s) := by
  refine AS.ext' (by simp [on_nt]) (fun t => ?_) (by simp [on_σ]; exact (puts_comm hw s.σ).symm) (by simp [on_gen])
  cases d1 with
  | none => cases d2 <;> simp only [envOn, on_env, on_nt]
  | some a =>
    cases d2 with
    | none => simp only [envOn, on_env, on_nt]
    | some b =>
      have hne : a ≠ b := fun e => hd a rfl (by rw [e])
      simp only [envOn, on_env, on_nt]
      cases h1 : Nat.beq t a with
      | true =>
        have := Nat.eq_of_beq_eq_true h1
        subst this
        rw [beq_false_of_ne hne]
        simp
      | false => simp

/-! ### The operations that are done, in their order -/
def stD (ops : Array Oper) (tr : Trace) (D : Nat → Bool) : Nat → AS → AS
  | 0, s => s
  | k + 1, s => match ops[k]?, tr[k]? with
    | some o, some p => bif D k then p.2.on o.dst (stD ops tr D k s) else stD ops tr D k s
    | _, _ => stD ops tr D k s
section
variable {ops : Array Oper} {tr : Trace}
theorem stD_nt (D : Nat → Bool) (s : AS) : ∀ k, (stD ops tr D k s).nt = s.nt
  | 0 => rfl
  | k + 1 => by
    simp only [stD]
    split
    · cases D k
      · exact stD_nt D s k
      · simp only [cond_true, on_nt]; exact stD_nt D s k
    · exact stD_nt D s k
theorem stD_gen (D : Nat → Bool) (s : AS) : ∀ k, (stD ops tr D k s).gen = s.gen
  | 0 => rfl
  | k + 1 => by
    simp only [stD]
    split
    · cases D k
      · exact stD_gen D s k
      · simp only [cond_true, on_gen]; exact stD_gen D s k
    · exact stD_gen D s k
theorem stD_congr {D D' : Nat → Bool} (s : AS) : ∀ k, (∀ j, j < k → D j = D' j) → stD ops tr D k s = stD ops tr D' k s
  | 0, _ => rfl
  | k + 1, h => by simp only [stD, h k (by omega), stD_congr s k (fun j hj => h j (by omega))]
/-- A slot that only they write whose being done is alike. -/
theorem stD_env {D D' : Nat → Bool} (s : AS) {t : Nat} : ∀ k, (∀ j o p, j < k → ops[j]? = some o → tr[j]? = some p → D j ≠ D' j → o.dst ≠ some t) → (stD ops tr D k s).env t = (stD ops tr D' k s).env t
  | 0, _ => rfl
  | k + 1, h => by
    have ih := stD_env (D := D) (D' := D') s (t := t) k (fun j o p hj => h j o p (by omega))
    simp only [stD]
    split
    · rename_i o p ho hp
      have hne := h k o p (by omega) ho hp
      cases h1 : D k <;> cases h2 : D' k <;> simp only [cond_true, cond_false]
      · exact ih
      · rw [on_env, envOn_other (fun x hx e => hne (by rw [h1, h2]; simp) (by rw [hx, e]))]; exact ih
      · rw [on_env, envOn_other (fun x hx e => hne (by rw [h1, h2]; simp) (by rw [hx, e]))]; exact ih
      · rw [on_env, on_env, stD_nt, stD_nt]
        cases o.dst with
        | none => exact ih
        | some d => simp only [envOn, ih]
    · exact ih
theorem stD_σ {D D' : Nat → Bool} (s : AS) {id : Nat} : ∀ k, (∀ j o p, j < k → ops[j]? = some o → tr[j]? = some p → D j ≠ D' j → id ∉ p.2.w.map (·.1)) → (stD ops tr D k s).σ id = (stD ops tr D' k s).σ id
  | 0, _ => rfl
  | k + 1, h => by
    have ih := stD_σ (D := D) (D' := D') s (id := id) k (fun j o p hj => h j o p (by omega))
    simp only [stD]
    split
    · rename_i o p ho hp
      have hne := h k o p (by omega) ho hp
      cases h1 : D k <;> cases h2 : D' k <;> simp only [cond_true, cond_false]
      · exact ih
      · rw [on_σ, puts_out (hne (by rw [h1, h2]; simp))]; exact ih
      · rw [on_σ, puts_out (hne (by rw [h1, h2]; simp))]; exact ih
      · rw [on_σ, on_σ]
        by_cases hm : id ∈ p.2.w.map (·.1)
        · exact puts_in hm
        · rw [puts_out hm, puts_out hm]; exact ih
    · exact ih
theorem stD_low (D : Nat → Bool) (i : Nat) (s : AS) : ∀ m, stD ops tr (fun j => Nat.blt j i) (i + m) s = stD ops tr (fun _ => true) i s
  | 0 => stD_congr s i (fun j hj => by rw [Nat.blt_eq]; exact hj)
  | m + 1 => by
    rw [← Nat.add_assoc]
    have : Nat.blt (i + m) i = false := by
      cases h : Nat.blt (i + m) i with
      | false => rfl
      | true => rw [Nat.blt_eq] at h; omega
    simp only [stD, this, cond_false]
    split <;> exact stD_low D i s m
/-- One more is done: as if it came last. -/
theorem stD_add {D : Nat → Bool} {i : Nat} {o : Oper} {p : List Nat × Eff} (ho : ops[i]? = some o) (hp : tr[i]? = some p) (hi : D i = false) (s : AS) : ∀ m, (∀ j o' p', i < j → j < i + 1 + m → ops[j]? = some o' → tr[j]? = some p' → D j = true → (∀ x, o'.dst = some x → o.dst ≠ some x) ∧ (∀ x ∈ p'.2.w.map (·.1), x ∉ p.2.w.map (·.1))) →
    stD ops tr (fun j => D j || Nat.beq j i) (i + 1 + m) s = p.2.on o.dst (stD ops tr D (i + 1 + m) s)
  | 0, _ => by
    have e : stD ops tr (fun j => D j || Nat.beq j i) i s = stD ops tr D i s := stD_congr s i (fun j hj => by simp [beq_false_of_ne (Nat.ne_of_lt hj)])
    simp only [Nat.add_zero, stD, ho, hp, hi, Nat.beq_refl, Bool.or_true, cond_true, cond_false, e]
  | m + 1, h => by
    have ih := stD_add ho hp hi s m (fun j o' p' h1 h2 => h j o' p' h1 (by omega))
    rw [← Nat.add_assoc]
    have hb : Nat.beq (i + 1 + m) i = false := beq_false_of_ne (by omega)
    simp only [stD, hb, Bool.or_false]
    split
    · rename_i o' p' ho' hp'
      cases hd : D (i + 1 + m) with
      | false => simp only [cond_false]; exact ih
      | true =>
        simp only [cond_true, ih]
        obtain ⟨c1, c2⟩ := h (i + 1 + m) o' p' (by omega) (by omega) ho' hp' hd
        exact on_comm c1 c2 _
    · exact ih
end
end Go.Tt
