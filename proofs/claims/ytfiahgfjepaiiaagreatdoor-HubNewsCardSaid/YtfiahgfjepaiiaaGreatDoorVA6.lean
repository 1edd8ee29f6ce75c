import Derived.Test.YtfiahgfjepaiiaaGreatDoorVA5
set_option linter.unusedVariables false
set_option linter.unusedSimpArgs false
namespace Go.Tt

theorem ReadL.mono {w w' : World} {S S' : Nat → Prop} {β β' : Beta} {τ : ET} {xs : List τ.T} {A : Option Addr} {news : List Value} (hw : ∀ b, S b → w'.heap[b]? = w.heap[b]?) (hS : ∀ b, S b → S' b) (hβ : ∀ id l, β id = some l → β' id = some l)
    (hc : ∀ b o, A = some ⟨b, o, none⟩ → w'.heap[b]? = w.heap[b]?) (h : ReadL w S β τ xs A news) : ReadL w' S' β' τ xs A news :=
  ⟨h.big, h.len, h.addr, fun b o e j u hj => by rw [cell_of_keep (hc b o e)]; exact h.cell b o e j u hj, fun j x hx => (h.elems j x hx).imp fun _ _ h => h.mono hw hS hβ⟩

/-! ### Nobody's own any more -/
theorem frzC_ok {w : World} {S F : Nat → Prop} {β : Beta} {σ σr : Store} (hi : Inv w S F β σ) (hs : Sub σr σ) {c c' : C} {ws : List (Nat × AObj)} (h : frzC σr c = some (c', ws)) {v : Value} (hv : RepC w S β c v) :
    ∃ S', Inv w S' F β (puts σ ws) ∧ (∀ b, S b → S' b) ∧ RepC w S' β c' v ∧ (c.isBot = false → c'.isBot = false) := by
  have keep : ∀ c, some (c, ([] : List (Nat × AObj))) = some (c', ws) → RepC w S β c v → ∃ S', Inv w S' F β (puts σ ws) ∧ (∀ b, S b → S' b) ∧ RepC w S' β c' v ∧ (c.isBot = false → c'.isBot = false) := by
    intro c h hv; cases h; exact ⟨S, hi, fun _ h => h, hv, fun h => h⟩
  unfold frzC at h
  split at h
  · rename_i τ0 id
    cases hv with
    | row _ _ l hl =>
      split at h
      · rename_i τ xs hσ
        cases h
        have hid := hs _ _ hσ
        obtain ⟨l', hl', hr⟩ := hi.obj _ _ hid
        rw [hl] at hl'; obtain rfl := Option.some.inj hl'
        obtain ⟨news, h1, h2, h3, h4⟩ := row_readL hr
        have h5 : ReadL w (fun b => S b ∨ l.blk = some b) β τ xs l.A news := h1.mono (fun _ _ => rfl) (fun _ h => .inl h) (fun _ _ h => h) (fun _ _ _ => rfl)
        have h6 : RepC w (fun b => S b ∨ l.blk = some b) β (.L τ xs) (.slice l.A l.n l.cap) := by
          rw [h2]
          exact h5.rep h3 (row_cap0 hr) (fun b o h0 e => by obtain ⟨b', e1, e2⟩ := h4 h0; rw [e2] at e; cases e; exact .inr e1)
        refine ⟨fun b => S b ∨ l.blk = some b, ?_, fun _ h => .inl h, h6, fun _ => rfl⟩
        exact hi.turn hid hl rfl (fun _ h => .inl h) (fun b hb => hb.imp (fun h => h) fun h => ⟨h, rfl⟩) (.froz h2 h6)
      · rename_i τ xs hσ
        cases h
        obtain ⟨l', hl', hr⟩ := hi.obj _ _ (hs _ _ hσ)
        rw [hl] at hl'; obtain rfl := Option.some.inj hl'
        exact ⟨S, hi, fun _ h => h, (froz_rep hr).2, fun _ => rfl⟩
      · simp at h
  · exact keep _ h hv
theorem frzCs_ok {w : World} : ∀ {cs cs' : List C} {ws : List (Nat × AObj)} {S F : Nat → Prop} {β : Beta} {σ σr : Store}, Inv w S F β σ → Sub σr σ → frzCs σr cs = some (cs', ws) → ∀ {vs : List Value}, All2 (RC w S β) cs vs →
    ∃ S', Inv w S' F β (puts σ ws) ∧ (∀ b, S b → S' b) ∧ All2 (RC w S' β) cs' vs
  | [], cs', ws, S, F, β, σ, σr, hi, hs, h, vs, hv => by simp [frzCs] at h; obtain ⟨rfl, rfl⟩ := h; exact ⟨S, hi, fun _ h => h, hv⟩
  | c :: r, cs', ws, S, F, β, σ, σr, hi, hs, h, vs, hv => by
    simp only [frzCs] at h
    split at h
    · rename_i c1 w1 h1
      split at h
      · rename_i cs2 w2 h2
        cases h
        cases hv with
        | cons p q =>
          obtain ⟨S1, hi1, m1, r1, _⟩ := frzC_ok hi hs h1 p.1
          have q1 := q.imp fun _ _ h => RC.mono (S' := S1) (w' := w) (β' := β) (fun _ _ => rfl) m1 (fun _ _ h => h) h
          obtain ⟨S2, hi2, m2, r2⟩ := frzCs_ok hi1 (hs.puts w1) h2 q1
          refine ⟨S2, by rw [puts_append]; exact hi2, fun b hb => m2 b (m1 b hb), .cons ⟨r1.mono (fun _ _ => rfl) m2 (fun _ _ h => h), p.2⟩ r2⟩
      · simp at h
    · simp at h

/-! ### Elements out of cells -/
theorem L_nil {w : World} {S : Nat → Prop} {β : Beta} (τ : ET) (A : Option Addr) (cap : Nat) (hn : A = none → cap = 0) : RepC w S β (.L τ []) (.slice A 0 cap) :=
  .L τ [] A cap 0 0 (fun _ _ => undef) (Nat.zero_le _) (by simp) hn (fun h => by simp at h) (fun j q hj => by simp at hj) (fun j q x y hx => by simp at hx)
theorem lE_ok {w : World} {S : Nat → Prop} {β : Beta} {c : C} {xs : List Entry} (h : lE c = some xs) {v : Value} (hv : RC w S β c v) : RC w S β (.L .entry xs) v := by
  unfold lE at h
  split at h
  · cases h; exact hv
  · cases h; refine ⟨?_, hv.2⟩; cases hv.1 with | Lx _ _ A cap h => exact h
  · cases h; refine ⟨?_, hv.2⟩; cases hv.1; exact L_nil _ _ _ (fun _ => rfl)
  · simp at h
theorem lCh_ok {w : World} {S : Nat → Prop} {β : Beta} {c : C} {xs : List Change} (h : lCh c = some xs) {v : Value} (hv : RC w S β c v) : RC w S β (.L .change xs) v := by
  unfold lCh at h
  split at h
  · cases h; exact hv
  · cases h; refine ⟨?_, hv.2⟩; cases hv.1 with | Lx _ _ A cap h => exact h
  · cases h; refine ⟨?_, hv.2⟩; cases hv.1; exact L_nil _ _ _ (fun _ => rfl)
  · simp at h
theorem lCo_ok {w : World} {S : Nat → Prop} {β : Beta} {c : C} {xs : List Commit} (h : lCo c = some xs) {v : Value} (hv : RC w S β c v) : RC w S β (.L .commit xs) v := by
  unfold lCo at h
  split at h
  · cases h; exact hv
  · cases h; refine ⟨?_, hv.2⟩; cases hv.1 with | Lx _ _ A cap h => exact h
  · cases h; refine ⟨?_, hv.2⟩; cases hv.1; exact L_nil _ _ _ (fun _ => rfl)
  · simp at h
theorem All2.tl {α β : Type} {R : α → β → Prop} {x : α} {xs : List α} {ys : List β} (h : All2 R (x :: xs) ys) : ∃ y ys', ys = y :: ys' ∧ R x y ∧ All2 R xs ys' := by
  cases h with | cons p q => exact ⟨_, _, rfl, p, q⟩
theorem dec_rep {w : World} {S : Nat → Prop} {β : Beta} {τ : ET} {cs : List C} {y : τ.T} (h : τ.dec cs = some y) {vs : List Value} (hv : All2 (RC w S β) cs vs) : All2 (RC w S β) (τ.enc y) vs := by
  unfold ET.dec at h
  split at h
  all_goals first
    | (simp only [Option.some.injEq] at h; subst h; exact hv)
    | (simp at h; done)
    | skip
  · rename_i n k l
    split at h
    · rename_i l' hl
      cases h
      obtain ⟨v1, r1, rfl, p1, hv⟩ := hv.tl
      obtain ⟨v2, r2, rfl, p2, hv⟩ := hv.tl
      obtain ⟨v3, r3, rfl, p3, hv⟩ := hv.tl
      exact .cons p1 (.cons p2 (.cons (lCh_ok hl p3) hv))
    · simp at h
  · split at h
    · rename_i b' c' hb hc
      cases h
      obtain ⟨v1, r1, rfl, p1, hv⟩ := hv.tl
      obtain ⟨v2, r2, rfl, p2, hv⟩ := hv.tl
      obtain ⟨v3, r3, rfl, p3, hv⟩ := hv.tl
      obtain ⟨v4, r4, rfl, p4, hv⟩ := hv.tl
      exact .cons p1 (.cons (lE_ok hb p2) (.cons p3 (.cons (lCo_ok hc p4) hv)))
    · simp at h
  · split at h
    · rename_i b' m' a' hb hm ha
      cases h
      obtain ⟨v1, r1, rfl, p1, hv⟩ := hv.tl
      obtain ⟨v2, r2, rfl, p2, hv⟩ := hv.tl
      obtain ⟨v3, r3, rfl, p3, hv⟩ := hv.tl
      obtain ⟨v4, r4, rfl, p4, hv⟩ := hv.tl
      obtain ⟨v5, r5, rfl, p5, hv⟩ := hv.tl
      obtain ⟨v6, r6, rfl, p6, hv⟩ := hv.tl
      obtain ⟨v7, r7, rfl, p7, hv⟩ := hv.tl
      exact .cons p1 (.cons p2 (.cons (lE_ok hb p3) (.cons p4 (.cons (lE_ok hm p5) (.cons p6 (.cons (lCh_ok ha p7) hv))))))
    · simp at h
  · obtain ⟨v1, r1, rfl, p1, hv⟩ := hv.tl
    exact .cons (lE_ok h p1) hv
end Go.Tt
