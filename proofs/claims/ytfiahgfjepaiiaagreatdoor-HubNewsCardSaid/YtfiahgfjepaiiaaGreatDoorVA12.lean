import Derived.Test.YtfiahgfjepaiiaaGreatDoorVA11
set_option linter.unusedVariables false
set_option linter.unusedSimpArgs false
namespace Go.Tt

theorem elemsG_ok {w : World} {τ : ET} {place : Nat → Option (Nat × Nat)} (hp : ∀ i, place i = some (i * τ.size, τ.size)) : ∀ {is : List Nat} {vs : List V} {n N : Nat} {xs : List τ.T} {ws : List (Nat × AObj)} {S F : Nat → Prop} {β : Beta} {σ σr : Store},
    Inv w S F β σ → Sub σr σ → elemsG τ σr n is vs = some (xs, ws) → n + is.length ≤ N → ∀ {ys : List Value} {c : Array Value}, All2 (RepV w S β) vs ys → c.size = N * τ.size →
      ∃ c' S', Instr.fill place c (is.zip ys) = some c' ∧ c'.size = N * τ.size ∧ (∀ q, q < n * τ.size → c'[q]? = c[q]?) ∧ Inv w S' F β (puts σ ws) ∧ (∀ b, S b → S' b) ∧ xs.length = is.length ∧
        ∀ j x, xs[j]? = some x → All2 (RC w S' β) (τ.enc x) ((c'.toList.drop ((n + j) * τ.size)).take τ.size)
  | [], [], n, N, xs, ws, S, F, β, σ, σr, hi, hs, h, hN, ys, c, hv, hc => by
    simp [elemsG] at h; obtain ⟨rfl, rfl⟩ := h
    exact ⟨c, S, by simp [Instr.fill], hc, fun _ _ => rfl, hi, fun _ h => h, rfl, fun j x hx => by simp at hx⟩
  | [], _ :: _, n, N, xs, ws, S, F, β, σ, σr, hi, hs, h, hN, ys, c, hv, hc => by simp [elemsG] at h
  | _ :: _, [], n, N, xs, ws, S, F, β, σ, σr, hi, hs, h, hN, ys, c, hv, hc => by simp [elemsG] at h
  | i :: is, v :: vs, n, N, xs, ws, S, F, β, σ, σr, hi, hs, h, hN, ys, c, hv, hc => by
    simp only [elemsG] at h
    split at h
    · rename_i cs w1 hcs
      simp only [Option.bind_eq_some_iff] at hcs
      obtain ⟨cs0, hcs0, hfr⟩ := hcs
      split at h
      · rename_i xs' w2 hel
        cases hin : Nat.beq i n with
        | false => rw [hin] at h; simp at h
        | true =>
          have := Nat.eq_of_beq_eq_true hin
          subst this
          rw [hin] at h; simp only [cond_true] at h
          split at h
          · rename_i y hdec
            cases h
            cases hv with
            | cons a b =>
              rename_i u us
              simp only [List.length_cons] at hN
              have hnb : nobot cs0 = true := by
                obtain ⟨_, g⟩ := frz_nobot hfr
                refine g ?_
                cases cs with
                | nil => rfl
                | cons c0 cr => cases cr with
                  | nil =>
                    have : ∀ c, c.isBot = true → τ.dec [c] = none := by
                      intro c hc; cases c <;> simp [C.isBot] at hc <;> cases τ <;> rfl
                    simp only [nobot]
                    cases hb : c0.isBot with
                    | false => rfl
                    | true => rw [this c0 hb] at hdec; simp at hdec
                  | cons _ _ => rfl
              have hyc := cells_ok a hcs0 hnb
              obtain ⟨S1, hi1, m1, hyc1⟩ := frzCs_ok hi hs hfr hyc
              have hy := dec_rep hdec hyc1
              have hul : u.cells.size = τ.size := by have := hy.length; rw [enc_size] at this; simp at this; omega
              have hin : (i + 1) * τ.size ≤ N * τ.size := Nat.mul_le_mul_right _ (by omega)
              rw [Nat.add_mul] at hin
              have b1 : All2 (RepV w S1 β) vs us := b.imp fun _ _ h => h.mono (fun _ _ => rfl) m1 (fun _ _ h => h)
              generalize hnew : (c.toList.take (i * τ.size) ++ u.cells.toList ++ c.toList.drop (i * τ.size + u.cells.size)) = new
              have hnl : new.length = N * τ.size := by rw [← hnew]; simp; omega
              obtain ⟨c', S2, q1, q2, q3, q4, q5, q6, q7⟩ := elemsG_ok hp (N := N) hi1 (hs.puts w1) hel (by omega) (c := new.toArray) b1 (by simpa using hnl)
              refine ⟨c', S2, by simp only [List.zip_cons_cons]; rw [fill_cons (hp i) hul (by omega), hnew]; exact q1, q2, fun q hq => ?_, by rw [puts_append]; exact q4, fun x hx => q5 x (m1 x hx), by simp [q6], fun j x hx => ?_⟩
              · rw [q3 q (by rw [Nat.add_mul]; omega), ← hnew]
                simp only [List.getElem?_toArray]
                rw [List.getElem?_append_left (by simp; omega), List.getElem?_append_left (by simp; omega), List.getElem?_take, if_pos hq]
                simp
              · cases j with
                | zero =>
                  simp only [List.getElem?_cons_zero, Option.some.injEq] at hx
                  subst hx
                  have e : (c'.toList.drop ((i + 0) * τ.size)).take τ.size = u.cells.toList := by
                    apply List.ext_getElem?
                    intro q
                    rw [List.getElem?_take, List.getElem?_drop, Nat.add_zero]
                    by_cases hq : q < τ.size
                    · rw [if_pos hq]
                      have := q3 (i * τ.size + q) (by rw [Nat.add_mul]; omega)
                      rw [← hnew] at this
                      simp only [List.getElem?_toArray] at this
                      rw [Array.getElem?_toList, this]
                      rw [List.getElem?_append_left (by simp; omega), List.getElem?_append_right (by simp; omega)]
                      congr 1
                      simp; omega
                    · rw [if_neg hq, List.getElem?_eq_none (by simp; omega)]
                  rw [e]
                  exact hy.imp fun _ _ h => h.mono (fun _ _ => rfl) q5 (fun _ _ h => h)
                | succ j =>
                  simp only [List.getElem?_cons_succ] at hx
                  have := q7 j x hx
                  rw [show i + 1 + j = i + (j + 1) by omega] at this
                  exact this
          · simp at h
      · simp at h
    · simp at h

/-- A new row. -/
theorem Inv.newRow {w : World} {S F : Nat → Prop} {β : Beta} {σ : Store} (hi : Inv w S F β σ) {id0 : Nat} (h0 : σ id0 = none) {τ : ET} {xs : List τ.T} {c : Array Value} (e : TypeId) {cap : Nat} (hc : c.size = cap * τ.size) (hl : xs.length ≤ cap) (hb : xs.length ≤ big) (hm : cap ≤ maxLen)
    (ha : ∀ j x, xs[j]? = some x → All2 (RC w S β) (τ.enc x) ((c.toList.drop (j * τ.size)).take τ.size)) :
    Inv (w.alloc (.cells c e)) S F (bput β id0 ⟨some w.heap.size, some ⟨w.heap.size, 0, none⟩, xs.length, cap⟩) (sput σ id0 (.row τ xs)) := by
  refine hi.new (Grew.alloc w _) h0 (.row w.heap.size c e rfl rfl (fun h => ?_) (fun h => ?_) (heap_new w _) hc rfl hl hb hm (fun j x hx => ?_)) (fun b hb => ?_)
  · have := hi.sS _ h; omega
  · have := (hi.sF _ h).1; omega
  · exact (ha j x hx).imp fun _ _ h => h.mono (fun b hb => (Grew.alloc w _).keep b (hi.sS b hb)) (fun _ h => h) (bput_mono _ (hi.dom _ h0))
  · simp at hb; omega
theorem buildSlice_ok {P : Program} {T : Nat → TD} (hT : TOK P T) {t : Nat} {τ : ET} (ht : T t = .slice τ) {ps : Array (Nat × Operand)} (hn : ps.size ≤ 1000) {vs : List V} {xs : List τ.T} {ws : List (Nat × AObj)} {w : World} {S F : Nat → Prop} {β : Beta} {σ σr : Store} (hi : Inv w S F β σ) (hs : Sub σr σ)
    (h : elemsG τ σr 0 (ps.toList.map (·.1)) vs = some (xs, ws)) {ρ : Operand → Value} (hv : All2 (RepV w S β) vs (ps.toList.map fun p => ρ p.2)) :
    ∃ c e S', (Instr.buildSlice t ps.size (ps.map fun p => (p.1, ρ p.2))).run P w = .ok (.slice (some ⟨w.heap.size, 0, none⟩) xs.length xs.length) (w.alloc (.cells c e)) ∧ c.size = xs.length * τ.size ∧ xs.length = ps.size ∧ Inv w S' F β (puts σ ws) ∧ (∀ b, S b → S' b) ∧
      ∀ j x, xs[j]? = some x → All2 (RC w S' β) (τ.enc x) ((c.toList.drop (j * τ.size)).take τ.size) := by
  have c := hT t
  rw [ht] at c
  obtain ⟨i, e, j, v, h1, h2, h3, h4, h5, h6, h7, h8, h9, z, hz, hzs⟩ := chk_slice c
  have hp := size_pos τ
  have hle := size_le τ
  have hzero : ∀ k, ((Array.range (k * τ.size)).map fun i => (if k * τ.size = 0 then (#[] : Array Value) else z.cells)[i % (if k * τ.size = 0 then (#[] : Array Value) else z.cells).size]!).size = k * τ.size := fun k => by simp
  obtain ⟨c', S', q1, q2, q3, q4, q5, q6, q7⟩ := elemsG_ok (place := fun i => some (i * τ.size, τ.size)) (fun _ => rfl) (N := ps.size) hi hs h (by simp) (c := (Array.range (ps.size * τ.size)).map fun i => (if ps.size * τ.size = 0 then (#[] : Array Value) else z.cells)[i % (if ps.size * τ.size = 0 then (#[] : Array Value) else z.cells).size]!) hv (hzero _)
  have hxl : xs.length = ps.size := by simpa using q6
  have ezip : (ps.toList.map (·.1)).zip (ps.toList.map fun p => ρ p.2) = ps.toList.map fun p => (p.1, ρ p.2) := by
    generalize ps.toList = l
    induction l with
    | nil => rfl
    | cons p l ih => simp [ih]
  rw [ezip] at q1
  refine ⟨c', e, S', ?_, by rw [q2, hxl], hxl, q4, q5, fun j x hx => by simpa using q7 j x hx⟩
  have hbig : ¬ ps.size * τ.size > 2 ^ 24 := by
    have : ps.size * τ.size ≤ 1000 * 17 := Nat.mul_le_mul hn hle
    omega
  rw [hxl]
  by_cases h0 : ps.size = 0
  · simp only [h0, Nat.zero_mul, if_true] at q1
    simp only [Instr.buildSlice, Sem.run_bind, run_underlying h2, Result.andThen_ok, run_sizeOf_of h6, h7, h0, Nat.zero_mul, if_true]
    simp at q1
    simp [q1, newRow]
  · have h0' : ¬ ps.size * τ.size = 0 := by
      intro e; rcases Nat.mul_eq_zero.1 e with e | e <;> omega
    simp only [h0', if_false] at q1
    simp only [Instr.buildSlice, Sem.run_bind, run_underlying h2, Result.andThen_ok, run_sizeOf_of h6, h7, if_neg hbig, h0', if_false, run_zeroValue_of h6 hz]
    simp [q1, newRow, run_zeroValue_of h6 hz]
end Go.Tt
