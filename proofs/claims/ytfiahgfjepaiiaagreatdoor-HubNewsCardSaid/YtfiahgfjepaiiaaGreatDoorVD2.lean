import Derived.Test.YtfiahgfjepaiiaaGreatDoorVD1
set_option linter.unusedVariables false
set_option linter.unusedSimpArgs false
namespace Go.Tt
open Go.Proofs Go.RowKit Go.Shelf
attribute [local go_sem] Oper.semAt_some
/-- Beyond some blocks all that was is as it was. -/
structure Keeps (w W : World) (X : Nat → Prop) : Prop where
  os : W.os = w.os
  tape : W.tape = w.tape
  output : W.output = w.output
  size : w.heap.size ≤ W.heap.size
  same : ∀ k, k < w.heap.size → ¬ X k → W.heap[k]? = w.heap[k]?
theorem Keeps.refl (w : World) (X : Nat → Prop) : Keeps w w X := ⟨rfl, rfl, rfl, Nat.le_refl _, fun _ _ _ => rfl⟩
theorem Keeps.grew {w W W' : World} {X : Nat → Prop} (h : Keeps w W X) (g : Grew W W') : Keeps w W' X :=
  ⟨g.os.trans h.os, g.tape.trans h.tape, g.output.trans h.output, Nat.le_trans h.size g.size, fun k hk hx => (g.keep k (Nat.lt_of_lt_of_le hk h.size)).trans (h.same k hk hx)⟩
theorem Keeps.set {w W : World} {X : Nat → Prop} (h : Keeps w W X) {b : Nat} (hb : X b) (v : Value) : Keeps w (W.setCell ⟨b, 0, none⟩ v) X :=
  ⟨h.os, h.tape, h.output, by rw [show (W.setCell ⟨b, 0, none⟩ v).heap.size = W.heap.size from by show (W.heap.modify _ _).size = _; rw [Array.size_modify]]; exact h.size, fun k hk hx => (Below.heap_setCell W ⟨b, 0, none⟩ v k (fun e => hx (by rw [e]; exact hb))).trans (h.same k hk hx)⟩
theorem Keeps.put {w W : World} {X : Nat → Prop} (h : Keeps w W X) {l : Nat} (hl : w.heap.size ≤ l) (o : Obj) : Keeps w (W.putObj l o) X :=
  ⟨h.os, h.tape, h.output, by simp [World.putObj]; exact h.size, fun k hk hx => (World.putObj_heap_other (by omega)).trans (h.same k hk hx)⟩
theorem Keeps.weak {w W : World} {X Y : Nat → Prop} (h : Keeps w W X) (hxy : ∀ k, X k → Y k) : Keeps w W Y := ⟨h.os, h.tape, h.output, h.size, fun k hk hy => h.same k hk (fun hx => hy (hxy k hx))⟩
theorem Keeps.cell {w W : World} {X : Nat → Prop} (h : Keeps w W X) {b : Nat} (hb : ¬ X b) {v : Value} (hc : w.cell? ⟨b, 0, none⟩ = some v) : W.cell? ⟨b, 0, none⟩ = some v := by
  obtain ⟨o, ho, _⟩ := cells_of_cell hc
  rw [World.cell?_of_block (h.same b (Array.getElem?_eq_some_iff.1 ho).1 hb)]; exact hc
def M.namesOk (p : ByteArray) : Bool := (M.names p).all M.isName
set_option maxHeartbeats 4000000 in
set_option maxRecDepth 100000 in
theorem rf_wp {Q : Exit → Act → World → Prop} (w : World) (bt b5 b6 b7 : Nat) (p : ByteArray) (hp : p.size ≤ 134217728) (e : Int) (ds : List Deferred) (v0 v1 v3 v4 v5 v6 v7 v8 v9 v10 v11 v12 v14 v15 v16 v17 v18 v19 v20 : Value)
    (h5 : w.cell? ⟨b5, 0, none⟩ = some (.string ⟨#[47]⟩)) (h6 : w.cell? ⟨b6, 0, none⟩ = some (.string p)) (f6 : w.frozen? ⟨b6, 0, none⟩ = false) (h7 : w.cell? ⟨b7, 0, none⟩ = some (.int .i64 0)) (ht : w.cell? ⟨bt, 0, none⟩ = some (.int .i64 e)) (ft : w.frozen? ⟨bt, 0, none⟩ = false)
    (n56 : b5 ≠ b6) (n76 : b7 ≠ b6) (nt6 : bt ≠ b6) (nt5 : bt ≠ b5) (nt7 : bt ≠ b7)
    (hQ1 : M.namesOk p = true → ∀ (W : World) (D : Nat), Keeps w W (fun k => k = b6) → w.heap.size ≤ D → W.heap[D]? = some (.deferred (some [])) →
      Q .normal { tmps := #[v0, v1, .pointer (some ⟨bt, 0, none⟩), v3, v4, v5, v6, v7, v8, v9, v10, v11, v12, .func (.func 181) #[] #[.pointer (some ⟨b5, 0, none⟩), .pointer (some ⟨b6, 0, none⟩), .pointer (some ⟨b7, 0, none⟩)], v14, v15, v16, v17, v18, v19, v20], defers := { target := .collected D, args := #[] } :: ds } W)
    (hQ2 : M.namesOk p = false → ∀ (W : World) (D : Nat), Keeps w W (fun k => k = b6 ∨ k = bt) → W.heap[bt]? = (w.setCell ⟨bt, 0, none⟩ (.int .i64 1)).heap[bt]? → w.heap.size ≤ D → W.heap[D]? = some (.deferred (some [])) →
      Q .ret { tmps := #[v0, v1, .pointer (some ⟨bt, 0, none⟩), v3, v4, v5, v6, v7, v8, v9, v10, v11, v12, .func (.func 181) #[] #[.pointer (some ⟨b5, 0, none⟩), .pointer (some ⟨b6, 0, none⟩), .pointer (some ⟨b7, 0, none⟩)], v14, v15, v16, v17, v18, v19, v20], defers := { target := .collected D, args := #[] } :: ds } W) :
    (loopAt Tryz.f112 2).wp Tryz.prog Q { tmps := #[v0, v1, .pointer (some ⟨bt, 0, none⟩), v3, v4, v5, v6, v7, v8, v9, v10, v11, v12, .func (.func 181) #[] #[.pointer (some ⟨b5, 0, none⟩), .pointer (some ⟨b6, 0, none⟩), .pointer (some ⟨b7, 0, none⟩)], v14, v15, v16, v17, v18, v19, v20], defers := ds } w := by
  refine (wpIn_wide (n := 9)).1 ?_
  show (Code.rangeFunc (.tmp 13) #[14] _ _).wpIn Fence.wide 9 Tryz.prog Q _ w
  refine wpIn_rangeFunc ?_
  intro fn hfn
  obtain ⟨T, hT⟩ : ∃ T : Array Value, T = #[v0, v1, .pointer (some ⟨bt, 0, none⟩), v3, v4, v5, v6, v7, v8, v9, v10, v11, v12, .func (.func 181) #[] #[.pointer (some ⟨b5, 0, none⟩), .pointer (some ⟨b6, 0, none⟩), .pointer (some ⟨b7, 0, none⟩)], v14, v15, v16, v17, v18, v19, v20] := ⟨_, rfl⟩
  rw [← hT] at hQ1 hQ2 ⊢
  generalize hasg : (Code.region 5 _ _) = assign
  generalize hbdy : (Code.block 3 _) = body
  obtain ⟨rec, hrec⟩ : ∃ rec : LoopState → Option Code → Loop, rec = fun st pe => { state := st, pending := pe, fn, tmps := T, params := #[14], assign, body, defers := w.heap.size } := ⟨_, rfl⟩
  obtain ⟨W1, hW1⟩ : ∃ W1, (w.alloc (.deferred (some []))).alloc (.loop (rec .ready none)) = W1 := ⟨_, rfl⟩
  have hL1 : W1.heap[w.heap.size + 1]? = some (.loop (rec .ready none)) := by
    rw [← hW1]; have := World.alloc_heap_new (w.alloc (.deferred (some []))) (.loop (rec .ready none)); rwa [World.size_alloc] at this
  have hK1 : W1.heap[w.heap.size]? = some (.deferred (some [])) := by
    rw [← hW1]; exact (Below.heap_alloc _ _ _ (by simp)).trans (World.alloc_heap_new w _)
  have hg1 : Grew w W1 := by rw [← hW1]; exact (Grew.alloc w _).trans (Grew.alloc _ _)
  have k1 : Keeps w W1 (fun k => k = b6) := (Keeps.refl w _).grew hg1
  have c6 : W1.cell? ⟨b6, 0, none⟩ = some (.string p) := by
    obtain ⟨o, ho, _⟩ := cells_of_cell h6
    rw [World.cell?_of_block (hg1.keep b6 (Array.getElem?_eq_some_iff.1 ho).1)]; exact h6
  have cf6 : W1.frozen? ⟨b6, 0, none⟩ = false := by
    obtain ⟨o, ho, _⟩ := cells_of_cell h6
    rw [World.frozen?_of_block (hg1.keep b6 (Array.getElem?_eq_some_iff.1 ho).1)]; exact f6
  have lt : bt < w.heap.size := by obtain ⟨o, ho, _⟩ := cells_of_cell ht; exact (Array.getElem?_eq_some_iff.1 ho).1
  refine ⟨w.heap.size + 1, [{ target := .collected w.heap.size, args := #[] }], W1, { target := .fn (.func 181) #[.pointer (some ⟨b5, 0, none⟩), .pointer (some ⟨b6, 0, none⟩), .pointer (some ⟨b7, 0, none⟩)], args := #[.func (.yield (w.heap.size + 1)) #[] #[]] }, W1, 181,
    #[.func (.yield (w.heap.size + 1)) #[] #[], .pointer (some ⟨b5, 0, none⟩), .pointer (some ⟨b6, 0, none⟩), .pointer (some ⟨b7, 0, none⟩)], W1, ?_, ?_, fun _ _ => trivial, ?_, fun _ => by omega, ?_⟩
  · rw [← hW1, hrec]; exact run_enterLoop_outer _ _ _ _ _
  · have : ({ tmps := T, defers := ds } : Act).eval (.tmp 13) = .func (.func 181) #[] #[.pointer (some ⟨b5, 0, none⟩), .pointer (some ⟨b6, 0, none⟩), .pointer (some ⟨b7, 0, none⟩)] := by rw [hT]; rfl
    simp only [resolve, rangeCall, this]
    simp [go_sem]
  · simp [invoke, go_sem, Tryz.call181]
  · refine (split_in 8 (by omega) (w.heap.size + 1) b5 b6 b7 n56 n76
      (fun pre W => (∀ x ∈ pre, M.isName x = true) ∧ Keeps w W (fun k => k = b6) ∧ W.heap[w.heap.size + 1]? = some (.loop (rec .ready none)) ∧ W.heap[w.heap.size]? = some (.deferred (some [])))
      (fun pre W => (∃ x ∈ pre, M.isName x = false) ∧ Keeps w W (fun k => k = b6 ∨ k = bt) ∧ W.heap[bt]? = (w.setCell ⟨bt, 0, none⟩ (.int .i64 1)).heap[bt]? ∧ W.heap[w.heap.size + 1]? = some (.loop (rec .done (some .ret))) ∧ W.heap[w.heap.size]? = some (.deferred (some [])))
      ?_ ?_ ?_ p hp W1 (k1.cell n56 h5) c6 cf6 (k1.cell n76 h7) ⟨by simp, k1, hL1, hK1⟩).mono ?_
    · rintro pre W W' ⟨a1, a2, a3, a4⟩ g
      exact ⟨a1, a2.grew g, (g.keep _ (Array.getElem?_eq_some_iff.1 a3).1).trans a3, (g.keep _ (Array.getElem?_eq_some_iff.1 a4).1).trans a4⟩
    · rintro pre W v ⟨a1, a2, a3, a4⟩
      have l6 : b6 < w.heap.size := by obtain ⟨o, ho, _⟩ := cells_of_cell h6; exact (Array.getElem?_eq_some_iff.1 ho).1
      exact ⟨a1, a2.set rfl v, (Below.heap_setCell W ⟨b6, 0, none⟩ v _ (by show w.heap.size + 1 ≠ b6; omega)).trans a3, (Below.heap_setCell W ⟨b6, 0, none⟩ v _ (by show w.heap.size ≠ b6; omega)).trans a4⟩
    · -- one round
      rintro pre x W hx ⟨a1, a2, hl, hk⟩
      have hlt : w.heap.size + 1 < W.heap.size := (Array.getElem?_eq_some_iff.1 hl).1
      have hy := run_yield (P := Tryz.prog) (args := #[.string x]) hl (by rw [hrec]; rfl)
      have hbr := run_beginRound (P := Tryz.prog) hl (by rw [hrec])
      rw [hrec] at hy
      refine ⟨fn, _, assign, body, hy, roundIn_of_wpIn trivial ?_⟩
      subst hT
      subst hasg
      generalize htm : Array.foldl _ _ _ = tm
      obtain rfl : tm = #[v0, v1, .pointer (some ⟨bt, 0, none⟩), v3, v4, v5, v6, v7, v8, v9, v10, v11, v12, .func (.func 181) #[] #[.pointer (some ⟨b5, 0, none⟩), .pointer (some ⟨b6, 0, none⟩), .pointer (some ⟨b7, 0, none⟩)], .string x, v15, v16, v17, v18, v19, v20] := by rw [← htm]; kernel_rfl
      clear htm
      gi_wp2
      generalize hW2 : W.putObj (w.heap.size + 1) _ = W2
      have e2 : W.putObj (w.heap.size + 1) (.loop (rec .busy none)) = W2 := by rw [← hW2, hrec]
      clear hW2
      subst hbdy
      have q5 : b5 < w.heap.size := by obtain ⟨o, ho, _⟩ := cells_of_cell h5; exact (Array.getElem?_eq_some_iff.1 ho).1
      have q6 : b6 < w.heap.size := by obtain ⟨o, ho, _⟩ := cells_of_cell h6; exact (Array.getElem?_eq_some_iff.1 ho).1
      have q7 : b7 < w.heap.size := by obtain ⟨o, ho, _⟩ := cells_of_cell h7; exact (Array.getElem?_eq_some_iff.1 ho).1
      have k2 : Keeps w W2 (fun k => k = b6) := by rw [← e2]; exact a2.put (by omega) _
      have hl2 : W2.heap[w.heap.size + 1]? = some (.loop (rec .busy none)) := by rw [← e2]; exact World.putObj_heap_same hlt
      have hk2 : W2.heap[w.heap.size]? = some (.deferred (some [])) := by rw [← e2]; exact (World.putObj_heap_other (by omega)).trans hk
      have same2 : ∀ k, k = b5 ∨ k = b6 ∨ k = b7 → W2.heap[k]? = W.heap[k]? := fun k hk' => by
        rw [← e2]
        refine World.putObj_heap_other ?_
        rcases hk' with rfl | rfl | rfl <;> omega
      clear e2
      gi_wp2
      refine ⟨trivial, ?_⟩
      refine ((callsIn_wide.2 (isName_calls x hx W2)).inRound _).mono ?_
      rintro e3 W3 ⟨rfl, hg3⟩
      have k3 := k2.grew hg3
      have hl3 := (hg3.keep _ (Array.getElem?_eq_some_iff.1 hl2).1).trans hl2
      have hk3 := (hg3.keep _ (Array.getElem?_eq_some_iff.1 hk2).1).trans hk2
      have ct3 := k3.cell nt6 ht
      have ft3 : W3.frozen? ⟨bt, 0, none⟩ = false := by rw [World.frozen?_of_block (k3.same bt lt nt6)]; exact ft
      cases hn : M.isName x with
      | true =>
        gi_wp2
        have her := run_endRound (P := Tryz.prog) none hl3
        have hrl : (W3.putObj (w.heap.size + 1) (.loop { rec .busy none with state := if (none : Option Code).isNone then .ready else .done, pending := none })).heap[w.heap.size + 1]? = some (.loop (rec .ready none)) := by
          rw [World.putObj_heap_same (Array.getElem?_eq_some_iff.1 hl3).1, hrec]; rfl
        rw [hrec] at hrl
        have hs3 : ∀ k, k = b5 ∨ k = b6 ∨ k = b7 → (W3.putObj (w.heap.size + 1) (.loop { rec .busy none with state := if (none : Option Code).isNone then .ready else .done, pending := none })).heap[k]? = W.heap[k]? := fun k hk' => by
          have hkl : k < W2.heap.size := by
            have := k2.size
            rcases hk' with rfl | rfl | rfl <;> omega
          have hne : k ≠ w.heap.size + 1 := by rcases hk' with rfl | rfl | rfl <;> omega
          exact (World.putObj_heap_other hne).trans ((hg3.keep k hkl).trans (same2 k hk'))
        refine ⟨_, _, her, .inl ⟨rfl, ⟨fun y hy => hy.elim (a1 y) (fun h => by rw [h]; exact hn), k3.put (by omega) _, ?_, (World.putObj_heap_other (by omega)).trans hk3⟩, hs3 _ (.inl rfl), hs3 _ (.inr (.inl rfl)), hs3 _ (.inr (.inr rfl))⟩⟩
        rw [hrec]; exact hrl
      | false =>
        gi_wp2
        have hl4 := (Below.heap_setCell W3 ⟨bt, 0, none⟩ (.int .i64 1) (w.heap.size + 1) (by show w.heap.size + 1 ≠ bt; omega)).trans hl3
        have hk4 := (Below.heap_setCell W3 ⟨bt, 0, none⟩ (.int .i64 1) w.heap.size (by show w.heap.size ≠ bt; omega)).trans hk3
        have her := run_endRound (P := Tryz.prog) (some .ret) hl4
        have hrl : ((W3.setCell ⟨bt, 0, none⟩ (.int .i64 1)).putObj (w.heap.size + 1) (.loop { rec .busy none with state := if (some Code.ret : Option Code).isNone then .ready else .done, pending := some .ret })).heap[w.heap.size + 1]? = some (.loop (rec .done (some .ret))) := by
          rw [World.putObj_heap_same (Array.getElem?_eq_some_iff.1 hl4).1, hrec]; rfl
        rw [hrec] at hrl
        refine ⟨_, _, her, .inr ⟨rfl, .inr hn, ((k3.weak (fun k h => .inl h)).set (.inr rfl) _).put (by omega) _, ?_, ?_, (World.putObj_heap_other (by omega)).trans hk4⟩⟩
        · rw [World.putObj_heap_other (by omega)]
          refine Eq.trans ?_ (Array.getElem?_eq_getElem (xs := (w.setCell ⟨bt, 0, none⟩ (.int .i64 1)).heap) _)
          show (W3.heap.modify bt _)[bt]? = (w.heap.modify bt _)[bt]?
          rw [Array.getElem?_modify, Array.getElem?_modify, if_pos rfl, if_pos rfl, k3.same bt lt nt6]
        · rw [hrec]; exact hrl
    · rintro e W2 ⟨⟨v, rfl⟩, (⟨b1, b2, hl, hk⟩ | ⟨pre, hpre, hne, ⟨x, hx, hbad⟩, b2, b3, hl, hk⟩)⟩
      · refine ⟨none, _, by have := run_endLoop (P := Tryz.prog) hl (by rw [hrec]; simp); rw [hrec] at this; exact this, ?_⟩
        refine hQ1 (List.all_eq_true.2 b1) _ _ (b2.put (by omega) _) (Nat.le_refl _) ((World.putObj_heap_other (by omega)).trans hk)
      · refine ⟨some .ret, _, by have := run_endLoop (P := Tryz.prog) hl (by rw [hrec]; simp); rw [hrec] at this; exact this, ?_⟩
        have hno : M.namesOk p = false := by
          cases h : M.namesOk p with
          | false => rfl
          | true =>
            have := List.all_eq_true.1 h x (hpre.subset hx)
            rw [hbad] at this; simp at this
        refine wpIn_ret ?_
        exact hQ2 hno _ _ (b2.put (by omega) _) ((World.putObj_heap_other (by omega)).trans b3) (Nat.le_refl _) ((World.putObj_heap_other (by omega)).trans hk)
end Go.Tt
