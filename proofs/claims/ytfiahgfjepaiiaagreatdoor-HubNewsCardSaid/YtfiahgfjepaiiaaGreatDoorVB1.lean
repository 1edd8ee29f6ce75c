import Derived.Test.YtfiahgfjepaiiaaGreatDoorVA25
set_option linter.unusedVariables false
set_option linter.unusedSimpArgs false
namespace Go.Tt

/-! ### How laws are proved -/
theorem FnOK.norm {P : Program} {n : Nat} {g : FuncId} {args : List V} {σ σ1 : Store} {v : V} {os : List (Nat × AObj)} (h : FnOK P n g args σ v σ1) {l : List Nat} (hok : okM (number l ((List.range n).map fun j => (j, j)) K0) = true)
    (hos : objsL σ1 (number l ((List.range n).map fun j => (j, j)) K0) (number l ((List.range n).map fun j => (j, j)) K0) = some os) : FnOK P n g args σ (renV (number l ((List.range n).map fun j => (j, j)) K0) v) (assocO os) := by
  have hsub := number_mem l ((List.range n).map fun j => (j, j)) K0
  generalize number l ((List.range n).map fun j => (j, j)) K0 = m at hok hos hsub
  intro w S F β vals hi hv
  refine (h w S F β vals hi hv).mono ?_
  rintro e w' ⟨x, S1, β1, rfl, hi1, hx1, hb1, hr1⟩
  refine ⟨x, S1, bren β1 m, rfl, hi1.ren hok hos, hx1, fun id l hid hl => ?_, renV_ok hok hr1⟩
  have : (id, id) ∈ m := hsub _ (List.mem_map.2 ⟨id, List.mem_range.2 hid, rfl⟩)
  simp only [bren, backP_of hok this, Option.bind_some]; exact hb1 id l hid hl
/-- The arguments stand for something. -/
def ArgsFit (a : List V) (os : List (Nat × AObj)) : Prop := ∃ w S F β vals, Inv w S F β (assocO os) ∧ All2 (RepV w S β) a vals
def NSFit (ns : NS) : Prop := ∃ a w S F β, St ns.as a w S F β
/-- A cell stands for something. -/
def Fit (c : C) : Prop := ∃ w S β v, RepC w S β c v
theorem Fit.int {n : Int} (h : Fit (.i .i64 n)) : -9223372036854775808 ≤ n ∧ n ≤ 9223372036854775807 := by
  obtain ⟨w, S, β, v, h⟩ := h
  cases h with | i k n h => simpa [Lit.wf, IntKind.min, IntKind.max, IntKind.signed, IntKind.bits] using h
theorem Fit.byte {n : Int} (h : Fit (.i .u8 n)) : 0 ≤ n ∧ n ≤ 255 := by
  obtain ⟨w, S, β, v, h⟩ := h
  cases h with | i k n h => simpa [Lit.wf, IntKind.min, IntKind.max, IntKind.signed, IntKind.bits] using h
theorem Fit.str {x : ByteArray} (h : Fit (.s x)) : x.size ≤ 134217728 := by
  obtain ⟨w, S, β, v, h⟩ := h
  cases h with | s x h => exact h
theorem Fit.list {τ : ET} {xs : List τ.T} (h : Fit (.L τ xs)) : xs.length ≤ 268435456 ∧ ∀ x ∈ xs, ∀ y ∈ τ.enc x, Fit y := by
  obtain ⟨w, S, β, v, h⟩ := h
  obtain ⟨A, cap, news, rfl, _, hr⟩ := h.readL
  refine ⟨hr.big, fun x hx y hy => ?_⟩
  obtain ⟨j, hj⟩ := List.mem_iff_getElem?.1 hx
  obtain ⟨q, hq⟩ := List.mem_iff_getElem?.1 hy
  obtain ⟨z, hz, hzr⟩ := (hr.elems j x hj).get q y hq
  exact ⟨_, _, _, _, hzr.1⟩
theorem Fit.of_u {w : World} {S : Nat → Prop} {β : Beta} {c : C} {v : Value} (h : RepV w S β (.u (.c c)) v) : Fit c := ⟨_, _, _, _, h.cell⟩
theorem Fit.of_agg {w : World} {S : Nat → Prop} {β : Beta} {cs : List C} {v : Value} (h : RepV w S β (.u (.agg cs)) v) : ∀ c ∈ cs, Fit c := by
  cases h with | u h => cases h with | agg h =>
    intro c hc
    obtain ⟨q, hq⟩ := List.mem_iff_getElem?.1 hc
    obtain ⟨z, hz, hzr⟩ := h.get q c hq
    exact ⟨_, _, _, _, hzr.1⟩
theorem NSFit.cell {ns : NS} (h : NSFit ns) (t : Nat) {c : C} (hc : assoc ns.env t = .u (.c c)) : Fit c := by
  obtain ⟨a, w, S, F, β, h⟩ := h
  have := h.env t
  rw [show ns.as.env t = assoc ns.env t from rfl, hc] at this
  exact Fit.of_u this
theorem NSFit.agg {ns : NS} (h : NSFit ns) (t : Nat) {cs : List C} (hc : assoc ns.env t = .u (.agg cs)) : ∀ c ∈ cs, Fit c := by
  obtain ⟨a, w, S, F, β, h⟩ := h
  have := h.env t
  rw [show ns.as.env t = assoc ns.env t from rfl, hc] at this
  exact Fit.of_agg this
theorem Inv.row_fit {w : World} {S F : Nat → Prop} {β : Beta} {σ : Store} (h : Inv w S F β σ) {id : Nat} {τ : ET} {xs : List τ.T} (ho : σ id = some (.row τ xs)) : xs.length ≤ 268435456 ∧ ∀ x ∈ xs, ∀ y ∈ τ.enc x, Fit y := by
  obtain ⟨l, hl, hr⟩ := h.obj _ _ ho
  obtain ⟨news, hr, _⟩ := row_readL hr
  refine ⟨hr.big, fun x hx y hy => ?_⟩
  obtain ⟨j, hj⟩ := List.mem_iff_getElem?.1 hx
  obtain ⟨q, hq⟩ := List.mem_iff_getElem?.1 hy
  obtain ⟨z, hz, hzr⟩ := (hr.elems j x hj).get q y hq
  exact ⟨_, _, _, _, hzr.1⟩
theorem Inv.froz_fit {w : World} {S F : Nat → Prop} {β : Beta} {σ : Store} (h : Inv w S F β σ) {id : Nat} {τ : ET} {xs : List τ.T} (ho : σ id = some (.froz τ xs)) : Fit (.L τ xs) := by
  obtain ⟨l, hl, hr⟩ := h.obj _ _ ho
  exact ⟨_, _, _, _, (froz_rep hr).2⟩
theorem Inv.cells_fit {w : World} {S F : Nat → Prop} {β : Beta} {σ : Store} (h : Inv w S F β σ) {id : Nat} {cs : List C} (ho : σ id = some (.cells cs)) : ∀ c ∈ cs, Fit c := by
  obtain ⟨l, hl, hr⟩ := h.obj _ _ ho
  cases hr with | cells b c e h1 h2 h3 h4 h5 =>
    intro c hc
    obtain ⟨q, hq⟩ := List.mem_iff_getElem?.1 hc
    obtain ⟨z, hz, hzr⟩ := h5.get q c hq
    exact ⟨_, _, _, _, hzr.1⟩
theorem NSFit.row {ns : NS} (h : NSFit ns) (id : Nat) {τ : ET} {xs : List τ.T} (ho : assocO ns.obj id = some (.row τ xs)) : xs.length ≤ 268435456 ∧ ∀ x ∈ xs, ∀ y ∈ τ.enc x, Fit y := by
  obtain ⟨a, w, S, F, β, h⟩ := h; exact h.inv.row_fit ho
theorem NSFit.cells {ns : NS} (h : NSFit ns) (id : Nat) {cs : List C} (ho : assocO ns.obj id = some (.cells cs)) : ∀ c ∈ cs, Fit c := by
  obtain ⟨a, w, S, F, β, h⟩ := h; exact h.inv.cells_fit ho
theorem ArgsFit.arg {a : List V} {os : List (Nat × AObj)} (h : ArgsFit a os) (j : Nat) {c : C} (hc : a[j]? = some (.u (.c c))) : Fit c := by
  obtain ⟨w, S, F, β, vals, h1, h2⟩ := h
  obtain ⟨v, _, hv⟩ := h2.get j _ hc
  exact Fit.of_u hv
theorem ArgsFit.agg {a : List V} {os : List (Nat × AObj)} (h : ArgsFit a os) (j : Nat) {cs : List C} (hc : a[j]? = some (.u (.agg cs))) : ∀ c ∈ cs, Fit c := by
  obtain ⟨w, S, F, β, vals, h1, h2⟩ := h
  obtain ⟨v, _, hv⟩ := h2.get j _ hc
  exact Fit.of_agg hv
theorem ArgsFit.row {a : List V} {os : List (Nat × AObj)} (h : ArgsFit a os) (id : Nat) {τ : ET} {xs : List τ.T} (ho : assocO os id = some (.row τ xs)) : xs.length ≤ 268435456 ∧ ∀ x ∈ xs, ∀ y ∈ τ.enc x, Fit y := by
  obtain ⟨w, S, F, β, vals, h1, h2⟩ := h; exact h1.row_fit ho
theorem ArgsFit.cells {a : List V} {os : List (Nat × AObj)} (h : ArgsFit a os) (id : Nat) {cs : List C} (ho : assocO os id = some (.cells cs)) : ∀ c ∈ cs, Fit c := by
  obtain ⟨w, S, F, β, vals, h1, h2⟩ := h; exact h1.cells_fit ho

section
variable {P : Program} (hm : P.follows .mixedOrders = true) {T : Nat → TD} (hT : TOK P T)
include hm hT
/-- A function's law, out of its text. -/
theorem fn_law {ft : FT} (hf : ft.ok P) {N d : Nat} {g : FuncId} {fn : Func} (hfn : P.funcs[g]? = some fn) {hl : HintL} {ls : LLs} {os : List (Nat × AObj)} (hls : LawsOK P os.length fn ls) {M : Nat} {args : List V} {v : V} {os' : List (Nat × AObj)}
    (h : ArgsFit args os → fnN (R := V × List (Nat × AObj)) ifK T (callsK ifK T ft N d) (hintR os.length hl) (lhK ifK T (callsK ifK T ft N d) (hintR os.length hl) ls M) fn args os (fun v os => some (v, os)) = some (v, os')) :
    FnOK P os.length g args (assocO os) v (assocO os') := by
  by_cases hfit : ArgsFit args os
  · have h := h hfit
    unfold fnN at h
    have hC : CHOK P (callsK (R := V × List (Nat × AObj)) ifK T ft N d) := callsK_ok hm hT hf N d
    obtain ⟨v1, σ1, h1, h2⟩ := fnK_ok hm hT hC (hintR_ok os.length hl) hfn (fun c hc => lhK_ok hm hT hC (hintR_ok os.length hl) M c 0 (fun b x e hx he => hls c hc b x e hx he)) h
    unfold normK at h2
    simp only at h2
    split at h2
    · rename_i os2 hok hos
      simp only [Option.some.injEq, Prod.mk.injEq] at h2
      obtain ⟨rfl, rfl⟩ := h2
      exact h1.norm hok hos
    · simp at h2
  · intro w S F β vals hi hv
    exact (hfit ⟨w, S, F, β, vals, hi, hv⟩).elim
/-- A loop's law, out of its rounds. -/
theorem loop_law {ft : FT} (hf : ft.ok P) {N d : Nat} {n : Nat} {hl : HintL} {ls : LLs} {M : Nat} {b : Nat} {x : Code} (hls : ∀ b' z e, (b', z) ∈ loopsIn b x → llGet ls b' = some e → LLok P n z e) {ns ns' : NS} {o : Out}
    (h : NSFit ns → ∃ K, roundsW (R := Out × NS) ifK T (callsK ifK T ft N d) (hintR n hl) (lhK ifK T (callsK ifK T ft N d) (hintR n hl) ls M) K b x ns (fun o s => some (o, s)) = some (o, ns')) :
    RoundsOK P n x ns.as o ns'.as := by
  by_cases hfit : NSFit ns
  · obtain ⟨K, h⟩ := h hfit
    have hC : CHOK P (callsK (R := Out × NS) ifK T ft N d) := callsK_ok hm hT hf N d
    obtain ⟨o1, ns1, h1, h3⟩ := roundsW_ok hm hT hC (hintR_ok n hl) (lhK_ok hm hT hC (hintR_ok n hl) M x b hls) K ns _ _ h
    simp only [Option.some.injEq, Prod.mk.injEq] at h3
    obtain ⟨rfl, rfl⟩ := h3
    exact h1
  · exact ⟨0, fun a w S F β Q hs hQ => (hfit ⟨a, w, S, F, β, hs⟩).elim⟩
end
end Go.Tt
