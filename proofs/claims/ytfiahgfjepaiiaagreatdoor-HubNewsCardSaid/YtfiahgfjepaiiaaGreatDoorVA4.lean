import Derived.Test.YtfiahgfjepaiiaaGreatDoorVA3
set_option linter.unusedVariables false
set_option linter.unusedSimpArgs false
namespace Go.Tt

/-! ### Types: the table against the program -/
def aggD : TypeDesc → Bool
  | .struct _ | .array _ _ => true
  | _ => false
def zok : Value → C → Bool
  | .bool a, .b b => a == b
  | .int k a, .i k' b => decide (k = k') && decide (a = b) && litOk k a
  | .string a, .s b => decide (a.size = 0) && decide (b.size = 0)
  | .slice none 0 0, .nl => true
  | .pointer none, .pn => true
  | .map none, .mn => true
  | .nilFunc, .fnil => true
  | .nilIface, .inil => true
  | _, _ => false
def zoks : List Value → List C → Bool
  | [], [] => true
  | v :: vs, c :: cs => zok v c && zoks vs cs
  | _, _ => false
def zokU : Value → U → Bool
  | .agg vs, .agg cs => zoks vs.toList cs
  | v, .c c => zok v c
  | _, _ => false
def kindOk : TypeDesc → C → Bool
  | d, .s _ => match d with | .string => true | _ => false
  | d, .b _ => match d with | .bool => true | _ => false
  | d, .i k _ => match d with | .int k' => decide (k = k') | _ => false
  | d, .pn => match d with | .pointer _ => true | _ => false
  | d, .fnil => match d with | .func _ _ _ => true | _ => false
  | _, _ => true
def flatOk (P : Program) : List Field → Nat → List C → Bool
  | [], _, [] => true
  | f :: fs, n, c :: cs => decide (f.name ≠ "_") && decide (f.offset = n) && (match P.underlying f.type with | some d => kindOk d c && !aggD d | none => false) && flatOk P fs (n + 1) cs
  | _, _, _ => false
def chkT (P : Program) (t : Nat) : TD → Bool
  | .none => true
  | .scalar z => match P.info? t, P.underlying t with
    | some i, some d => decide (i.size = 1) && (match i.zero with | some v => zok v z | none => false) && !aggD d && kindOk d z
    | _, _ => false
  | .struct offs z => match P.info? t, P.underlying t with
    | some i, some (.struct fs) => decide (i.size = z.length) && (match i.zero with | some (.agg vs) => zoks vs.toList z | _ => false) && decide (offs = fs.toList.map (·.offset)) && decide (fs.toList.map (fun f => f.offset + ((P.info? f.type).map (·.size)).getD 0) = offEnd offs z.length) && (fs.toList.all fun f => match P.info? f.type with | some j => decide (j.size ≠ 0) | none => false) && (!flatZ z || (decide (P.stoodInHeld t = false) && decide (P.eqGuardType P.depth t = false) && flatOk P fs.toList 0 z))
    | _, _ => false
  | .slice τ => match P.info? t, P.underlying t with
    | some i, some (.slice e) => decide (i.size = 1) && (match i.zero with | some v => zok v .nl | none => false) && (match P.info? e with | some j => decide (j.size = τ.size) && decide (j.bytes ≤ 256) && decide (0 < j.bytes) && (match j.zero with | some z => decide (z.cells.size = j.size) | none => false) | none => false)
    | _, _ => false
  | .map τ => match P.info? t, P.underlying t with
    | some i, some (.map k e) => decide (i.size = 1) && (match i.zero with | some v => zok v .mn | none => false) && (match P.underlying k with | some .string => true | _ => false)
        && (match P.info? e with | some j => (match j.zero with | some v => zokU v (encU τ τ.zero) | none => false) | none => false)
    | _, _ => false
def TOK (P : Program) (T : Nat → TD) : Prop := ∀ t, chkT P t (T t) = true

theorem size0 {a : ByteArray} (h : a.size = 0) : a = ⟨#[]⟩ := by
  cases a with | mk d => simp [ByteArray.size] at h; simp [h]
theorem zok_rc {v : Value} {c : C} (h : zok v c = true) (w : World) (S : Nat → Prop) (β : Beta) : RC w S β c v := by
  unfold zok at h
  split at h
  · simp at h; subst h; exact ⟨.b _, rfl⟩
  · simp at h; obtain ⟨⟨rfl, rfl⟩, h⟩ := h; exact ⟨.i _ _ (litOk_wf h), rfl⟩
  · rename_i a b; simp at h; obtain ⟨rfl, rfl⟩ := h; exact ⟨.s _ (by decide), rfl⟩
  · exact ⟨.nl, rfl⟩
  · exact ⟨.pn, rfl⟩
  · exact ⟨.mn, rfl⟩
  · exact ⟨.fnil, rfl⟩
  · exact ⟨.inil, rfl⟩
  · simp at h
theorem zoks_rc (w : World) (S : Nat → Prop) (β : Beta) : ∀ {vs : List Value} {cs : List C}, zoks vs cs = true → All2 (RC w S β) cs vs
  | [], [], _ => .nil
  | [], _ :: _, h => by simp [zoks] at h
  | _ :: _, [], h => by simp [zoks] at h
  | v :: vs, c :: cs, h => by
    simp [zoks] at h
    exact .cons (zok_rc h.1 w S β) (zoks_rc w S β h.2)

/-- What the table says of a type's variables. -/
structure TVar (P : Program) (t : Nat) (d : TD) : Prop where
  info : ∃ i, P.info? t = some i ∧ i.size = d.size
  agg : ∃ u, P.underlying t = some u ∧ aggD u = d.isAgg
theorem chk_scalar {P : Program} {t : Nat} {z : C} (h : chkT P t (.scalar z) = true) : ∃ i d v, P.info? t = some i ∧ P.underlying t = some d ∧ i.size = 1 ∧ i.zero = some v ∧ zok v z = true ∧ aggD d = false ∧ kindOk d z = true := by
  simp only [chkT] at h
  cases h1 : P.info? t with
  | none => simp [h1] at h
  | some i => cases h2 : P.underlying t with
    | none => simp [h1, h2] at h
    | some d =>
      simp only [h1, h2, Bool.and_eq_true, decide_eq_true_eq] at h
      cases h3 : i.zero with
      | none => simp [h3] at h
      | some v => exact ⟨i, d, v, rfl, rfl, h.1.1.1, h3, by simpa [h3] using h.1.1.2, by have := h.1.2; simpa using this, h.2⟩
theorem chk_struct {P : Program} {t : Nat} {offs : List Nat} {z : List C} (h : chkT P t (.struct offs z) = true) : ∃ i fs vs, P.info? t = some i ∧ P.underlying t = some (.struct fs) ∧ i.size = z.length ∧ i.zero = some (.agg vs) ∧ zoks vs.toList z = true ∧ offs = fs.toList.map (·.offset) ∧ (∀ f ∈ fs.toList, ∃ j, P.info? f.type = some j ∧ j.size ≠ 0) ∧
    fs.toList.map (fun f => f.offset + ((P.info? f.type).map (·.size)).getD 0) = offEnd offs z.length := by
  simp only [chkT] at h
  split at h
  · rename_i i fs h1 h2
    simp only [Bool.and_eq_true, decide_eq_true_eq, List.all_eq_true] at h
    obtain ⟨⟨⟨⟨⟨c1, c2⟩, c3⟩, c5⟩, c4⟩, _⟩ := h
    split at c2
    · rename_i vs hv
      refine ⟨i, fs, vs, h1, h2, c1, hv, c2, c3, fun f hf => ?_, c5⟩
      have := c4 f hf
      split at this
      · rename_i j hj; exact ⟨j, hj, by simpa using this⟩
      · simp at this
    · simp at c2
  · simp at h
theorem chk_flat {P : Program} {t : Nat} {offs : List Nat} {z : List C} (h : chkT P t (.struct offs z) = true) (hz : flatZ z = true) : ∃ fs, P.underlying t = some (.struct fs) ∧ P.stoodInHeld t = false ∧ P.eqGuardType P.depth t = false ∧ flatOk P fs.toList 0 z = true := by
  simp only [chkT] at h
  split at h
  · rename_i i fs h1 h2
    rw [Bool.and_eq_true] at h
    have h3 := h.2
    rw [hz] at h3
    simp only [Bool.not_true, Bool.false_or, Bool.and_eq_true, decide_eq_true_eq] at h3
    exact ⟨fs, h2, h3.1.1, h3.1.2, h3.2⟩
  · simp at h
theorem chk_map {P : Program} {t : Nat} {τ : ET} (h : chkT P t (.map τ) = true) : ∃ i k e j v z, P.info? t = some i ∧ P.underlying t = some (.map k e) ∧ i.size = 1 ∧ i.zero = some v ∧ zok v .mn = true ∧ P.underlying k = some .string ∧ P.info? e = some j ∧ j.zero = some z ∧ zokU z (encU τ τ.zero) = true := by
  simp only [chkT] at h
  split at h
  · rename_i i k e h1 h2
    simp only [Bool.and_eq_true, decide_eq_true_eq] at h
    obtain ⟨⟨⟨c1, c2⟩, c3⟩, c4⟩ := h
    split at c2
    · rename_i v hv
      split at c3
      · rename_i hk
        split at c4
        · rename_i j hj
          split at c4
          · rename_i z hz
            exact ⟨i, k, e, j, v, z, h1, h2, c1, hv, c2, hk, hj, hz, c4⟩
          · simp at c4
        · simp at c4
      · simp at c3
    · simp at c2
  · simp at h
theorem chk_slice {P : Program} {t : Nat} {τ : ET} (h : chkT P t (.slice τ) = true) : ∃ i e j v, P.info? t = some i ∧ P.underlying t = some (.slice e) ∧ i.size = 1 ∧ i.zero = some v ∧ zok v .nl = true ∧ P.info? e = some j ∧ j.size = τ.size ∧ j.bytes ≤ 256 ∧ 0 < j.bytes ∧ ∃ z, j.zero = some z ∧ z.cells.size = j.size := by
  simp only [chkT] at h
  split at h
  · rename_i i e h1 h2
    simp only [Bool.and_eq_true, decide_eq_true_eq] at h
    obtain ⟨⟨c1, c2⟩, c3⟩ := h
    split at c2
    · rename_i v hv
      split at c3
      · rename_i j hj
        simp only [Bool.and_eq_true, decide_eq_true_eq] at c3
        obtain ⟨c3, c4⟩ := c3
        split at c4
        · rename_i z hz
          exact ⟨i, e, j, v, h1, h2, c1, hv, c2, hj, c3.1.1, c3.1.2, c3.2, z, hz, of_decide_eq_true c4⟩
        · simp at c4
      · simp at c3
    · simp at c2
  · simp at h
theorem TOK.var {P : Program} {T : Nat → TD} (h : TOK P T) {t : Nat} (hn : (T t).zero ≠ none) : TVar P t (T t) := by
  have c := h t
  cases hd : T t with
  | none => rw [hd] at hn; simp [TD.zero] at hn
  | scalar z =>
    rw [hd] at c
    obtain ⟨i, d, v, h1, h2, h3, h4, h5, h6, _⟩ := chk_scalar c
    exact ⟨⟨i, h1, h3⟩, ⟨d, h2, h6⟩⟩
  | struct offs z =>
    rw [hd] at c
    obtain ⟨i, fs, vs, h1, h2, h3, _⟩ := chk_struct c
    exact ⟨⟨i, h1, h3⟩, ⟨_, h2, rfl⟩⟩
  | slice τ =>
    rw [hd] at c
    obtain ⟨i, e, j, v, h1, h2, h3, _⟩ := chk_slice c
    exact ⟨⟨i, h1, h3⟩, ⟨_, h2, rfl⟩⟩
  | map τ =>
    rw [hd] at c
    obtain ⟨i, k, e, j, v, z, h1, h2, h3, _⟩ := chk_map c
    exact ⟨⟨i, h1, h3⟩, ⟨_, h2, rfl⟩⟩
theorem zok_cells {v : Value} {c : C} (h : zok v c = true) (w : World) (S : Nat → Prop) (β : Beta) : All2 (RC w S β) [c] v.cells.toList := by
  have r := zok_rc h w S β
  have e : v.cells = #[v] := by have := r.2; cases v <;> simp_all [Value.cells, Value.oneCell']
  rw [e]; exact .cons r .nil
theorem TOK.zero {P : Program} {T : Nat → TD} (h : TOK P T) {t : Nat} {z : List C} (hz : (T t).zero = some z) (w : World) (S : Nat → Prop) (β : Beta) :
    ∃ i v, P.info? t = some i ∧ i.zero = some v ∧ All2 (RC w S β) z v.cells.toList := by
  have c := h t
  cases hd : T t with
  | none => rw [hd] at hz; simp [TD.zero] at hz
  | scalar z' =>
    rw [hd] at c hz
    obtain ⟨i, d, v, h1, h2, h3, h4, h5, h6, _⟩ := chk_scalar c
    simp [TD.zero] at hz; subst hz
    exact ⟨i, v, h1, h4, zok_cells h5 w S β⟩
  | struct offs z' =>
    rw [hd] at c hz
    obtain ⟨i, fs, vs, h1, h2, h3, h4, h5, _⟩ := chk_struct c
    simp [TD.zero] at hz; subst hz
    exact ⟨i, _, h1, h4, zoks_rc w S β h5⟩
  | slice τ =>
    rw [hd] at c hz
    obtain ⟨i, e, j, v, h1, h2, h3, h4, h5, _⟩ := chk_slice c
    simp [TD.zero] at hz; subst hz
    exact ⟨i, v, h1, h4, zok_cells h5 w S β⟩
  | map τ =>
    rw [hd] at c hz
    obtain ⟨i, k, e, j, v, z', h1, h2, h3, h4, h5, _⟩ := chk_map c
    simp [TD.zero] at hz; subst hz
    exact ⟨i, v, h1, h4, zok_cells h5 w S β⟩

/-! ### Loads and stores -/
theorem run_isAgg_of {P : Program} {t : Nat} {u : TypeDesc} (h : P.underlying t = some u) (w : World) : (isAgg t).run P w = .ok (aggD u) w := by
  simp only [isAgg, Sem.run_bind, run_underlying h, Result.andThen_ok]
  cases u <;> rfl
theorem run_sizeOf_of {P : Program} {t : Nat} {i : TypeInfo} (h : P.info? t = some i) (w : World) : (sizeOf t).run P w = .ok i.size w := by
  simp [sizeOf, typeInfo, h]
theorem run_zeroValue_of {P : Program} {t : Nat} {i : TypeInfo} {v : Value} (h : P.info? t = some i) (hv : i.zero = some v) (w : World) : (zeroValue t).run P w = .ok v w := by
  simp [zeroValue, typeInfo, h, hv]

/-- A variable that is read: its cells. -/
theorem run_loadVar_of {P : Program} {t : Nat} {d : TD} (hd : TVar P t d) (hn : d.isAgg = false → d.size = 1) {w : World} {b o : Nat} {vs : List Value} (hl : vs.length = d.size)
    (hc : ∀ q v, vs[q]? = some v → w.cell? ⟨b, o + q, none⟩ = some v) : (loadVar t ⟨b, o, none⟩).run P w = .ok (if d.isAgg = true then .agg vs.toArray else vs.getD 0 undef) w := by
  obtain ⟨i, hi, hs⟩ := hd.info
  obtain ⟨u, hu, ha⟩ := hd.agg
  have hadd : ∀ q, (⟨b, o, none⟩ : Addr).add q = ⟨b, o + q, none⟩ := fun q => by unfold Addr.add; split <;> simp_all
  simp only [loadVar, Sem.run_bind, run_isAgg_of hu, Result.andThen_ok, ha]
  cases hg : d.isAgg with
  | true =>
    simp only [if_true, Sem.run_bind, run_sizeOf_of hi, Result.andThen_ok, hs, ← hl]
    rw [run_loadCells_list (P := P) (w := w) ⟨b, o, none⟩ vs (fun j v hj => by rw [hadd]; exact hc j v hj)]
    rfl
  | false =>
    have h1 := hn hg
    obtain ⟨v, rfl⟩ : ∃ v, vs = [v] := by
      cases vs with
      | nil => simp at hl; omega
      | cons v vs => cases vs with
        | nil => exact ⟨v, rfl⟩
        | cons _ _ => simp at hl; omega
    have := hc 0 v rfl
    simp only [Nat.add_zero] at this
    simp [this]
theorem run_storeVar_of {P : Program} {t : Nat} {d : TD} (hd : TVar P t d) {w : World} {b o : Nat} {cur : Array Value} {e : TypeId} (hb : w.heap[b]? = some (.cells cur e (0, 0))) {v : Value} (hl : v.cells.size = d.size) (ho : o + d.size ≤ cur.size)
    (h1 : ∀ x ∈ v.cells.toList, x.oneCell' = true) :
    (storeVar t ⟨b, o, none⟩ v).run P w = .ok () (w.setRow b (cur.toList.take o ++ v.cells.toList ++ cur.toList.drop (o + v.cells.toList.length)).toArray) := by
  obtain ⟨i, hi, hs⟩ := hd.info
  simp only [storeVar, Sem.run_bind, run_sizeOf_of hi, Result.andThen_ok, hs, hl, ne_eq, not_true_eq_false, if_false]
  have := run_storeCells_at (P := P) b o e v.cells.toList 0 cur w hb (by simp [hl]; omega) h1
  simpa using this

theorem All2.right {α β : Type} {R : α → β → Prop} {Q : β → Prop} (h : ∀ x y, R x y → Q y) {xs : List α} {ys : List β} (a : All2 R xs ys) : ∀ y ∈ ys, Q y := by
  induction a with
  | nil => intro y hy; simp at hy
  | cons p _ ih => intro y hy; rcases List.mem_cons.1 hy with rfl | hy; exact h _ _ p; exact ih y hy
end Go.Tt
