import Derived.Test.YtfiahgfjepaiiaaGreatDoorVA14
set_option linter.unusedVariables false
set_option linter.unusedSimpArgs false
namespace Go.Tt
open Go.MapKept

/-! ### The frame's slots -/
theorem opds_ok {s : AS} {a : Act} {w : World} {S F : Nat → Prop} {β : Beta} (hs : St s a w S F β) : ∀ {xs : List Operand} {vs : List V}, opds s xs = some vs → All2 (RepV w S β) vs (xs.map a.eval)
  | [], vs, h => by simp [opds] at h; subst h; exact .nil
  | x :: xs, vs, h => by
    simp only [opds] at h
    split at h
    · rename_i v vs' h1 h2
      cases h
      exact .cons (hs.opd h1) (opds_ok hs h2)
    · simp at h
/-- What an operation does, done. -/
def Did (P : Program) (o : Oper) (e : Eff) (σ : Store) (a : Act) (w : World) (S F : Nat → Prop) (β : Beta) : Prop :=
  ∃ r w' S' β' v, (execOp a.eval o).run P w = .ok r w' ∧ (r = .value v ∨ (r = .skip ∧ v = undef)) ∧ Inv w' S' F β' (puts σ e.w) ∧ RepV w' S' β' e.v v ∧ Ext w S F w' S' ∧ (∀ id l, β id = some l → β' id = some l)
section
variable {P : Program} {o : Oper} {σ : Store} {a : Act} {w : World} {S F : Nat → Prop} {β : Beta}
theorem Did.pure (hi : Inv w S F β σ) {V : V} {v : Value} (hr : (execOp a.eval o).run P w = .ok (.value v) w) (hv : RepV w S β V v) : Did P o (.val V) σ a w S F β :=
  ⟨_, w, S, β, v, hr, .inl rfl, hi, hv, Ext.refl _ _ _, fun _ _ h => h⟩
theorem Did.pureG (hi : Inv w S F β σ) {g : Bool} {V : V} {v : Value} (hr : (execOp a.eval o).run P w = .ok (.value v) w) (hv : RepV w S β V v) : Did P o ⟨g, V, []⟩ σ a w S F β :=
  ⟨_, w, S, β, v, hr, .inl rfl, hi, hv, Ext.refl _ _ _, fun _ _ h => h⟩
theorem Ext.more {S S' : Nat → Prop} (h : ∀ b, S b → S' b) : Ext w S F w S' := ⟨rfl, rfl, rfl, Nat.le_refl _, fun _ _ => rfl, h⟩
end
theorem one {w : World} {S : Nat → Prop} {β : Beta} {v : V} {x : Value} {xs : List Value} (h : All2 (RepV w S β) [v] (x :: xs)) : RepV w S β v x := by cases h with | cons p _ => exact p
theorem arr1 {α : Type} {a : Array α} {x : α} (h : a.toList = [x]) : a = #[x] := Array.toList_inj.1 h
theorem pickG_ok {c x y r : V} (h : pickG c x y = some r) {w : World} {S : Nat → Prop} {β : Beta} {vc vx vy : Value} (hc : RepV w S β c vc) (hx : RepV w S β x vx) (hy : RepV w S β y vy) : ∃ b, vc = .bool b ∧ RepV w S β r (if b = true then vx else vy) := by
  unfold pickG at h
  split at h
  · rename_i c' x' y'
    cases h
    have e1 := hc.bool; have e2 := hx.bool; have e3 := hy.bool
    subst e1 e2 e3
    exact ⟨c', rfl, by cases c' <;> exact .u (.c (.b _))⟩
  · rename_i c' _ _ _
    have e1 := hc.bool
    subst e1
    split at h <;> cases h
    · exact ⟨true, rfl, by simpa using hx⟩
    · exact ⟨false, rfl, by simpa using hy⟩
  · simp at h
theorem ptrs_ok {w : World} {S : Nat → Prop} {β : Beta} : ∀ {vs : List V} {ps : List (Nat × Nat)} {xs : List Value}, ptrs vs = some ps → All2 (RepV w S β) vs xs → ps.map (ptrV β) = xs.map some
  | [], ps, xs, h, hv => by simp [ptrs] at h; subst h; cases hv; rfl
  | v :: vs, ps, xs, h, hv => by
    cases hv with
    | cons p q =>
      unfold ptrs at h
      split at h
      · rename_i h1; simp at h1
      · rename_i i k r e
        simp only [Option.map_eq_some_iff] at h
        obtain ⟨ps', h1, rfl⟩ := h
        cases e
        obtain ⟨l, b, hl, hb, rfl⟩ := p.ptr
        simp [ptrs_ok h1 q, ptrV, hl, hb]
      · simp at h
/-- A new object of one block, and a value that points to it. -/
theorem newObj_did {P : Program} {o : Oper} {σ : Store} {a : Act} {w : World} {S F : Nat → Prop} {β : Beta} (hi : Inv w S F β σ) {id0 : Nat} (hid : σ id0 = none) {ob : Obj} {ao : AObj} {v : Value} {V : V} (hrun : (execOp a.eval o).run P w = .ok (.value v) (w.alloc ob))
    (hob : ∀ β', (∀ id l, β id = some l → β' id = some l) → ObjRep (w.alloc ob) S F β' ⟨some w.heap.size, none, 0, 0⟩ ao) (hval : ∀ (β' : Beta) (l : ALoc), β' id0 = some l → l.blk = some w.heap.size → RepV (w.alloc ob) S β' V v) : Did P o ⟨true, V, [(id0, ao)]⟩ σ a w S F β := by
  have hm := bput_mono ⟨some w.heap.size, none, 0, 0⟩ (hi.dom _ hid)
  refine ⟨_, _, S, _, v, hrun, .inl rfl, hi.new (Grew.alloc w ob) hid (hob _ hm) (fun b hb => by simp at hb; omega), hval _ _ (bput_same _ _ _) rfl, Ext.of_grew hi (Grew.alloc w ob), hm⟩
theorem frzCs_none {id0 : Nat} : ∀ {cs cs' : List C} {ws : List (Nat × AObj)} {σ σr : Store}, Sub σr σ → frzCs σr cs = some (cs', ws) → σ id0 = none → puts σ ws id0 = none
  | [], cs', ws, σ, σr, hs, h, hj => by simp [frzCs] at h; obtain ⟨rfl, rfl⟩ := h; exact hj
  | c :: r, cs', ws, σ, σr, hs, h, hj => by
    simp only [frzCs] at h
    split at h
    · rename_i c1 w1 h1
      split at h
      · rename_i cs2 w2 h2
        cases h
        rw [puts_append]
        refine frzCs_none (hs.puts w1) h2 ?_
        unfold frzC at h1
        split at h1
        · split at h1
          · rename_i hσ
            cases h1
            simp only [puts]
            rw [sput_other]
            · exact hj
            · intro e; subst e; rw [hs _ _ hσ] at hj; simp at hj
          · cases h1; exact hj
          · simp at h1
        · cases h1; exact hj
      · simp at h
    · simp at h
theorem elems_none {id0 : Nat} {τ : ET} : ∀ {is : List Nat} {vs : List V} {n : Nat} {xs : List τ.T} {ws : List (Nat × AObj)} {σ σr : Store}, Sub σr σ → elemsG τ σr n is vs = some (xs, ws) → σ id0 = none → puts σ ws id0 = none
  | [], [], n, xs, ws, σ, σr, hs, h, hj => by simp [elemsG] at h; obtain ⟨rfl, rfl⟩ := h; exact hj
  | [], _ :: _, n, xs, ws, σ, σr, hs, h, hj => by simp [elemsG] at h
  | _ :: _, [], n, xs, ws, σ, σr, hs, h, hj => by simp [elemsG] at h
  | i :: is, v :: vs, n, xs, ws, σ, σr, hs, h, hj => by
    simp only [elemsG] at h
    split at h
    · rename_i cs w1 hcs
      simp only [Option.bind_eq_some_iff] at hcs
      obtain ⟨cs0, hcs0, hfr⟩ := hcs
      split at h
      · rename_i xs' w2 hel
        cases hin : Nat.beq i n with
        | false => rw [hin] at h; simp at h
        | true =>
          rw [hin] at h; simp only [cond_true] at h
          split at h
          · cases h
            rw [puts_append]
            exact elems_none (hs.puts w1) hel (frzCs_none hs hfr hj)
          · simp at h
      · simp at h
    · simp at h
theorem opE_ok {P : Program} {T : Nat → TD} (hT : TOK P T) {o : Oper} {id0 : Nat} {vs : List V} {σ σr : Store} {e : Eff} (h : opE T o.op id0 vs σr = some e) (hg : e.g = true) {a : Act} {w : World} {S F : Nat → Prop} {β : Beta} (hi : Inv w S F β σ) (hs : Sub σr σ) (h0 : σr id0 = none → σ id0 = none)
    (hv : All2 (RepV w S β) vs (o.op.operands.toList.map a.eval)) : Did P o e σ a w S F β := by
  have h2 : ∀ {x y : Operand} {vx vy : V}, All2 (RepV w S β) [vx, vy] ([x, y].map a.eval) → RepV w S β vx (a.eval x) ∧ RepV w S β vy (a.eval y) := by
    intro x y vx vy h; cases h with | cons p q => cases q with | cons q r => exact ⟨p, q⟩
  have h3 : ∀ {x y z : Operand} {vx vy vz : V}, All2 (RepV w S β) [vx, vy, vz] ([x, y, z].map a.eval) → RepV w S β vx (a.eval x) ∧ RepV w S β vy (a.eval y) ∧ RepV w S β vz (a.eval z) := by
    intro x y z vx vy vz h; cases h with | cons p q => cases q with | cons q r => cases r with | cons r s => exact ⟨p, q, r⟩
  have hout : ∀ {v : C} {vv : Value}, RepV w S β (.c v) vv → RepC w S β v vv := fun h => h.cell
  generalize hop : o.op = op at h hv
  unfold opE at h
  split at h
  · -- move
    cases h; exact Did.pure hi (v := a.eval _) (by simp [execOp, hop]) (one hv)
  · cases h; exact Did.pure hi (v := a.eval _) (by simp [execOp, hop]) (one hv)
  · -- pick
    simp only [Option.map_eq_some_iff] at h
    obtain ⟨r, hr, rfl⟩ := h
    obtain ⟨p, q, r'⟩ := h3 hv
    obtain ⟨b, e1, e2⟩ := pickG_ok hr p q r'
    exact Did.pure hi (by simp [execOp, hop, e1, asBool]) e2
  · -- a row against nil
    split at h
    · rename_i τ0 id τ z zs _ hσ hd
      obtain ⟨p, q⟩ := h2 hv
      have hp := p.cell
      have hq := q.cell
      generalize hx1 : a.eval _ = vx at hp
      generalize hy1 : a.eval _ = vy at hq
      cases hq
      cases hp with
      | row _ _ l hl =>
        obtain ⟨l', hl', hr⟩ := hi.obj _ _ (hs _ _ hσ)
        rw [hl] at hl'; obtain rfl := Option.some.inj hl'
        obtain ⟨e, hu⟩ := isSlc_under (t := _) hT (by rw [hd]; rfl)
        obtain ⟨b, hA⟩ : ∃ b, l.A = some b := by
          cases hr with
          | row b c e hl hA => exact ⟨_, hA⟩
        split at h
        · cases h
          exact Did.pure hi (v := .bool false) (by simp [execOp, hop, hx1, hy1, hA, binOp, Op.equal, Op.maxDepth, run_equalIn_slice_nil w _ _ e _ _ _ hu, eqGuard]) (.u (.c (.b _)))
        · cases h
          exact Did.pure hi (v := .bool true) (by simp [execOp, hop, hx1, hy1, hA, binOp, Op.equal, Op.maxDepth, run_equalIn_slice_nil w _ _ e _ _ _ hu, eqGuard]) (.u (.c (.b _)))
        · simp at h
    · simp at h
  · -- binOp
    simp only [Option.map_eq_some_iff] at h
    obtain ⟨⟨g, r⟩, hr, rfl⟩ := h
    simp only at hg; subst hg
    obtain ⟨p, q⟩ := h2 hv
    obtain ⟨v, e1, e2, e3⟩ := binG_ok (P := P) hT hr p.cell q.cell
    exact Did.pureG hi (v := v) (by simp [execOp, hop, e1, e3]) (.u (.c e2))
  · -- binOp of structs
    simp only [Option.map_eq_some_iff] at h
    obtain ⟨r, hr, rfl⟩ := h
    obtain ⟨p, q⟩ := h2 hv
    generalize hx1 : a.eval _ = vx at p
    generalize hy1 : a.eval _ = vy at q
    cases p with | u p => cases p with | agg p =>
    cases q with | u q => cases q with | agg q =>
    obtain ⟨e1, e3⟩ := aggCmp_ok (P := P) hT hr p q
    exact Did.pure hi (v := .bool r) (by simp [execOp, hop, hx1, hy1, e1, e3]) (.u (.c (.b _)))
  · -- unOp
    split at h
    · cases h
      have := (one hv).bool
      exact Did.pure hi (by simp [execOp, hop, this, Op.unary]) (.u (.c (.b _)))
    · cases h
      have := (one hv).int.1
      exact Did.pure hi (v := .int _ _) (by simp [execOp, hop, this, Op.unary, Op.intArith]) (.u (.c (.i _ _ (wrap_wf' _ _))))
    · simp at h
  · -- alloc
    rename_i t
    split at h
    · rename_i z hid hz
      cases h
      have hid := h0 hid
      obtain ⟨i, v, h1, h2', h3'⟩ := hT.zero hz w S β
      have hn := hi.dom _ hid
      have hrun : (execOp a.eval o).run P w = .ok (.value (.pointer (some ⟨w.heap.size, 0, none⟩))) (w.alloc (.cells v.cells t)) := by
        simp [execOp, hop, Instr.alloc, run_zeroValue_of h1 h2', newVar, newRow]
      exact newObj_did hi hid hrun (fun β' hβ => .cells w.heap.size v.cells _ rfl (fun h => by have := hi.sS _ h; omega) (fun h => by have := (hi.sF _ h).1; omega) (heap_new w _) (h3'.imp fun _ _ h => h.mono (fun b hb => (Grew.alloc w _).keep b (hi.sS b hb)) (fun _ h => h) hβ))
        (fun β' l hl hb => .u (.c (.p _ 0 l w.heap.size hl hb)))
    · simp at h
  · -- box
    rename_i t x v
    split at h
    · rename_i cs z hid hcs hz
      have hid := h0 hid
      cases hb : Nat.beq cs.length (T t).size && nobot cs with
      | false => rw [hb] at h; simp at h
      | true =>
        rw [hb] at h; simp only [cond_true, Option.some.injEq] at h; subst h
        simp only [Bool.and_eq_true] at hb
        have hc := cells_ok (one hv) hcs hb.2
        have hrun : (execOp a.eval o).run P w = .ok (.value (.pointer (some ⟨w.heap.size, 0, none⟩))) (w.alloc (.cells (a.eval x).cells t)) := by
          simp [execOp, hop, Instr.box, newVar, newRow]
        exact newObj_did hi hid hrun (fun β' hβ => .cells w.heap.size _ _ rfl (fun h => by have := hi.sS _ h; omega) (fun h => by have := (hi.sF _ h).1; omega) (heap_new w _) (hc.imp fun _ _ h => h.mono (fun b hb => (Grew.alloc w _).keep b (hi.sS b hb)) (fun _ h => h) hβ))
          (fun β' l hl hb => .u (.c (.p _ 0 l w.heap.size hl hb)))
    · simp at h
  · -- build
    rename_i t ps
    split at h
    · rename_i offs z ht
      simp only [Option.map_eq_some_iff] at h
      obtain ⟨cs, hcs, rfl⟩ := h
      have hv' : All2 (RepV w S β) vs (ps.toList.map fun p => a.eval p.2) := by
        simpa [Op.operands, List.map_map, Function.comp_def] using hv
      obtain ⟨y, hy, hy2⟩ := build_ok (P := P) hT ht (ps := ps) hcs (ρ := a.eval) hv'
      exact Did.pure hi (v := y) (by simp [execOp, hop, hy]) hy2
    · simp at h
  · -- buildSlice
    rename_i t n ps
    split at h
    · rename_i τ ht hid
      have hid := h0 hid
      have hv' : All2 (RepV w S β) vs (ps.toList.map fun p => a.eval p.2) := by
        simpa [Op.operands, List.map_map, Function.comp_def] using hv
      cases hb : Nat.beq n ps.size && Nat.ble n 1000 with
      | false => rw [hb] at h; simp at h
      | true =>
        rw [hb] at h; simp only [cond_true] at h
        simp only [Bool.and_eq_true] at hb
        have hn := Nat.eq_of_beq_eq_true hb.1
        have hn2 := Nat.le_of_ble_eq_true hb.2
        subst hn
        split at h
        · rename_i w1 hel
          cases h
          obtain ⟨c, e, S', q1, q2, q3, q4, q5, q6⟩ := buildSlice_ok (P := P) hT ht hn2 hi hs hel (ρ := a.eval) hv'
          have g := Grew.alloc w (.cells c e)
          refine ⟨_, _, S', β, .slice (some ⟨w.heap.size, 0, none⟩) 0 0, by simp [execOp, hop, q1], .inl rfl, q4.grew g, .u (.c (.zc τ _)), ?_, fun _ _ h => h⟩
          have := Ext.of_grew q4 g
          exact ⟨this.os, this.tape, this.output, this.size, fun b hb => this.keep b (hb.imp (q5 b) fun h => h), q5⟩
        · rename_i xs w1 hne hel
          cases h
          obtain ⟨c, e, S', q1, q2, q3, q4, q5, q6⟩ := buildSlice_ok (P := P) hT ht hn2 hi hs hel (ρ := a.eval) hv'
          have g := Grew.alloc w (.cells c e)
          have hid2 : puts σ w1 id0 = none := elems_none hs hel hid
          have := q4.newRow hid2 (xs := xs) e q2 (Nat.le_refl _) (by simp only [big]; omega) (by simp only [maxLen]; omega) q6
          refine ⟨.value (.slice (some ⟨w.heap.size, 0, none⟩) xs.length xs.length), w.alloc (.cells c e), S', bput β id0 ⟨some w.heap.size, some ⟨w.heap.size, 0, none⟩, xs.length, xs.length⟩, .slice (some ⟨w.heap.size, 0, none⟩) xs.length xs.length, by simp [execOp, hop, q1], .inl rfl, by rw [puts_append]; exact this, .u (.c (.row τ id0 _ (bput_same _ _ _))), ?_, bput_mono _ (hi.dom _ hid)⟩
          have := Ext.of_grew q4 g
          exact ⟨this.os, this.tape, this.output, this.size, fun b hb => this.keep b (hb.imp (q5 b) fun h => h), q5⟩
        · simp at h
    · simp at h
  · -- load
    simp only [Option.map_eq_some_iff] at h
    obtain ⟨r, hr, rfl⟩ := h
    obtain ⟨y, hy, hy2⟩ := loadG_ok (P := P) hT hi hs (one hv) hr
    exact Did.pure hi (by simp [execOp, hop, hy]) hy2
  · -- store
    simp only [Option.map_eq_some_iff] at h
    obtain ⟨r, hr, rfl⟩ := h
    obtain ⟨p, q⟩ := h2 hv
    obtain ⟨w', S', hrun, hi', hx⟩ := storeG_ok (P := P) hT hi hs p q hr
    exact ⟨.skip, w', S', β, undef, by simp [execOp, hop, hrun], .inr ⟨rfl, rfl⟩, hi', RepV.bot _ _ _ _, hx, fun _ _ h => h⟩
  · -- nilCheck
    have hp := one hv
    split at h
    · cases h
      obtain ⟨l, b, hl, hb, e1⟩ := hp.ptr
      exact Did.pure hi (v := a.eval _) (by simp [execOp, hop, e1]) hp
    · cases h
      have hc := hp.cell
      generalize he : a.eval _ = x at hc hp
      cases hc
      exact Did.pure hi (v := _) (by simp [execOp, hop, he]) hp
    · cases h
      have hc := hp.cell
      generalize he : a.eval _ = x at hc hp
      cases hc
      exact Did.pure hi (v := _) (by simp [execOp, hop, he]) hp
    · cases h
      have hc := hp.cell
      generalize he : a.eval _ = x at hc hp
      cases hc
      exact Did.pure hi (v := _) (by simp [execOp, hop, he]) hp
    · simp at h
  · -- fieldAddr
    simp only [Option.map_eq_some_iff] at h
    obtain ⟨r, hr, rfl⟩ := h
    obtain ⟨y, hy, hy2⟩ := fieldG_ok (P := P) hT w (one hv) hr
    exact Did.pure hi (by simp [execOp, hop, hy]) (.u (.c hy2))
  · -- indexAddr
    simp only [Option.map_eq_some_iff] at h
    obtain ⟨⟨g, r⟩, hr, rfl⟩ := h
    simp only at hg; subst hg
    obtain ⟨p, q⟩ := h2 hv
    obtain ⟨y, hy, hy2⟩ := indexG_ok (P := P) hT hi hs p q hr
    exact Did.pureG hi (by simp [execOp, hop, hy]) (.u (.c hy2))
  · -- index
    rename_i x k n
    cases hd : isStr (T _) with
    | false => rw [hd] at h; simp at h
    | true =>
      rw [hd] at h; simp only [cond_true, Option.some.injEq] at h; subst h
      obtain ⟨p, q⟩ := h2 hv
      obtain ⟨e1, hsz⟩ := p.str
      obtain ⟨e2, hwf⟩ := q.int
      have hb := inb_of hg
      simp only [slen] at hb
      have hlt : n.toNat < x.size := by omega
      have hget : x[n.toNat]? = some x[n.toNat] := ByteArray.getElem?_lt' x _ hlt
      refine Did.pureG hi (v := .int .u8 (x[n.toNat]).toNat) ?_ (.u (.c ?_))
      · simp [execOp, hop, e1, e2, Instr.index, asIntOf, run_underlying (isStr_under hT hd), hb.1, hget]
      · have : sget x n = (x[n.toNat]).toNat := by simp [sget, hget]
        rw [this]
        refine .i _ _ ?_
        have := (x[n.toNat]).toNat_lt
        simp [Lit.wf, IntKind.min, IntKind.max, IntKind.signed, IntKind.bits]; omega
  · -- slice
    rename_i t x0 lo hi' mx x vs2
    split at h
    · have hv2 : All2 (RepV w S β) (x :: vs2) (a.eval x0 :: ((lo.map a.eval).toList ++ (hi'.map a.eval).toList)) := by
        have : (Op.slice t x0 lo hi' none).operands.toList.map a.eval = a.eval x0 :: ((lo.map a.eval).toList ++ (hi'.map a.eval).toList) := by
          cases lo <;> cases hi' <;> simp [Op.operands]
        rw [← this]; exact hv
      cases hv2 with
      | cons p q =>
        obtain ⟨y, S', q1, q2, q3, q4⟩ := sliceG_ok (P := P) hT (t := t) hi hs (lo := lo.map a.eval) (hi' := hi'.map a.eval) (by simpa using h) hg p q
        exact ⟨.value y, w, S', β, y, by simp [execOp, hop, q1], .inl rfl, q2, q4, Ext.more q3, fun _ _ h => h⟩
    · simp at h
  · -- convert
    rename_i t t' x k n
    split at h
    case h_2 => simp at h
    rename_i zz hzz
    have htv := hT.var (t := t) (by rw [hzz]; simp)
    obtain ⟨dd, hdd, _⟩ := htv.agg
    simp only [Option.map_eq_some_iff] at h
    obtain ⟨k', hk, rfl⟩ := h
    have e1 := (one hv).int.1
    have hu : P.underlying t' = some (.int k') := by
      have c := hT t'
      unfold isInt at hk
      split at hk
      · rename_i hd
        cases hk
        rw [hd] at c
        obtain ⟨i, d, v, h1, h2, h3, h4, h5, h6, h7⟩ := chk_scalar c
        cases d <;> simp [kindOk] at h7
        subst h7; exact h2
      · simp at hk
    refine Did.pure hi (v := .int k' (k'.wrap n)) ?_ (.u (.c (.i _ _ (wrap_wf' _ _))))
    have hconv : ∀ d, P.underlying t = some d → (convert t t' (.int k n)).run P w = .ok (.int k' (k'.wrap n)) w := by
      intro d hd
      simp only [convert, Sem.run_bind, run_underlying hd, run_underlying hu, Result.andThen_ok]
      cases d <;> simp [Conv.intToInt]
    simp [execOp, hop, e1, hconv dd hdd]
  · -- convert string
    rename_i t t' x0 x
    split at h
    case h_2 => simp at h
    rename_i zz hzz
    have htv := hT.var (t := t) (by rw [hzz]; simp)
    obtain ⟨dd, hdd, _⟩ := htv.agg
    cases hd : isStr (T t') with
    | false => rw [hd] at h; simp at h
    | true =>
      rw [hd] at h; simp only [cond_true, Option.some.injEq] at h; subst h
      obtain ⟨e1, hsz⟩ := (one hv).str
      have hu := isStr_under hT hd
      refine Did.pure hi (v := .string x) ?_ (.u (.c (.s _ hsz)))
      have hconv : ∀ d, P.underlying t = some d → (convert t t' (.string x)).run P w = .ok (.string x) w := by
        intro d hd
        simp only [convert, Sem.run_bind, run_underlying hd, run_underlying hu, Result.andThen_ok]
        cases d <;> simp
      simp [execOp, hop, e1, hconv dd hdd]
  · -- makeFunc
    rename_i f fa fb
    split at h
    · rename_i pa pb ha hb
      cases h
      have hv' : All2 (RepV w S β) vs (fa.toList.map a.eval ++ fb.toList.map a.eval) := by
        have : (Op.makeFunc (.func f) fa fb).operands.toList.map a.eval = fa.toList.map a.eval ++ fb.toList.map a.eval := by simp [Op.operands]
        rw [← this]; exact hv
      have k1 := ptrs_ok ha (hv'.take fa.size)
      have k2 := ptrs_ok hb (hv'.drop fa.size)
      have e1 : (fa.toList.map a.eval ++ fb.toList.map a.eval).take fa.size = fa.toList.map a.eval := by rw [List.take_append_of_le_length (by simp)]; apply List.take_of_length_le; simp
      have e2 : (fa.toList.map a.eval ++ fb.toList.map a.eval).drop fa.size = fb.toList.map a.eval := by rw [List.drop_append_of_le_length (by simp)]; rw [List.drop_eq_nil_of_le (by simp)]; rfl
      rw [e1] at k1
      rw [e2] at k2
      refine Did.pure hi (v := .func (.func f) (fa.toList.map a.eval).toArray (fb.toList.map a.eval).toArray) ?_ (.u (.c (.fn f pa pb _ _ k1 k2)))
      have a1 : Array.map a.eval fa = (fa.toList.map a.eval).toArray := Array.toList_inj.1 (by simp)
      have a2 : Array.map a.eval fb = (fb.toList.map a.eval).toArray := Array.toList_inj.1 (by simp)
      simp only [execOp, hop, Instr.makeFunc, a1, a2]
      simp
    · simp at h
  · -- extract
    rename_i t ix us
    simp only [Option.map_eq_some_iff] at h
    obtain ⟨u, hu, rfl⟩ := h
    obtain ⟨vs', e, hr⟩ := (one hv).tup_
    obtain ⟨y, hy, hr⟩ := hr.get _ _ hu
    exact Did.pure hi (v := y) (by
      have hy' : vs'[ix]? = some y := by simpa using hy
      simp [execOp, hop, e, Instr.extract, hy']) (.u hr)
  · -- extract of next
    rename_i t ix c i r
    have hp := one hv
    generalize he : a.eval t = x at hp
    cases hp with
    | nx _ _ _ hw =>
      split at h
      · cases h
        refine Did.pure hi (v := .bool c) ?_ (.u (.c (.b _)))
        cases c <;> simp [execOp, hop, he, Instr.extract]
      · cases h
        simp only at hg
        subst hg
        refine Did.pureG hi (v := .int .i64 i) ?_ (.u (.c (.i _ _ (hw rfl).1)))
        simp [execOp, hop, he, Instr.extract]
      · cases h
        simp only at hg
        subst hg
        refine Did.pureG hi (v := .int .i32 r) ?_ (.u (.c (.i _ _ (hw rfl).2)))
        simp [execOp, hop, he, Instr.extract]
      · simp at h
  · -- makeMap
    rename_i t r
    split at h
    · rename_i τ ht _ hid
      cases h
      have hid := h0 hid
      have hrun : (execOp a.eval o).run P w = .ok (.value (.map (some w.heap.size))) (w.alloc (.map #[] 0)) := by
        simp [execOp, hop, Instr.makeMap]
      exact newObj_did hi hid hrun (fun β' hβ => .mp w.heap.size #[] 0 rfl (fun h => by have := hi.sS _ h; omega) (fun h => by have := (hi.sF _ h).1; omega) (heap_new w _) (by simp) .nil)
        (fun β' l hl hb => .u (.c (.m _ l w.heap.size hl hb)))
    · simp at h
  · -- insert
    rename_i t m k x vm vk vx
    cases hd : isMp (T t) with
    | false => rw [hd] at h; simp at h
    | true =>
      rw [hd] at h; simp only [cond_true] at h
      obtain ⟨p, q, r⟩ := h3 hv
      obtain ⟨w', q1, q2, q3, q4⟩ := mapG_ok (P := P) hT hd hi hs h hg p q r
      exact ⟨.skip, w', S, β, undef, by simp [execOp, hop, q1], .inr ⟨rfl, rfl⟩, q2, by rw [q4]; exact RepV.bot _ _ _ _, q3, fun _ _ h => h⟩
  · -- mapUpdate
    rename_i t m k x vm vk vx
    cases hd : isMp (T t) with
    | false => rw [hd] at h; simp at h
    | true =>
      rw [hd] at h; simp only [cond_true] at h
      obtain ⟨p, q, r⟩ := h3 hv
      obtain ⟨w', q1, q2, q3, q4⟩ := mapG_ok (P := P) hT hd hi hs h hg p q r
      exact ⟨.skip, w', S, β, undef, by simp [execOp, hop, q1], .inr ⟨rfl, rfl⟩, q2, by rw [q4]; exact RepV.bot _ _ _ _, q3, fun _ _ h => h⟩
  · -- lookup
    rename_i t m k ok id kk
    cases hd : isMp (T t) with
    | false => rw [hd] at h; simp at h
    | true =>
      rw [hd] at h; simp only [cond_true] at h
      obtain ⟨τm, kt, et, ji, z, ht, hu, huk, hje, hz, hzok⟩ := isMp_under hT hd
      split at h
      · rename_i τ es hσ
        have hid := hs _ _ hσ
        cases hmt : isMpT τ (T t) with
        | false => rw [hmt] at h; simp at h
        | true =>
        rw [hmt] at h; simp only [Bool.not_true, cond_false] at h
        rw [ht] at hmt
        have hττ : τm = τ := by have := isSl_eq (d := .slice τm) hmt; cases this; rfl
        subst hττ
        obtain ⟨p, q⟩ := h2 hv
        obtain ⟨e2, hks⟩ := q.str
        have hmc := p.cell
        generalize he1 : a.eval m = vm at hmc p
        cases hmc with
        | m _ l b hl hb =>
          obtain ⟨l', hl', hr⟩ := hi.obj _ _ hid
          rw [hl] at hl'; obtain rfl := Option.some.inj hl'
          cases hr with
          | mp b' arr clk k1 k2 k3 k4 hbb k5 =>
            rw [k1] at hb; obtain rfl := Option.some.inj hb
            have hck : ∀ b, (Instr.checkKey b 10000 kt (.string kk)).run P w = .ok () w := fun b => run_checkKey (P := P) (w := w) huk (k := .string kk) (by simp [IsKey]) b 9999
            have key : ∃ v, (Instr.lookup t (.map (some b')) (.string kk) ok).run P w = .ok (if ok = true then .tuple #[v, .bool (mhas τm kk es)] else v) w ∧ RepU w S β (encU τm (mgetD τm kk es)) v := by
              rcases find_ok kk τm.zero 0 k5 with ⟨q1, q2, q3, q4⟩ | ⟨j, e', m', q1, q2, q3, q4, q5, q6, q7, q8⟩
              · refine ⟨z, ?_, ?_⟩
                · cases ok <;> simp [Instr.lookup, run_underlying hu, run_getObj_mp k4, hck, run_findKey huk q1, run_zeroValue_of hje hz, q2]
                · rw [mgetD, q3]; exact zokU_rep hzok w S β
              · refine ⟨m'.val, ?_, by rw [mgetD, q7]; exact q4.2⟩
                cases ok <;> simp [Instr.lookup, run_underlying hu, run_getObj_mp k4, hck, run_findKey huk q1, q6]
            obtain ⟨v, hrun, hrep⟩ := key
            split at h
            · cases h
              simp only [if_true] at hrun
              exact Did.pure hi (v := .tuple #[v, .bool (mhas τm kk es)]) (by simp [execOp, hop, he1, e2, hrun]) (.tup (.cons hrep (.cons (.c (.b _)) .nil)))
            · cases h
              simp only [Bool.false_eq_true, if_false] at hrun
              exact Did.pure hi (v := v) (by simp [execOp, hop, he1, e2, hrun]) (.u hrep)
      · simp at h
  · -- range
    rename_i t x0 x
    split at h
    · rename_i hstr hid
      cases h
      have hid := h0 hid
      obtain ⟨e1, hsz⟩ := (one hv).str
      have hrun : (execOp a.eval o).run P w = .ok (.value (.pointer (some ⟨w.heap.size, 0, none⟩))) (w.alloc (.stringIter x 0)) := by
        simp [execOp, hop, Instr.range, e1, run_underlying (isStr_under hT hstr)]
      exact newObj_did hi hid hrun (fun β' hβ => .iter w.heap.size rfl (fun h => by have := hi.sS _ h; omega) (fun h => by have := (hi.sF _ h).1; omega) (heap_new w _) (by simp) (by simp) hsz)
        (fun β' l hl hb => .u (.c (.p _ 0 l w.heap.size hl hb)))
    · simp at h
  · -- next
    rename_i it id
    split at h
    · rename_i x pos hσ
      cases h
      have hid := hs _ _ hσ
      obtain ⟨l, b, hl, hb, e1⟩ := (one hv).ptr
      obtain ⟨l', hl', hr⟩ := hi.obj _ _ hid
      rw [hl] at hl'; obtain rfl := Option.some.inj hl'
      cases hr with
      | iter b' k1 k2 k3 k4 k5 k6 k7 =>
        rw [k1] at hb; obtain rfl := Option.some.inj hb
        cases hc : ilt pos (slen x) with
        | true =>
          have hlt : pos < (x.size : Int) := of_decide_eq_true hc
          have hltn : pos.toNat < x.size := by omega
          obtain ⟨d1, d2⟩ := decode_bounds x pos.toNat hltn
          have gw := Wrote.setObj (w := w) (b := b') (.stringIter x (pos.toNat + (Utf8.decode x pos.toNat).2))
          have kS : ∀ k, S k → ({ w with heap := w.heap.setIfInBounds b' (.stringIter x (pos.toNat + (Utf8.decode x pos.toNat).2)) } : World).heap[k]? = w.heap[k]? := fun k hk => gw.keep k (fun e => k2 (e ▸ hk))
          have hre : runeEnd x pos = ((pos.toNat + (Utf8.decode x pos.toNat).2 : Nat) : Int) := by simp [runeEnd]; omega
          refine ⟨.value (.tuple #[.bool true, .int .i64 pos, .int .i32 (runeAt x pos)]), { w with heap := w.heap.setIfInBounds b' (.stringIter x (pos.toNat + (Utf8.decode x pos.toNat).2)) }, S, β, _, ?_, .inl rfl, ?_, .nx true pos (runeAt x pos) (fun _ => ⟨?_, ?_⟩), Ext.wrote k2 k3 gw, fun _ _ h => h⟩
          · have : ((pos.toNat : Nat) : Int) = pos := by omega
            simp [execOp, hop, e1, Instr.next, run_getObj_iter k4, hltn, run_setObj_iter k4, goInt, this, runeAt]
          · refine hi.wrote hid rfl rfl hl k1 gw (.iter b' k1 k2 k3 ?_ ?_ ?_ k7)
            · simp only [hc, iif, cond_true, hre, Int.toNat_natCast]
              exact (heap_set k4).1
            · simp only [hc, iif, cond_true, hre]; omega
            · simp only [hc, iif, cond_true, hre]; omega
          · simp [Lit.wf, IntKind.min, IntKind.max, IntKind.signed, IntKind.bits]; omega
          · simp [runeAt, Lit.wf, IntKind.min, IntKind.max, IntKind.signed, IntKind.bits]; omega
        | false =>
          have hlt : ¬ pos < (x.size : Int) := of_decide_eq_false hc
          have hltn : ¬ pos.toNat < x.size := by omega
          refine ⟨.value (.tuple #[.bool false]), w, S, β, _, ?_, .inl rfl, ?_, .nx false pos (runeAt x pos) (fun h => by simp at h), Ext.refl _ _ _, fun _ _ h => h⟩
          · simp [execOp, hop, e1, Instr.next, run_getObj_iter k4, hltn]
          · simp only [hc, iif, cond_false, puts]
            have : sput σ id (.iter x pos) = σ := by
              funext j; simp only [sput]
              cases hb : Nat.beq j id with
              | true => rw [Nat.eq_of_beq_eq_true hb, hid]; rfl
              | false => rfl
            rw [this]; exact hi
    · simp at h
  · -- call
    rename_i c
    split at h
    · rename_i bi hc
      have hx : All2 (RepV w S β) vs (c.args.toList.map a.eval) := by
        have : (Op.call c).operands.toList.map a.eval = c.args.toList.map a.eval := by simp [Op.operands, Call.operands, hc]
        rw [← this]; exact hv
      have two : ∀ {v1 v2 : V}, vs = [v1, v2] → ∃ x y, c.args.map a.eval = #[x, y] ∧ RepV w S β v1 x ∧ RepV w S β v2 y := by
        intro v1 v2 e
        rw [e] at hx
        obtain ⟨x, r, e1, p, hx⟩ := hx.tl
        obtain ⟨y, r, e2, q, hx⟩ := hx.tl
        cases hx
        exact ⟨x, y, Array.toList_inj.1 (by rw [Array.toList_map, e1, e2]), p, q⟩
      split at h
      · -- len
        rename_i x t hts
        simp only [Option.map_eq_some_iff] at h
        obtain ⟨r, hr, rfl⟩ := h
        obtain ⟨y, rr, e1, p, hx⟩ := hx.tl
        cases hx
        have harr : c.args.map a.eval = #[y] := Array.toList_inj.1 (by rw [Array.toList_map, e1])
        have hta : c.argTypes = #[t] := Array.toList_inj.1 (by simpa using hts)
        obtain ⟨z, hz, hz2⟩ := lenG_ok (P := P) hT hi hs p (t' := o.type) hr
        exact Did.pure hi (v := z) (by simp [execOp, hop, resolve, hc, invoke, builtin, harr, hta, hz]) (.u (.c hz2))
      · -- append
        rename_i x y t t' hts
        cases hb : Nat.beq t t' with
        | false => rw [hb] at h; simp at h
        | true =>
          rw [hb] at h; simp only [cond_true] at h
          have := Nat.eq_of_beq_eq_true hb
          subst this
          obtain ⟨vx, vy, harr, p, q⟩ := two rfl
          have hta : c.argTypes = #[t, t] := Array.toList_inj.1 (by simpa using hts)
          obtain ⟨r, w', β', q1, q2, q3, q4, q5⟩ := appG_ok (P := P) hT (ty := o.type) hi hs h0 h hg p.cell q.cell
          exact ⟨.value r, w', S, β', r, by simp [execOp, hop, resolve, hc, invoke, builtin, harr, hta, q1], .inl rfl, q2, q5, q3, q4⟩
      · -- min
        rename_i _ k n k' m
        cases hk : decide (k = k') with
        | false => rw [hk] at h; simp at h
        | true =>
          rw [hk] at h; simp only [cond_true, Option.some.injEq] at h; subst h
          have := of_decide_eq_true hk; subst this
          obtain ⟨vx, vy, harr, p, q⟩ := two rfl
          obtain ⟨rfl, w1⟩ := p.int
          obtain ⟨rfl, w2⟩ := q.int
          refine Did.pure hi (v := .int k (iif (ilt m n) m n)) ?_ (.u (.c (.i _ _ (by unfold iif; cases ilt m n <;> assumption))))
          have : (if m < n then m else n) = iif (ilt m n) m n := by unfold iif ilt; by_cases h : m < n <;> simp [h]
          simp [execOp, hop, resolve, hc, invoke, builtin, harr, Builtin.min_, Builtin.min2, this]
      · -- max
        rename_i _ k n k' m
        cases hk : decide (k = k') with
        | false => rw [hk] at h; simp at h
        | true =>
          rw [hk] at h; simp only [cond_true, Option.some.injEq] at h; subst h
          have := of_decide_eq_true hk; subst this
          obtain ⟨vx, vy, harr, p, q⟩ := two rfl
          obtain ⟨rfl, w1⟩ := p.int
          obtain ⟨rfl, w2⟩ := q.int
          refine Did.pure hi (v := .int k (iif (ilt n m) m n)) ?_ (.u (.c (.i _ _ (by unfold iif; cases ilt n m <;> assumption))))
          have : (if m > n then m else n) = iif (ilt n m) m n := by unfold iif ilt; by_cases h : n < m <;> simp [h]
          simp [execOp, hop, resolve, hc, invoke, builtin, harr, Builtin.max_, Builtin.max2, this]
      · simp at h
    · simp at h
  · simp at h
end Go.Tt
