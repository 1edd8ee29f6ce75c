import Derived.Test.YtfiahgfjepaiiaaGreatDoorVA2
set_option linter.unusedVariables false
namespace Go.Tt

theorem ObjRep.mono {w w' : World} {S S' F : Nat → Prop} {β β' : Beta} {l : ALoc} {o : AObj} (hw : ∀ b, S b → w'.heap[b]? = w.heap[b]?) (hS : ∀ b, S b → S' b) (hβ : ∀ id l, β id = some l → β' id = some l)
    (hl : ∀ b, l.blk = some b → o.live = true → w'.heap[b]? = w.heap[b]? ∧ ¬ S' b) (h : ObjRep w S F β l o) : ObjRep w' S' F β' l o := by
  cases h with
  | cells b c e h1 h2 h3 h4 h5 =>
    obtain ⟨k1, k2⟩ := hl b h1 rfl
    exact .cells b c e h1 k2 h3 (k1.trans h4) (h5.imp fun _ _ h => h.mono hw hS hβ)
  | none_ h1 h2 h3 => exact .none_ h1 h2 h3
  | row b c e h1 hA h2 h3 h4 h5 h6 h7 h8 hm h9 =>
    obtain ⟨k1, k2⟩ := hl b h1 rfl
    exact .row b c e h1 hA k2 h3 (k1.trans h4) h5 h6 h7 h8 hm (fun j x hx => (h9 j x hx).imp fun _ _ h => h.mono hw hS hβ)
  | froz h1 h2 => exact .froz h1 (h2.mono hw hS hβ)
  | dead => exact .dead
  | mp b arr clk h1 h2 h3 h4 hb h5 =>
    obtain ⟨k1, k2⟩ := hl b h1 rfl
    exact .mp b arr clk h1 k2 h3 (k1.trans h4) hb (h5.imp fun _ _ h => ⟨h.1, h.2.mono hw hS hβ⟩)
  | iter b h1 h2 h3 h4 h5 h6 h7 =>
    obtain ⟨k1, k2⟩ := hl b h1 rfl
    exact .iter b h1 k2 h3 (k1.trans h4) h5 h6 h7

/-- The block of what lives is no block of the safe ones, and lies in the heap. -/
theorem ObjRep.block {w : World} {S F : Nat → Prop} {β : Beta} {l : ALoc} {o : AObj} (h : ObjRep w S F β l o) (hv : o.live = true) {b : Nat} (hb : l.blk = some b) : ¬ S b ∧ ¬ F b ∧ b < w.heap.size := by
  cases h with
  | cells b' c e h1 h2 h3 h4 h5 =>
    rw [h1] at hb; obtain rfl := Option.some.inj hb
    exact ⟨h2, h3, (Array.getElem?_eq_some_iff.1 h4).1⟩
  | none_ h1 h2 h3 => rw [h1] at hb; simp at hb
  | row b' c e h1 hA h2 h3 h4 h5 h6 h7 h8 hm h9 =>
    rw [h1] at hb; obtain rfl := Option.some.inj hb
    exact ⟨h2, h3, (Array.getElem?_eq_some_iff.1 h4).1⟩
  | froz h1 h2 => simp [AObj.live] at hv
  | dead => simp [AObj.live] at hv
  | mp b' arr clk h1 h2 h3 h4 hb' h5 =>
    rw [h1] at hb; obtain rfl := Option.some.inj hb
    exact ⟨h2, h3, (Array.getElem?_eq_some_iff.1 h4).1⟩
  | iter b' h1 h2 h3 h4 h5 h6 h7 =>
    rw [h1] at hb; obtain rfl := Option.some.inj hb
    exact ⟨h2, h3, (Array.getElem?_eq_some_iff.1 h4).1⟩

/-- All that was there is there as it was. -/
structure Grew (w w' : World) : Prop where
  os : w'.os = w.os
  tape : w'.tape = w.tape
  output : w'.output = w.output
  size : w.heap.size ≤ w'.heap.size
  keep : ∀ b, b < w.heap.size → w'.heap[b]? = w.heap[b]?
theorem Grew.refl (w : World) : Grew w w := ⟨rfl, rfl, rfl, Nat.le_refl _, fun _ _ => rfl⟩
theorem Grew.trans {a b c : World} (h : Grew a b) (k : Grew b c) : Grew a c :=
  ⟨k.os.trans h.os, k.tape.trans h.tape, k.output.trans h.output, Nat.le_trans h.size k.size, fun i hi => (k.keep i (Nat.lt_of_lt_of_le hi h.size)).trans (h.keep i hi)⟩
theorem Grew.alloc (w : World) (o : Obj) : Grew w (w.alloc o) :=
  ⟨rfl, rfl, rfl, by simp, fun b hb => by show (w.heap.push o)[b]? = _; rw [Array.getElem?_push, if_neg (by omega)]⟩
theorem Grew.below {w w' : World} (h : Grew w w') : RowKit.Below w.heap.size w w' := ⟨h.os, h.tape, h.output, h.size, h.keep⟩
theorem Grew.of_below {w w' : World} (h : RowKit.Below w.heap.size w w') : Grew w w' := ⟨h.os, h.tape, h.output, h.size, h.block⟩
theorem Grew.drawn (w : World) : Grew w { w with drawn := w.drawn + 1 } := ⟨rfl, rfl, rfl, Nat.le_refl _, fun _ _ => rfl⟩

theorem Inv.grew {w w' : World} {S F : Nat → Prop} {β : Beta} {σ : Store} (h : Inv w S F β σ) (g : Grew w w') : Inv w' S F β σ where
  sS b hb := Nat.lt_of_lt_of_le (h.sS b hb) g.size
  sF b hb := ⟨Nat.lt_of_lt_of_le (h.sF b hb).1 g.size, (h.sF b hb).2⟩
  dom := h.dom
  obj id o ho := by
    obtain ⟨l, hl, hr⟩ := h.obj id o ho
    exact ⟨l, hl, hr.mono (fun b hb => g.keep b (h.sS b hb)) (fun _ hb => hb) (fun _ _ hh => hh) fun b hb hv => ⟨g.keep b (hr.block hv hb).2.2, (hr.block hv hb).1⟩⟩
  inj := h.inj
theorem Ext.of_grew {w w' : World} {S F : Nat → Prop} {β : Beta} {σ : Store} (h : Inv w S F β σ) (g : Grew w w') : Ext w S F w' S :=
  ⟨g.os, g.tape, g.output, g.size, fun b hb => g.keep b (hb.elim (h.sS b) fun hb => (h.sF b hb).1), fun _ hb => hb⟩

def bput (β : Beta) (id : Nat) (l : ALoc) : Beta := fun j => bif Nat.beq j id then some l else β j
theorem bput_same (β : Beta) (id : Nat) (l : ALoc) : bput β id l id = some l := by simp [bput]
theorem beq_false_of_ne {a b : Nat} (h : a ≠ b) : Nat.beq a b = false := by
  cases hh : Nat.beq a b with
  | false => rfl
  | true => exact absurd (Nat.eq_of_beq_eq_true hh) h
theorem bput_other (β : Beta) (id : Nat) (l : ALoc) (j : Nat) (h : j ≠ id) : bput β id l j = β j := by simp only [bput]; rw [beq_false_of_ne h]; rfl
theorem sput_same (σ : Store) (id : Nat) (o : AObj) : sput σ id o id = some o := by simp [sput]
theorem sput_other (σ : Store) (id : Nat) (o : AObj) (j : Nat) (h : j ≠ id) : sput σ id o j = σ j := by simp only [sput]; rw [beq_false_of_ne h]; rfl
theorem bput_mono {β : Beta} {id : Nat} (l : ALoc) (h : β id = none) : ∀ j k, β j = some k → bput β id l j = some k := fun j k hk => by
  rw [bput_other _ _ _ _ (fun e => by subst e; rw [h] at hk; simp at hk)]; exact hk

/-- A new object. -/
theorem Inv.new {w w' : World} {S F : Nat → Prop} {β : Beta} {σ : Store} (h : Inv w S F β σ) (g : Grew w w') {id : Nat} (hid : σ id = none) {l : ALoc} {o : AObj}
    (hr : ObjRep w' S F (bput β id l) l o) (hb : ∀ b, l.blk = some b → w.heap.size ≤ b) : Inv w' S F (bput β id l) (sput σ id o) := by
  have hn := h.dom id hid
  have hm := bput_mono l hn
  refine ⟨fun b hb => Nat.lt_of_lt_of_le (h.sS b hb) g.size, fun b hb => ⟨Nat.lt_of_lt_of_le (h.sF b hb).1 g.size, (h.sF b hb).2⟩, fun j hj => ?_, fun j o' hj => ?_, fun i1 i2 o1 o2 l1 l2 b h1 h2 v1 v2 e1 e2 b1 b2 => ?_⟩
  · by_cases e : j = id
    · subst e; rw [sput_same] at hj; simp at hj
    · rw [sput_other _ _ _ _ e] at hj; rw [bput_other _ _ _ _ e]; exact h.dom j hj
  · by_cases e : j = id
    · subst e; rw [sput_same] at hj; obtain rfl := Option.some.inj hj; exact ⟨l, bput_same _ _ _, hr⟩
    · rw [sput_other _ _ _ _ e] at hj
      obtain ⟨k, hk, hkr⟩ := h.obj j o' hj
      exact ⟨k, by rw [bput_other _ _ _ _ e]; exact hk, hkr.mono (fun b hb => g.keep b (h.sS b hb)) (fun _ hb => hb) hm fun b hb hv => ⟨g.keep b (hkr.block hv hb).2.2, (hkr.block hv hb).1⟩⟩
  · have old : ∀ j o l' b, σ j = some o → o.live = true → β j = some l' → l'.blk = some b → b < w.heap.size := by
      intro j o l' b hj hv hl hbk
      obtain ⟨k, hk, hkr⟩ := h.obj j o hj
      rw [hl] at hk; obtain rfl := Option.some.inj hk
      exact (hkr.block hv hbk).2.2
    by_cases c1 : i1 = id
    · by_cases c2 : i2 = id
      · rw [c1, c2]
      · subst c1
        rw [bput_same] at e1; obtain rfl := Option.some.inj e1
        rw [sput_other _ _ _ _ c2] at h2; rw [bput_other _ _ _ _ c2] at e2
        have := old i2 o2 l2 b h2 v2 e2 b2; have := hb b b1; omega
    · by_cases c2 : i2 = id
      · subst c2
        rw [bput_same] at e2; obtain rfl := Option.some.inj e2
        rw [sput_other _ _ _ _ c1] at h1; rw [bput_other _ _ _ _ c1] at e1
        have := old i1 o1 l1 b h1 v1 e1 b1; have := hb b b2; omega
      · rw [sput_other _ _ _ _ c1] at h1; rw [bput_other _ _ _ _ c1] at e1
        rw [sput_other _ _ _ _ c2] at h2; rw [bput_other _ _ _ _ c2] at e2
        exact h.inj i1 i2 o1 o2 l1 l2 b h1 h2 v1 v2 e1 e2 b1 b2

/-- One's own block is written: all others are as they were. -/
structure Wrote (w w' : World) (b : Nat) : Prop where
  os : w'.os = w.os
  tape : w'.tape = w.tape
  output : w'.output = w.output
  size : w'.heap.size = w.heap.size
  keep : ∀ k, k ≠ b → w'.heap[k]? = w.heap[k]?
theorem Wrote.setRow (w : World) (b : Nat) (cs : Array Value) : Wrote w (w.setRow b cs) b :=
  ⟨rfl, rfl, rfl, by simp [World.setRow], fun k hk => setRow_other w b k cs hk⟩

/-- An object of one's own is written. -/
theorem Inv.wrote {w w' : World} {S F : Nat → Prop} {β : Beta} {σ : Store} (h : Inv w S F β σ) {id b : Nat} {o o' : AObj} {l : ALoc} (hid : σ id = some o) (hv : o.live = true) (hv' : o'.live = true) (hl : β id = some l) (hb : l.blk = some b)
    (g : Wrote w w' b) (hr : ObjRep w' S F β l o') : Inv w' S F β (sput σ id o') := by
  obtain ⟨l', hl', hr0⟩ := h.obj id o hid
  rw [hl] at hl'; obtain rfl := Option.some.inj hl'
  obtain ⟨nS, nF, hlt⟩ := hr0.block hv hb
  have kS : ∀ k, S k → w'.heap[k]? = w.heap[k]? := fun k hk => g.keep k (fun e => nS (e ▸ hk))
  refine ⟨fun k hk => by rw [g.size]; exact h.sS k hk, fun k hk => by rw [g.size]; exact h.sF k hk, fun j hj => ?_, fun j o2 hj => ?_, fun i1 i2 o1 o2 l1 l2 b' h1 h2 v1 v2 e1 e2 b1 b2 => ?_⟩
  · by_cases e : j = id
    · subst e; rw [sput_same] at hj; simp at hj
    · rw [sput_other _ _ _ _ e] at hj; exact h.dom j hj
  · by_cases e : j = id
    · subst e; rw [sput_same] at hj; obtain rfl := Option.some.inj hj; exact ⟨l, hl, hr⟩
    · rw [sput_other _ _ _ _ e] at hj
      obtain ⟨k, hk, hkr⟩ := h.obj j o2 hj
      exact ⟨k, hk, hkr.mono kS (fun _ hb => hb) (fun _ _ hh => hh) fun b' hb' hv2 => ⟨g.keep b' (fun e' => e (h.inj j id o2 o k l b hj hid hv2 hv hk hl (e' ▸ hb') hb)), (hkr.block hv2 hb').1⟩⟩
  · have : ∀ j o, sput σ id o' j = some o → o.live = true → ∃ o2, σ j = some o2 ∧ o2.live = true := by
      intro j o3 hj hv3
      by_cases e : j = id
      · subst e; exact ⟨o, hid, hv⟩
      · rw [sput_other _ _ _ _ e] at hj; exact ⟨o3, hj, hv3⟩
    obtain ⟨p1, q1, r1⟩ := this i1 o1 h1 v1
    obtain ⟨p2, q2, r2⟩ := this i2 o2 h2 v2
    exact h.inj i1 i2 p1 p2 l1 l2 b' q1 q2 r1 r2 e1 e2 b1 b2
theorem Ext.wrote {w w' : World} {S F : Nat → Prop} {b : Nat} (nS : ¬ S b) (nF : ¬ F b) (g : Wrote w w' b) : Ext w S F w' S :=
  ⟨g.os, g.tape, g.output, by rw [g.size]; exact Nat.le_refl _, fun k hk => g.keep k (fun e => hk.elim (fun h => nS (e ▸ h)) fun h => nF (e ▸ h)), fun _ hb => hb⟩

/-! ### The frame's slots -/
theorem St.value {s : AS} {a : Act} {w : World} {S F : Nat → Prop} {β : Beta} (h : St s a w S F β) (d : Option Tmp) {v : V} {x : Value} (hv : RepV w S β v x) : St (s.dst d v) (a.put d x) w S F β := by
  cases d with
  | none => exact h
  | some d =>
    simp only [AS.dst, AS.set, Act.put]
    cases hlt : Nat.blt d s.nt with
    | false =>
      have : ¬ d < a.tmps.size := by rw [h.nt]; intro hh; rw [show Nat.blt d s.nt = true from by rw [Nat.blt_eq]; exact hh] at hlt; simp at hlt
      simp only [cond_false]
      have e : a.tmps.setIfInBounds d x = a.tmps := by rw [Array.setIfInBounds, dif_neg this]
      rw [e]; exact h
    | true =>
      have hd : d < a.tmps.size := by rw [h.nt]; rw [Nat.blt_eq] at hlt; exact hlt
      simp only [cond_true]
      refine ⟨h.inv, h.marks, by simp [h.nt], fun j => ?_⟩
      by_cases e : j = d
      · subst e
        simp only [show Nat.beq j j = true from Nat.beq_refl j, cond_true]
        rw [Array.getD_eq_getD_getElem?, Array.getElem?_setIfInBounds_self_of_lt hd]; exact hv
      · simp only [beq_false_of_ne e, cond_false]
        rw [Array.getD_eq_getD_getElem?, Array.getElem?_setIfInBounds_ne (fun h => e h.symm), ← Array.getD_eq_getD_getElem?]; exact h.env j
theorem St.world {s : AS} {a : Act} {w w' : World} {S S' F : Nat → Prop} {β β' : Beta} {σ' : Store} (h : St s a w S F β) (hi : Inv w' S' F β' σ') (hx : Ext w S F w' S') (hβ : ∀ id l, β id = some l → β' id = some l) : St ⟨s.nt, s.env, σ', s.gen⟩ a w' S' F β' :=
  ⟨hi, h.marks.mono (fun b hb => hx.keep b (.inl hb)) hx.mono, h.nt, fun j => (h.env j).mono (fun b hb => hx.keep b (.inl hb)) hx.mono hβ⟩

theorem litOk_wf {k : IntKind} {n : Int} (h : litOk k n = true) : (Lit.int k n).wf = true := by
  cases k <;> simp [litOk] at h <;> simp [Lit.wf, IntKind.min, IntKind.max, IntKind.signed, IntKind.bits] <;> omega
theorem constV_rep (w : World) (S : Nat → Prop) (β : Beta) {c : Value} {v : V} (h : constV c = some v) : RepV w S β v c := by
  unfold constV at h
  split at h
  · cases h; exact .u (.c (.b _))
  · rename_i k n
    cases hk : litOk k n with
    | false => rw [hk] at h; simp at h
    | true => rw [hk] at h; simp at h; subst h; exact .u (.c (.i _ _ (litOk_wf hk)))
  · rename_i x
    cases hk : decide (x.size ≤ 1000000) with
    | false => rw [hk] at h; simp at h
    | true => rw [hk] at h; simp at h; subst h; exact .u (.c (.s _ (by have := of_decide_eq_true hk; omega)))
  · cases h; exact .u (.c .nl)
  · cases h; exact .u (.c .pn)
  · cases h; exact .u (.c .fnil)
  · simp at h
theorem St.opd {s : AS} {a : Act} {w : World} {S F : Nat → Prop} {β : Beta} (h : St s a w S F β) {x : Operand} {v : V} (hx : s.opd x = some v) : RepV w S β v (a.eval x) := by
  cases x with
  | tmp t => simp only [AS.opd, Option.some.injEq] at hx; subst hx; exact h.env t
  | const c => exact constV_rep _ _ _ hx
  | global g => simp [AS.opd] at hx
  | func f => simp only [AS.opd, Option.some.injEq] at hx; subst hx; exact .u (.c (.fn f [] [] [] [] rfl rfl))
end Go.Tt
