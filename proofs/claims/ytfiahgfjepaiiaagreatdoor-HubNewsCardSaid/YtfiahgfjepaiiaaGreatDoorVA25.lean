import Derived.Test.YtfiahgfjepaiiaaGreatDoorVA24
set_option linter.unusedVariables false
set_option linter.unusedSimpArgs false
namespace Go.Tt

/-! ### Heads of loops: nil slices of one's own become rows -/
/-- A slot, or a cell behind it. -/
abbrev RowH := List (Nat × Option Nat × ET)
def toRows : RowH → AS → AS
  | [], s => s
  | (t, none, τ) :: r, s => toRows r (match s.env t, s.σ (900000 + t) with
    | .u (.c .nl), none => ⟨s.nt, fun j => bif Nat.beq j t then .c (.row τ (900000 + t)) else s.env j, sput s.σ (900000 + t) (.row τ []), s.gen⟩
    | _, _ => s)
  | (t, some off, τ) :: r, s => toRows r (match s.env t with
    | .u (.c (.p id o)) => (match s.σ id, s.σ (910000 + 100 * t + off) with
      | some (.cells cs), none => (match cs[o + off]? with
        | some .nl => ⟨s.nt, s.env, sput (sput s.σ (910000 + 100 * t + off) (.row τ [])) id (.cells (cs.set (o + off) (.row τ (910000 + 100 * t + off)))), s.gen⟩
        | _ => s)
      | _, _ => s)
    | _ => s)
theorem bext_new {β : Beta} {id : Nat} {l : ALoc} (h : β id = none) (n : Nat) : BExt n β (bput β id l) := BExt.of (bput_mono l h)
theorem toRows_weak (n : Nat) : ∀ (r : RowH) (s : AS), Weak n s (toRows r s)
  | [], s => fun a w S F β hs => ⟨β, hs, BExt.refl _ _⟩
  | (t, none, τ) :: r, s => by
    intro a w S F β hs
    simp only [toRows]
    split
    · rename_i h1 h2
      have hn := hs.inv.dom _ h2
      have hi := hs.inv.new (Grew.refl w) h2 (l := ⟨none, none, 0, 0⟩) (o := .row τ []) (.none_ rfl rfl rfl) (fun b hb => by simp at hb)
      have hm := bput_mono (⟨none, none, 0, 0⟩ : ALoc) hn
      obtain ⟨β2, hs2, hb2⟩ := toRows_weak n r ⟨s.nt, fun j => bif Nat.beq j t then .c (.row τ (900000 + t)) else s.env j, sput s.σ (900000 + t) (.row τ []), s.gen⟩ a w S F (bput β (900000 + t) ⟨none, none, 0, 0⟩) ⟨hi, hs.marks, hs.nt, fun j => by
        simp only
        cases hj : Nat.beq j t with
        | true =>
          have e := Nat.eq_of_beq_eq_true hj
          subst e
          have hv := hs.env j
          rw [h1] at hv
          have hc := hv.cell
          generalize a.tmps.getD j undef = v at hc
          cases hc
          exact .u (.c (.row τ _ ⟨none, none, 0, 0⟩ (bput_same _ _ _)))
        | false => exact (hs.env j).mono (fun _ _ => rfl) (fun _ h => h) hm⟩
      exact ⟨β2, hs2, (bext_new hn n).trans hb2⟩
    · exact toRows_weak n r s a w S F β hs
  | (t, some off, τ) :: r, s => by
    intro a w S F β hs
    simp only [toRows]
    split
    · rename_i id o h1
      split
      · rename_i cs h2 h3
        split
        · rename_i h4
          have hn := hs.inv.dom _ h3
          have hne : id ≠ 910000 + 100 * t + off := fun e => by rw [e, h3] at h2; simp at h2
          have hi := hs.inv.new (Grew.refl w) h3 (l := ⟨none, none, 0, 0⟩) (o := .row τ []) (.none_ rfl rfl rfl) (fun b hb => by simp at hb)
          have hm := bput_mono (⟨none, none, 0, 0⟩ : ALoc) hn
          have h2' : sput s.σ (910000 + 100 * t + off) (.row τ []) id = some (.cells cs) := by rw [sput_other _ _ _ _ hne]; exact h2
          obtain ⟨l, hl, hr⟩ := hi.obj _ _ h2'
          have hi2 : Inv w S F (bput β (910000 + 100 * t + off) ⟨none, none, 0, 0⟩) (sput (sput s.σ (910000 + 100 * t + off) (.row τ [])) id (.cells (cs.set (o + off) (.row τ (910000 + 100 * t + off))))) := by
            cases hr with
            | cells b c e k1 k2 k3 k4 k5 =>
              refine hi.wrote h2' rfl rfl hl k1 ⟨rfl, rfl, rfl, rfl, fun _ _ => rfl⟩ (.cells b c e k1 k2 k3 k4 (All2.of _ _ (by rw [List.length_set]; exact k5.length) (fun j x y hx hy => ?_)))
              rw [List.getElem?_set] at hx
              split at hx
              · rename_i e1
                split at hx
                · simp only [Option.some.injEq] at hx
                  subst hx
                  subst e1
                  obtain ⟨y', hy', hr'⟩ := k5.get _ _ h4
                  rw [hy] at hy'; obtain rfl := Option.some.inj hy'
                  obtain ⟨hr1, hr2⟩ := hr'
                  cases hr1
                  exact ⟨.row τ _ ⟨none, none, 0, 0⟩ (bput_same _ _ _), hr2⟩
                · simp at hx
              · obtain ⟨y', hy', hr'⟩ := k5.get _ _ hx
                rw [hy] at hy'; obtain rfl := Option.some.inj hy'
                exact hr'
          obtain ⟨β2, hs2, hb2⟩ := toRows_weak n r ⟨s.nt, s.env, sput (sput s.σ (910000 + 100 * t + off) (.row τ [])) id (.cells (cs.set (o + off) (.row τ (910000 + 100 * t + off)))), s.gen⟩ a w S F _ ⟨hi2, hs.marks, hs.nt, fun j => (hs.env j).mono (fun _ _ => rfl) (fun _ h => h) hm⟩
          exact ⟨β2, hs2, (bext_new hn n).trans hb2⟩
        · exact toRows_weak n r s a w S F β hs
      · exact toRows_weak n r s a w S F β hs
    · exact toRows_weak n r s a w S F β hs
/-- A loop's block; what is kept at its head, behind it, at a return; nil slices that become rows at its head. -/
abbrev HintL := List (Nat × List Nat × List Nat × List Nat × RowH)
def hintR (n : Nat) : HintL → Hint
  | [], _, _, _ => none
  | (b, h, e, t, rw) :: r, c, i, s => bif Nat.beq c b then (match i with | 0 => nrm n h (toRows rw s) | 1 => nrm n e s | _ => nrm n t s) else hintR n r c i s
theorem Weak.trans {n : Nat} {a b c : AS} (h : Weak n a b) (k : Weak n b c) : Weak n a c := fun x w S F β hs => by
  obtain ⟨β1, h1, b1⟩ := h x w S F β hs
  obtain ⟨β2, h2, b2⟩ := k x w S F β1 h1
  exact ⟨β2, h2, b1.trans b2⟩
theorem hintR_ok (n : Nat) : ∀ l, HintOK n (hintR n l)
  | [], b, i, s, s', h => by simp [hintR] at h
  | (b', hd, e, t, rw') :: r, b, i, s, s', h => by
    simp only [hintR] at h
    cases hb : Nat.beq b b' with
    | true =>
      rw [hb] at h; simp only [cond_true] at h
      split at h
      · exact (toRows_weak n rw' s).trans (nrm_weak h)
      · exact nrm_weak h
      · exact nrm_weak h
    | false => rw [hb] at h; simp only [cond_false] at h; exact hintR_ok n r b i s s' h

/-! ### Laws, told by continuation -/
/-- A tree of decisions. -/
inductive Tr (α : Type) where
  | no
  | at (a : α)
  | ite (b : Bool) (x y : Tr α)
def Tr.val {α : Type} : Tr α → Option α
  | .no => none
  | .at a => some a
  | .ite b x y => ifK b x.val y.val
def Tr.runK {α R : Type} (I : IK R) (k : α → Option R) : Tr α → Option R
  | .no => none
  | .at a => k a
  | .ite b x y => I b (x.runK I k) (y.runK I k)
theorem Tr.runK_ok {α R : Type} {k : α → Option R} {r : R} : ∀ {t : Tr α}, t.runK ifK k = some r → ∃ a, t.val = some a ∧ k a = some r
  | .no, h => by simp [Tr.runK] at h
  | .at a, h => ⟨a, rfl, h⟩
  | .ite b x y, h => by
    cases b with
    | true => exact Tr.runK_ok (t := x) h
    | false => exact Tr.runK_ok (t := y) h
/-- What a function answers: its arguments, their objects; the value, all objects behind it. -/
abbrev HL := List V → List (Nat × AObj) → Tr (V × List (Nat × AObj))
/-- What a loop answers, out of the state at its head. -/
abbrev LL := NS → Tr (Out × NS)
def HLok (P : Program) (f : FuncId) (h : HL) : Prop := ∀ (a : List V) (os : List (Nat × AObj)) (v : V) (os' : List (Nat × AObj)), (h a os).val = some (v, os') → FnOK P os.length f a (assocO os) v (assocO os')
/-- A loop, or a range over a function, comes there. -/
def DoneOK (P : Program) (n : Nat) : Code → AS → Out → AS → Prop
  | .loop x, s, o, s' => RoundsOK P n x s o s'
  | x, s, o, s' => CodeOK P n x s o s'
def LLok (P : Program) (n : Nat) (x : Code) (h : LL) : Prop := ∀ (ns : NS) (o : Out) (ns' : NS), (h ns).val = some (o, ns') → DoneOK P n x ns.as o ns'.as
def isRF : Code → Bool
  | .rangeFunc _ _ _ _ => true
  | _ => false
abbrev LLs := List (Nat × LL)
def llGet : LLs → Nat → Option LL
  | [], _ => none
  | (b, e) :: r, c => bif Nat.beq c b then some e else llGet r c
/-- A function's text with its hints, and laws of its loops (for so many objects of the arguments); or a law. -/
inductive FE where
  | code (fn : Func) (h : HintL) (n : Nat) (ls : LLs)
  | law (e : HL)
  | nat (e : List V → Option V)
inductive FT where
  | nil
  | cons (f : Nat) (e : FE) (r : FT)
def FT.get : FT → Nat → Option FE
  | .nil, _ => none
  | .cons f e r, x => bif Nat.beq x f then some e else r.get x
section
variable {R : Type}
/-- Loops: by their laws, or round by round. -/
def lhK (I : IK R) (T : Nat → TD) (CH : CallK R) (hint : Hint) (ls : LLs) : Nat → LoopK R
  | 0, b, _, ns, k => match llGet ls b with
    | some e => (e ns).runK I fun p => k p.1 p.2
    | none => none
  | N + 1, b, x, ns, k => match llGet ls b with
    | some e => (e ns).runK I fun p => k p.1 p.2
    | none => bif isRF x then none else evK I T CH hint (lhK I T CH hint ls N) b x ns.as (roundK (hint b) (fun ns => lhK I T CH hint ls N b x ns k) k)
/-- One's own loop, round by round; those within it by LH. -/
def roundsW (I : IK R) (T : Nat → TD) (CH : CallK R) (hint : Hint) (LH : LoopK R) : Nat → LoopK R
  | 0, _, _, _, _ => none
  | N + 1, b, x, ns, k => evK I T CH hint LH b x ns.as (roundK (hint b) (fun ns => roundsW I T CH hint LH N b x ns k) k)
/-- The answer alone, under numbers of its own. -/
def normK (n : Nat) (k : V → List (Nat × AObj) → Option R) (v : V) (σ1 : Store) : Option R :=
  let m := number (reach σ1 4 (addNew (List.range n ++ idsV v) [])) ((List.range n).map fun j => (j, j)) K0
  match okM m, objsL σ1 m m with
  | true, some os => k (renV m v) os
  | _, _ => none
def fnN (I : IK R) (T : Nat → TD) (CH : CallK R) (hint : Hint) (LH : LoopK R) (f : Func) (args : List V) (os : List (Nat × AObj)) (k : V → List (Nat × AObj) → Option R) : Option R :=
  fnK I T CH hint LH f args (assocO os) (normK os.length k)
end

/-! ### They are sound -/
/-- The loops of a text, with their blocks. -/
def loopsIn : Nat → Code → List (Nat × Code)
  | b, .seq x y => loopsIn b x ++ loopsIn b y
  | b, .cond _ x y => loopsIn b x ++ loopsIn b y
  | _, .block id x => loopsIn id x
  | b, .loop x => (b, .loop x) :: loopsIn b x
  | b, .rangeFunc f p as_ x => [(b, .rangeFunc f p as_ x)]
  | _, _ => []
def loopAtL : List (Nat × Code) → Nat → Code
  | [], _ => .skip
  | (b, x) :: r, c => bif Nat.beq c b then x else loopAtL r c
/-- The round of a loop. -/
def bodyOf : Code → Code
  | .loop x => x
  | x => x
/-- The loop of a block. -/
def loopAt (fn : Func) (b : Nat) : Code := match fn.body with
  | some c => loopAtL (loopsIn 0 c) b
  | none => .skip
def onceB : List Nat → Bool := nodupB
/-- A function's laws of loops hold. -/
def LawsOK (P : Program) (n : Nat) (fn : Func) (ls : LLs) : Prop := ∀ c, fn.body = some c → ∀ b x e, (b, x) ∈ loopsIn 0 c → llGet ls b = some e → LLok P n x e
theorem loopAtL_of : ∀ {l : List (Nat × Code)}, nodupB (l.map (·.1)) = true → ∀ {b : Nat} {x : Code}, (b, x) ∈ l → loopAtL l b = x
  | [], _, b, x, h => by simp at h
  | (b', x') :: r, hn, b, x, h => by
    simp only [List.map_cons, nodupB, Bool.and_eq_true, Bool.not_eq_true'] at hn
    simp only [loopAtL]
    cases hb : Nat.beq b b' with
    | true =>
      have e := Nat.eq_of_beq_eq_true hb
      subst e
      rcases List.mem_cons.1 h with h | h
      · cases h; rfl
      · have : mem b (r.map (·.1)) = true := mem_iff.2 (List.mem_map.2 ⟨_, h, rfl⟩)
        rw [this] at hn; simp at hn
    | false =>
      rcases List.mem_cons.1 h with h | h
      · cases h; rw [Nat.beq_refl] at hb; simp at hb
      · exact loopAtL_of hn.2 h
def uniq (fn : Func) : Bool := match fn.body with
  | some c => nodupB ((loopsIn 0 c).map (·.1))
  | none => true
theorem LawsOK.nil (P : Program) (n : Nat) (fn : Func) : LawsOK P n fn [] := fun c hc b x e hx he => by simp [llGet] at he
theorem LawsOK.cons {P : Program} {n : Nat} {fn : Func} (hu : uniq fn = true) {b : Nat} {e : LL} {ls : LLs} (h : LLok P n (loopAt fn b) e) (hr : LawsOK P n fn ls) : LawsOK P n fn ((b, e) :: ls) := by
  intro c hc b' x e' hx he
  simp only [llGet] at he
  cases hb : Nat.beq b' b with
  | true =>
    rw [hb] at he; simp only [cond_true, Option.some.injEq] at he
    subst he
    have e2 := Nat.eq_of_beq_eq_true hb
    subst e2
    simp only [uniq, hc] at hu
    have := loopAtL_of hu hx
    simp only [loopAt, hc, this] at h
    exact h
  | false => rw [hb] at he; exact hr c hc b' x e' hx he
def FE.ok (P : Program) (f : Nat) : FE → Prop
  | .code fn _ n ls => P.funcs[f]? = some fn ∧ EntersOK P f ∧ LawsOK P n fn ls
  | .law e => EntersOK P f ∧ HLok P f e
  | .nat e => ∀ a v, e a = some v → Native P f a v
def FT.ok (P : Program) : FT → Prop
  | .nil => True
  | .cons f e r => e.ok P f ∧ r.ok P
theorem FT.get_ok {P : Program} : ∀ {t : FT}, t.ok P → ∀ f e, t.get f = some e → e.ok P f
  | .nil, _, f, e, h => by simp [FT.get] at h
  | .cons g e' r, hok, f, e, h => by
    simp only [FT.get] at h
    cases hb : Nat.beq f g with
    | true => rw [hb] at h; simp only [cond_true, Option.some.injEq] at h; subst h; rw [Nat.eq_of_beq_eq_true hb]; exact hok.1
    | false => rw [hb] at h; simp only [cond_false] at h; exact FT.get_ok hok.2 f e h
section
variable {R : Type}
theorem lhK_ok {P : Program} (hm : P.follows .mixedOrders = true) {T : Nat → TD} (hT : TOK P T) {CH : CallK R} (hC : CHOK P CH) {n : Nat} {hint : Hint} (hh : HintOK n hint) {ls : LLs} :
    ∀ (N : Nat) (c : Code) (b : Nat), (∀ b' x e, (b', x) ∈ loopsIn b c → llGet ls b' = some e → LLok P n x e) → LoopsOK P n (lhK ifK T CH hint ls N) b c := by
  intro N
  induction N with
  | zero =>
    intro c
    induction c with
    | seq x y ihx ihy => intro b h; exact ⟨ihx b fun b' z e hz => h b' z e (by simp [loopsIn, hz]), ihy b fun b' z e hz => h b' z e (by simp [loopsIn, hz])⟩
    | cond c x y ihx ihy => intro b h; exact ⟨ihx b fun b' z e hz => h b' z e (by simp [loopsIn, hz]), ihy b fun b' z e hz => h b' z e (by simp [loopsIn, hz])⟩
    | block id x ih => intro b h; exact ih id h
    | loop x ih =>
      intro b h ns k r hr
      simp only [lhK] at hr
      split at hr
      · rename_i e he
        obtain ⟨⟨o, ns'⟩, h1, h2⟩ := Tr.runK_ok hr
        exact ⟨o, ns', h b (.loop x) e (by simp [loopsIn]) he ns o ns' h1, h2⟩
      · simp at hr
    | rangeFunc f p as_ x _ _ =>
      intro b h ns k r hr
      simp only [lhK] at hr
      split at hr
      · rename_i e he
        obtain ⟨⟨o, ns'⟩, h1, h2⟩ := Tr.runK_ok hr
        exact ⟨o, ns', h b (.rangeFunc f p as_ x) e (by simp [loopsIn]) he ns o ns' h1, h2⟩
      · simp at hr
    | _ => intro b h; trivial
  | succ N ihN =>
    intro c
    induction c with
    | seq x y ihx ihy => intro b h; exact ⟨ihx b fun b' z e hz => h b' z e (by simp [loopsIn, hz]), ihy b fun b' z e hz => h b' z e (by simp [loopsIn, hz])⟩
    | cond c x y ihx ihy => intro b h; exact ⟨ihx b fun b' z e hz => h b' z e (by simp [loopsIn, hz]), ihy b fun b' z e hz => h b' z e (by simp [loopsIn, hz])⟩
    | block id x ih => intro b h; exact ih id h
    | rangeFunc f p as_ x _ _ =>
      intro b h ns k r hr
      simp only [lhK] at hr
      split at hr
      · rename_i e he
        obtain ⟨⟨o, ns'⟩, h1, h2⟩ := Tr.runK_ok hr
        exact ⟨o, ns', h b (.rangeFunc f p as_ x) e (by simp [loopsIn]) he ns o ns' h1, h2⟩
      · simp [isRF] at hr
    | loop x ih =>
      intro b h ns k r hr
      simp only [lhK] at hr
      split at hr
      · rename_i e he
        obtain ⟨⟨o, ns'⟩, h1, h2⟩ := Tr.runK_ok hr
        exact ⟨o, ns', h b (.loop x) e (by simp [loopsIn]) he ns o ns' h1, h2⟩
      · cases hrf : isRF x with
        | true => rw [hrf] at hr; simp at hr
        | false =>
        rw [hrf] at hr
        simp only [cond_false] at hr
        obtain ⟨o, s, h1, h2⟩ := evK_ok hm hT hC hh x b ns.as _ r (ihN x b fun b' z e hz => h b' z e (by simp [loopsIn, hz])) hr
        cases o with
        | norm =>
          obtain ⟨s2, h3, h4⟩ := optK_some h2
          obtain ⟨o, ns', h5, h7⟩ := ihN (.loop x) b h s2 k r h4
          obtain ⟨M, hM⟩ := h5
          refine ⟨o, ns', ⟨M + 1, fun a w S F β Q hs hQ => ?_⟩, h7⟩
          rw [rounds_succ]
          refine h1 a w S F β _ hs (fun a' w' S' β' hs' hx hβ => ?_)
          obtain ⟨β2, hst2, hβ2⟩ := hh _ _ _ _ h3 _ _ _ _ _ hs'
          exact hM a' w' S' F β2 Q hst2 (fun a3 w3 S3 β3 hst3 hx3 hβ3 => hQ a3 w3 S3 β3 hst3 (hx.trans hx3) ((hβ.trans hβ2).trans hβ3))
        | exit id =>
          obtain ⟨s2, h3, h4⟩ := optK_some h2
          refine ⟨.exit id, s2, ⟨1, fun a w S F β Q hs hQ => ?_⟩, h4⟩
          rw [rounds_succ]
          refine h1 a w S F β _ hs (fun a' w' S' β' hs' hx hβ => ?_)
          obtain ⟨β2, hst2, hβ2⟩ := hh _ _ _ _ h3 _ _ _ _ _ hs'
          exact hQ a' w' S' β2 hst2 hx (hβ.trans hβ2)
        | ret =>
          obtain ⟨s2, h3, h4⟩ := optK_some h2
          refine ⟨.ret, s2, ⟨1, fun a w S F β Q hs hQ => ?_⟩, h4⟩
          rw [rounds_succ]
          refine h1 a w S F β _ hs (fun a' w' S' β' hs' hx hβ => ?_)
          obtain ⟨β2, hst2, hβ2⟩ := hh _ _ _ _ h3 _ _ _ _ _ hs'
          exact hQ a' w' S' β2 hst2 hx (hβ.trans hβ2)
    | _ => intro b h; trivial
theorem roundsW_ok {P : Program} (hm : P.follows .mixedOrders = true) {T : Nat → TD} (hT : TOK P T) {CH : CallK R} (hC : CHOK P CH) {n : Nat} {hint : Hint} (hh : HintOK n hint) {LH : LoopK R} {b : Nat} {x : Code} (hl : LoopsOK P n LH b x) :
    ∀ (N : Nat) (ns : NS) (k : Out → NS → Option R) (r : R), roundsW ifK T CH hint LH N b x ns k = some r → ∃ o ns', RoundsOK P n x ns.as o ns'.as ∧ k o ns' = some r
  | 0, ns, k, r, h => by simp [roundsW] at h
  | N + 1, ns, k, r, h => by
    simp only [roundsW] at h
    obtain ⟨o, s, h1, h2⟩ := evK_ok hm hT hC hh x b ns.as _ r hl h
    cases o with
    | norm =>
      obtain ⟨s2, h3, h4⟩ := optK_some h2
      obtain ⟨o, ns', h5, h7⟩ := roundsW_ok hm hT hC hh hl N s2 k r h4
      obtain ⟨M, hM⟩ := h5
      refine ⟨o, ns', ⟨M + 1, fun a w S F β Q hs hQ => ?_⟩, h7⟩
      rw [rounds_succ]
      refine h1 a w S F β _ hs (fun a' w' S' β' hs' hx hβ => ?_)
      obtain ⟨β2, hst2, hβ2⟩ := hh _ _ _ _ h3 _ _ _ _ _ hs'
      exact hM a' w' S' F β2 Q hst2 (fun a3 w3 S3 β3 hst3 hx3 hβ3 => hQ a3 w3 S3 β3 hst3 (hx.trans hx3) ((hβ.trans hβ2).trans hβ3))
    | exit id =>
      obtain ⟨s2, h3, h4⟩ := optK_some h2
      refine ⟨.exit id, s2, ⟨1, fun a w S F β Q hs hQ => ?_⟩, h4⟩
      rw [rounds_succ]
      refine h1 a w S F β _ hs (fun a' w' S' β' hs' hx hβ => ?_)
      obtain ⟨β2, hst2, hβ2⟩ := hh _ _ _ _ h3 _ _ _ _ _ hs'
      exact hQ a' w' S' β2 hst2 hx (hβ.trans hβ2)
    | ret =>
      obtain ⟨s2, h3, h4⟩ := optK_some h2
      refine ⟨.ret, s2, ⟨1, fun a w S F β Q hs hQ => ?_⟩, h4⟩
      rw [rounds_succ]
      refine h1 a w S F β _ hs (fun a' w' S' β' hs' hx hβ => ?_)
      obtain ⟨β2, hst2, hβ2⟩ := hh _ _ _ _ h3 _ _ _ _ _ hs'
      exact hQ a' w' S' β2 hst2 hx (hβ.trans hβ2)
/-- A function's own text as a callee. -/
def codeK (I : IK R) (T : Nat → TD) (CH : CallK R) (N : Nat) (fn : Func) (h : HintL) (n : Nat) (ls : LLs) (n' : Nat) (a : List V) (os : List (Nat × AObj)) (k : V → Store → Option R) : Option R :=
  bif Nat.beq n n' || ls.isEmpty then fnK I T CH (hintR n' h) (lhK I T CH (hintR n' h) ls N) fn a (assocO os) k else none
def lawK (I : IK R) (e : HL) (_ : Nat) (a : List V) (os : List (Nat × AObj)) (k : V → Store → Option R) : Option R := (e a os).runK I fun p => k p.1 (assocO p.2)
/-- Calls: by a law, or by the callee's own text; d: how deep, N: how many rounds. -/
def callsK (I : IK R) (T : Nat → TD) (ft : FT) (N : Nat) : Nat → CallK R
  | 0 => fun _ _ _ _ _ => none
  | d + 1 => fun f id a σ k => match ft.get f with
    | none => none
    | some (.law e) => inlK (lawK I e) id a σ k
    | some (.nat e) => optK (e a) fun v => k v [] []
    | some (.code fn h n ls) => inlK (codeK I T (callsK I T ft N d) N fn h n ls) id a σ k
theorem codeK_ok {P : Program} (hm : P.follows .mixedOrders = true) {T : Nat → TD} (hT : TOK P T) {CH : CallK R} (hC : CHOK P CH) {N : Nat} {f : Nat} {fn : Func} {hl : HintL} {n : Nat} {ls : LLs} (hfn : P.funcs[f]? = some fn) (hls : LawsOK P n fn ls)
    {n' : Nat} {a : List V} {os : List (Nat × AObj)} {k : V → Store → Option R} {r : R} (h : codeK ifK T CH N fn hl n ls n' a os k = some r) : ∃ v σ1, FnOK P n' f a (assocO os) v σ1 ∧ k v σ1 = some r := by
  unfold codeK at h
  cases hcnd : (Nat.beq n n' || ls.isEmpty) with
  | false => rw [hcnd] at h; simp at h
  | true =>
    rw [hcnd] at h
    simp only [cond_true] at h
    have hL : LoopsOK P n' (lhK ifK T CH (hintR n' hl) ls N) 0 (fn.body.getD .skip) := by
      refine lhK_ok hm hT hC (hintR_ok n' hl) N _ 0 (fun b' x e hx he' => ?_)
      cases ls with
      | nil => simp [llGet] at he'
      | cons p q =>
        cases hnn : Nat.beq n n' with
        | false => rw [hnn] at hcnd; simp at hcnd
        | true =>
          have e2 := Nat.eq_of_beq_eq_true hnn
          subst e2
          cases hb : fn.body with
          | none => rw [hb] at hx; simp [loopsIn] at hx
          | some c => rw [hb] at hx; exact hls c hb b' x e hx he'
    exact fnK_ok hm hT hC (hintR_ok n' hl) hfn (fun c hc => by rw [hc] at hL; exact hL) h
theorem lawK_ok {P : Program} {f : Nat} {e : HL} (hok : HLok P f e) {n' : Nat} {a : List V} {os : List (Nat × AObj)} {k : V → Store → Option R} {r : R} (h : lawK ifK e n' a os k = some r) : ∃ v σ1, FnOK P os.length f a (assocO os) v σ1 ∧ k v σ1 = some r := by
  obtain ⟨⟨v, os'⟩, h1, h2⟩ := Tr.runK_ok h
  exact ⟨v, _, hok a os v os' h1, h2⟩
theorem callsK_ok {P : Program} (hm : P.follows .mixedOrders = true) {T : Nat → TD} (hT : TOK P T) {ft : FT} (hf : ft.ok P) (N d : Nat) : CHOK P (callsK (R := R) ifK T ft N d) := by
  induction d with
  | zero => intro f n args σ k r h; simp [callsK] at h
  | succ d hC =>
    intro f id a σ k r h
    simp only [callsK] at h
    split at h
    · simp at h
    · rename_i e he
      obtain ⟨hen, hok⟩ := FT.get_ok hf _ _ he
      exact inlK_ok hen (fun a os k r h => lawK_ok hok h) h
    · rename_i e he
      obtain ⟨v, h1, h2⟩ := optK_some h
      exact ⟨v, [], [], .inr ⟨rfl, FT.get_ok hf _ _ he a v h1⟩, h2⟩
    · rename_i fn hl n ls he
      obtain ⟨hfn, hen, hls⟩ := FT.get_ok hf _ _ he
      exact inlK_ok hen (fun a os k r h => codeK_ok hm hT hC hfn hls h) h
end
end Go.Tt
