import Derived.Test.YtfiahgfjepaiiaaGreatDoorVA20s
set_option linter.unusedVariables false
set_option linter.unusedSimpArgs false
namespace Go.Tt

theorem stD_none {ops : Array Oper} {tr : Trace} {D : Nat → Bool} (s : AS) : ∀ k, (∀ j, j < k → D j = false) → stD ops tr D k s = s
  | 0, _ => rfl
  | k + 1, h => by
    simp only [stD, h k (by omega), cond_false]
    split <;> exact stD_none s k (fun j hj => h j (by omega))
/-- A region whose order is left open. -/
theorem region_any {P : Program} (hm : P.follows .mixedOrders = true) {ops : Array Oper} {tr : Trace} {s s' : AS} (h : Steps P ops 0 s tr s') (hok : orderOk ops tr = true) {id : Nat} {a : Act} {w : World} {S F : Nat → Prop} {β : Beta} (hs : St s a w S F β) {Q : Exit → Act → World → Prop}
    (hQ : ∀ a' w' S' β', St s' a' w' S' F β' → Ext w S F w' S' → (∀ id l, β id = some l → β' id = some l) → Q .normal a' w') : (Code.region id ops true).wp P Q a w := by
  obtain ⟨h1, h2⟩ := steps_at (tr0 := tr) (s0 := s) h rfl rfl
  have hlen : tr.length = ops.size := by have := steps_len h; omega
  have g := Grew.drawn w
  have hx := Ext.of_grew hs.inv g
  refine wp_region_any hm (order_any (F := F) hlen hok (s0 := s) (fun j o p ho hp => h2 j o p (Nat.zero_le _) ho hp) ops.size _ a _ S β (by simp) ?_ ?_ ?_ (fun a' w' S' β' hs' hx' hβ => ?_))
  · rw [Array.toList_replicate, List.count_replicate]; simp
  · intro j o hj
    exfalso
    rw [Array.getD_eq_getD_getElem?, Array.getElem?_replicate] at hj
    split at hj <;> simp at hj
  · rw [stD_none s ops.size (fun j hj => by rw [Array.getD_eq_getD_getElem?, Array.getElem?_replicate]; simp [hj])]
    exact hs.world (hs.inv.grew g) hx (fun _ _ h => h)
  · rw [← h1] at hs'
    exact hQ a' w' S' β' hs' (hx.trans hx') hβ

/-- The objects that a function came with stay where they are. -/
def BExt (n : Nat) (β β' : Beta) : Prop := ∀ id l, id < n → β id = some l → β' id = some l
theorem BExt.refl (n : Nat) (β : Beta) : BExt n β β := fun _ _ _ h => h
theorem BExt.trans {n : Nat} {a b c : Beta} (h : BExt n a b) (k : BExt n b c) : BExt n a c := fun id l hi hl => k id l hi (h id l hi hl)
theorem BExt.of {n : Nat} {a b : Beta} (h : ∀ id l, a id = some l → b id = some l) : BExt n a b := fun id l _ hl => h id l hl
def exitOf : Out → Exit
  | .norm => .normal
  | .exit id => .exit id
  | .ret => .ret
/-- Whatever comes, the code comes there. -/
def CodeOK (P : Program) (n : Nat) (c : Code) (s : AS) (o : Out) (s' : AS) : Prop :=
  ∀ (a : Act) (w : World) (S F : Nat → Prop) (β : Beta) (Q : Exit → Act → World → Prop), St s a w S F β →
    (∀ a' w' S' β', St s' a' w' S' F β' → Ext w S F w' S' → BExt n β β' → Q (exitOf o) a' w') → c.wp P Q a w
/-- A weakening of the state. -/
def Weak (n : Nat) (s s' : AS) : Prop := ∀ (a : Act) (w : World) (S F : Nat → Prop) (β : Beta), St s a w S F β → ∃ β', St s' a w S F β' ∧ BExt n β β'
def HintOK (n : Nat) (hint : Hint) : Prop := ∀ b i s s', hint b i s = some s' → Weak n s s'.as
/-- Some rounds of a loop. -/
def RoundsOK (P : Program) (n : Nat) (c : Code) (s : AS) (o : Out) (s' : AS) : Prop :=
  ∃ N, ∀ (a : Act) (w : World) (S F : Nat → Prop) (β : Beta) (Q : Exit → Act → World → Prop), St s a w S F β →
    (∀ a' w' S' β', St s' a' w' S' F β' → Ext w S F w' S' → BExt n β β' → Q (exitOf o) a' w') → Code.rounds P c Q N a w
/-- What LH tells of a loop is so. -/
def LoopOK {R : Type} (P : Program) (n : Nat) (LH : LoopK R) (b : Nat) (x : Code) : Prop :=
  ∀ ns k r, LH b x ns k = some r → ∃ o ns', RoundsOK P n x ns.as o ns'.as ∧ k o ns' = some r
/-- What LH tells of a range over a function is so. -/
def RangeOK {R : Type} (P : Program) (n : Nat) (LH : LoopK R) (b : Nat) (x : Code) : Prop :=
  ∀ ns k r, LH b x ns k = some r → ∃ o ns', CodeOK P n x ns.as o ns'.as ∧ k o ns' = some r
def LoopsOK {R : Type} (P : Program) (n : Nat) (LH : LoopK R) : Nat → Code → Prop
  | b, .seq x y => LoopsOK P n LH b x ∧ LoopsOK P n LH b y
  | b, .cond _ x y => LoopsOK P n LH b x ∧ LoopsOK P n LH b y
  | _, .block id x => LoopsOK P n LH id x
  | b, .loop x => LoopOK P n LH b x
  | b, .rangeFunc f p as_ x => RangeOK P n LH b (.rangeFunc f p as_ x)
  | _, _ => True
theorem evK_ok {R : Type} {P : Program} (hm : P.follows .mixedOrders = true) {T : Nat → TD} (hT : TOK P T) {CH : CallK R} (hC : CHOK P CH) {n : Nat} {hint : Hint} (hh : HintOK n hint) {LH : LoopK R} (c : Code) :
    ∀ (b : Nat) (s : AS) (k : Out → AS → Option R) (r : R), LoopsOK P n LH b c → evK ifK T CH hint LH b c s k = some r → ∃ o s', CodeOK P n c s o s' ∧ k o s' = some r := by
  induction c with
  | seq x y ihx ihy =>
    intro b s k r hl h
    simp only [evK] at h
    obtain ⟨o, s1, h1, h2⟩ := ihx b s _ r hl.1 h
    cases o with
    | norm =>
      obtain ⟨o2, s2, h3, h4⟩ := ihy b s1 k r hl.2 h2
      refine ⟨o2, s2, fun a w S F β Q hs hQ => wp_seq (h1 a w S F β _ hs (fun a' w' S' β' hs' hx hβ => ?_)), h4⟩
      exact h3 a' w' S' F β' Q hs' (fun a3 w3 S3 β3 hst3 hx3 hβ3 => hQ a3 w3 S3 β3 hst3 (hx.trans hx3) (hβ.trans hβ3))
    | exit id => exact ⟨_, s1, fun a w S F β Q hs hQ => wp_seq (h1 a w S F β _ hs (fun a' w' S' β' hs' hx hβ => hQ _ _ _ _ hs' hx hβ)), h2⟩
    | ret => exact ⟨_, s1, fun a w S F β Q hs hQ => wp_seq (h1 a w S F β _ hs (fun a' w' S' β' hs' hx hβ => hQ _ _ _ _ hs' hx hβ)), h2⟩
  | cond c x y ihx ihy =>
    intro b s k r hl h
    simp only [evK] at h
    obtain ⟨g, hg, h⟩ := boolK_some h
    have e : ∀ (a : Act) (w : World) (S F : Nat → Prop) (β : Beta), St s a w S F β → a.eval c = .bool g := by
      intro a w S F β hs
      unfold condB at hg
      split at hg
      · rename_i t' ht'; cases hg; exact (hs.opd ht').bool
      · simp at hg
    cases g with
    | true => obtain ⟨o, s', h1, h2⟩ := ihx b s k r hl.1 h; exact ⟨o, s', fun a w S F β Q hs hQ => wp_cond_true (e _ _ _ _ _ hs) (h1 a w S F β Q hs hQ), h2⟩
    | false => obtain ⟨o, s', h1, h2⟩ := ihy b s k r hl.2 h; exact ⟨o, s', fun a w S F β Q hs hQ => wp_cond_false (e _ _ _ _ _ hs) (h1 a w S F β Q hs hQ), h2⟩
  | block id x ih =>
    intro b s k r hl h
    simp only [evK] at h
    obtain ⟨o, s1, h1, h2⟩ := ih id s _ r hl h
    cases o with
    | norm => exact ⟨_, s1, fun a w S F β Q hs hQ => wp_block (h1 a w S F β _ hs (fun a' w' S' β' hs' hx hβ => hQ _ _ _ _ hs' hx hβ)), h2⟩
    | ret => exact ⟨_, s1, fun a w S F β Q hs hQ => wp_block (h1 a w S F β _ hs (fun a' w' S' β' hs' hx hβ => hQ _ _ _ _ hs' hx hβ)), h2⟩
    | exit j =>
      cases hb : Nat.beq j id with
      | true =>
        simp only [hb, cond_true] at h2
        refine ⟨.norm, s1, fun a w S F β Q hs hQ => wp_block (h1 a w S F β _ hs (fun a' w' S' β' hs' hx hβ => ?_)), h2⟩
        simp only [exitOf, Exit.inBlock, Nat.eq_of_beq_eq_true hb, if_true]
        exact hQ _ _ _ _ hs' hx hβ
      | false =>
        simp only [hb, cond_false] at h2
        refine ⟨.exit j, s1, fun a w S F β Q hs hQ => wp_block (h1 a w S F β _ hs (fun a' w' S' β' hs' hx hβ => ?_)), h2⟩
        have : j ≠ id := fun e => by subst e; rw [Nat.beq_refl] at hb; simp at hb
        simp only [exitOf, Exit.inBlock, this, if_false]
        exact hQ _ _ _ _ hs' hx hβ
  | loop x ih =>
    intro b s k r hl h
    simp only [evK] at h
    obtain ⟨s1, h1, h2⟩ := optK_some h
    obtain ⟨o, ns, h3, h4⟩ := hl s1 _ r h2
    refine ⟨o, ns.as, fun a w S F β Q hs hQ => ?_, h4⟩
    obtain ⟨β1, hst1, hβ1⟩ := hh _ _ _ _ h1 _ _ _ _ _ hs
    obtain ⟨N, hN⟩ := h3
    exact wp_loop_rounds N (hN a w S F β1 Q hst1 (fun a3 w3 S3 β3 hst3 hx3 hβ3 => hQ a3 w3 S3 β3 hst3 hx3 (hβ1.trans hβ3)))
  | rangeFunc f p as_ x _ _ =>
    intro b s k r hl h
    simp only [evK] at h
    obtain ⟨s1, h1, h2⟩ := optK_some h
    obtain ⟨o, ns, h3, h4⟩ := hl s1 _ r h2
    refine ⟨o, ns.as, fun a w S F β Q hs hQ => ?_, h4⟩
    obtain ⟨β1, hst1, hβ1⟩ := hh _ _ _ _ h1 _ _ _ _ _ hs
    exact h3 a w S F β1 Q hst1 (fun a3 w3 S3 β3 hst3 hx3 hβ3 => hQ a3 w3 S3 β3 hst3 hx3 (hβ1.trans hβ3))
  | region id ops draw =>
    intro b s k r hl h
    simp only [evK] at h
    cases hsp : (!draw && specReg T ops) with
    | true =>
      rw [hsp] at h
      simp only [cond_true] at h
      simp only [Bool.and_eq_true, Bool.not_eq_true'] at hsp
      obtain ⟨hdr, hsp⟩ := hsp
      subst hdr
      obtain ⟨s', h1, h2⟩ := evOpsS_wp hT hC (specReg_nodup hsp) ops.size 0 (by omega) s [] _ r (by simpa using h)
      refine ⟨.norm, next s', fun a w S F β Q hs hQ => wp_region ?_, h1⟩
      rw [List.range_eq_range']
      exact h2 a w S F β Q (SInv.start hs) (fun a' w' S' β' hst hx hβ => hQ _ _ _ _ ⟨hst.inv, hst.marks, hst.nt, hst.env⟩ hx (BExt.of hβ))
    | false =>
    rw [hsp] at h
    simp only [cond_false] at h
    obtain ⟨tr, s', h1, h2⟩ := evOpsK_steps hT hC (ops := ops) ops.size 0 (by omega) s [] _ r (by simpa using h)
    simp only [List.reverse_nil, List.nil_append] at h2
    cases hd : draw && !orderOk ops tr with
    | true => rw [hd] at h2; simp at h2
    | false =>
      rw [hd] at h2
      simp only [cond_false] at h2
      refine ⟨.norm, next s', fun a w S F β Q hs hQ => ?_, h2⟩
      have hQ' : ∀ a' w' S' β', St s' a' w' S' F β' → Ext w S F w' S' → (∀ id l, β id = some l → β' id = some l) → Q .normal a' w' :=
        fun a' w' S' β' hst hx hβ => hQ _ _ _ _ ⟨hst.inv, hst.marks, hst.nt, hst.env⟩ hx (BExt.of hβ)
      cases draw with
      | true =>
        have hok : orderOk ops tr = true := by simpa using hd
        exact region_any hm h1 hok hs hQ'
      | false =>
        refine wp_region ?_
        rw [List.range_eq_range']
        exact steps_wp h1 ops.size (by omega) a w S β hs hQ'
  | skip => intro b s k r hl h; exact ⟨.norm, s, fun a w S F β Q hs hQ => wp_skip (hQ a w S β hs (Ext.refl _ _ _) (BExt.refl _ _)), h⟩
  | ret => intro b s k r hl h; exact ⟨.ret, s, fun a w S F β Q hs hQ => wp_ret (hQ a w S β hs (Ext.refl _ _ _) (BExt.refl _ _)), h⟩
  | exit id => intro b s k r hl h; exact ⟨.exit id, s, fun a w S F β Q hs hQ => wp_exit (hQ a w S β hs (Ext.refl _ _ _) (BExt.refl _ _)), h⟩
  | _ => intro b s k r hl h; simp [evK] at h
end Go.Tt
