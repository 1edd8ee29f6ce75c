import Derived.Test.YtfiahgfjepaiiaaGreatDoorVA8
import Derived.Laws.Small
import Derived.Laws.Cover3
import Derived.Laws.StructEq
set_option linter.unusedVariables false
set_option linter.unusedSimpArgs false
namespace Go.Tt

theorem wrap_wf' (k : IntKind) (n : Int) : (Lit.int k (k.wrap n)).wf = true := by
  cases k <;> simp [Lit.wf, IntKind.wrap, IntKind.min, IntKind.max, IntKind.signed, IntKind.bits] <;> (try split) <;> omega
theorem tmod_bd (a b : Int) : (0 ≤ a → 0 ≤ a.tmod b ∧ a.tmod b ≤ a) ∧ (a ≤ 0 → a ≤ a.tmod b ∧ a.tmod b ≤ 0) := by
  have h0 : ∀ c : Int, 0 ≤ c → 0 ≤ c.tmod b ∧ c.tmod b ≤ c := fun c hc => by
    have h1 := Int.tmod_nonneg b hc
    have h2 := Int.natAbs_tmod c b
    have h3 : c.natAbs % b.natAbs ≤ c.natAbs := Nat.mod_le _ _
    omega
  refine ⟨h0 a, fun ha => ?_⟩
  have := h0 (-a) (by omega)
  rw [Int.neg_tmod] at this
  omega
theorem tmod_wf {k : IntKind} {a b : Int} (ha : (Lit.int k a).wf = true) : (Lit.int k (a.tmod b)).wf = true := by
  have := tmod_bd a b
  cases k <;> simp [Lit.wf, IntKind.min, IntKind.max, IntKind.signed, IntKind.bits] at ha ⊢ <;> omega
theorem fdiv_wf {k : IntKind} {a : Int} (ha : (Lit.int k a).wf = true) (n : Nat) : (Lit.int k (a.fdiv (2 ^ n))).wf = true := by
  have hp : (0 : Int) < 2 ^ n := Int.pow_pos (by decide)
  rw [Int.fdiv_eq_ediv_of_nonneg a (Int.le_of_lt hp)]
  have h1 : 0 ≤ a → 0 ≤ a / 2 ^ n ∧ a / 2 ^ n ≤ a := fun h => ⟨Int.ediv_nonneg h (Int.le_of_lt hp), Int.ediv_le_self _ h⟩
  have h2 : a ≤ 0 → a ≤ a / 2 ^ n ∧ a / 2 ^ n ≤ 0 := fun h => by
    constructor
    · rw [Int.le_ediv_iff_mul_le hp]
      have : a * 2 ^ n ≤ a * 1 := Int.mul_le_mul_of_nonpos_left h (by omega)
      omega
    · exact (by have := Int.ediv_le_ediv hp h; simpa using this)
  cases k <;> simp [Lit.wf, IntKind.min, IntKind.max, IntKind.signed, IntKind.bits] at ha ⊢ <;> omega
theorem boolT_under {P : Program} {T : Nat → TD} (hT : TOK P T) {t : Nat} (h : boolT (T t) = true) : P.underlying t = some .bool := by
  cases hd : T t <;> rw [hd] at h <;> simp [boolT] at h
  rename_i z
  cases z <;> simp at h
  have c := hT t
  rw [hd] at c
  obtain ⟨i, d, v, h1, h2, h3, h4, h5, h6, h7⟩ := chk_scalar c
  rw [h2]; cases d <;> simp [kindOk] at h7 ⊢
theorem binV_ok {P : Program} {op : BinOp} {x y r : C} (h : binV op x y = some (true, r)) {w : World} {S : Nat → Prop} {β : Beta} {a b : Value} (ha : RepC w S β x a) (hb : RepC w S β y b) (t : TypeId) :
    ∃ v, (binOp op t a b).run P w = .ok v w ∧ RepC w S β r v ∧ ∀ p q, (eqGuard op t p q a b).run P w = .ok () w := by
  unfold binV at h
  split at h
  · rename_i k a' k' b'
    cases hk : decide (k = k') with
    | false => rw [hk] at h; simp at h
    | true =>
      rw [hk] at h
      have hk := of_decide_eq_true hk
      subst hk
      simp only [cond_true] at h
      cases ha; rename_i wa; cases hb; rename_i wb
      have g : ∀ p q, (eqGuard op t p q (.int k a') (.int k b')).run P w = .ok () w := by
        intro p q; unfold eqGuard; cases op <;> simp
      cases op <;> simp only [Option.some.injEq, Prod.mk.injEq, reduceCtorEq, true_and] at h
      all_goals first
        | (subst h; exact ⟨_, by simp [binOp, Op.intArith], .i _ _ (wrap_wf' _ _), g⟩)
        | (subst h; exact ⟨_, by simp [binOp, Op.intCmp]; rfl, .b _, g⟩)
        | (obtain ⟨h1, rfl⟩ := h
           have h2 : ¬ b' = 0 := by intro e; subst e; simp [ieq] at h1
           first
             | exact ⟨_, by simp [binOp, Op.intDiv, h2], .i _ _ (wrap_wf' _ _), g⟩
             | exact ⟨_, by simp [binOp, Op.intDiv, h2], .i _ _ (tmod_wf wa), g⟩)
  · rename_i a' b'
    cases ha; rename_i wa; cases hb; rename_i wb
    have g : ∀ p q, (eqGuard op t p q (.string a') (.string b')).run P w = .ok () w := by
      intro p q; unfold eqGuard; cases op <;> simp
    cases op <;> simp only [Option.some.injEq, Prod.mk.injEq, reduceCtorEq, true_and] at h
    all_goals first
      | (subst h; exact ⟨_, by simp [binOp, Op.stringOp]; rfl, .b _, g⟩)
      | (obtain ⟨h1, rfl⟩ := h
         have h2 := of_decide_eq_true h1
         refine ⟨.string (a' ++ b'), ?_, .s _ (by rw [ByteArray.size_append]; exact h2), g⟩
         simp only [binOp, Op.stringOp]
         rw [if_neg (by simp [IntKind.max, IntKind.signed, IntKind.bits]; omega)]; rfl)
  · simp at h
theorem pn_under {P : Program} {T : Nat → TD} (hT : TOK P T) {t : Nat} (h : T t = .scalar .pn) : ∃ e, P.underlying t = some (.pointer e) := by
  have c := hT t
  rw [h] at c
  obtain ⟨i, d, v, h1, h2, h3, h4, h5, h6, h7⟩ := chk_scalar c
  cases d <;> simp [kindOk] at h7
  exact ⟨_, h2⟩
theorem fn_under {P : Program} {T : Nat → TD} (hT : TOK P T) {t : Nat} (h : T t = .scalar .fnil) : ∃ a b c, P.underlying t = some (.func a b c) := by
  have c := hT t
  rw [h] at c
  obtain ⟨i, d, v, h1, h2, h3, h4, h5, h6, h7⟩ := chk_scalar c
  cases d <;> simp [kindOk] at h7
  exact ⟨_, _, _, h2⟩
theorem L_cons_some {w : World} {S : Nat → Prop} {β : Beta} {τ : ET} {y : τ.T} {ys : List τ.T} {a : Value} (h : RepC w S β (.L τ (y :: ys)) a) : ∃ p n c, a = .slice (some p) n c := by
  obtain ⟨A, cap, news, rfl, _, hr⟩ := h.readL
  obtain ⟨b, o, rfl⟩ := hr.addr (by simp)
  exact ⟨_, _, _, rfl⟩
theorem run_equalIn_ptr {P : Program} (w : World) (d : Nat) (t e : TypeId) (p : Option Addr) (h : P.underlying t = some (.pointer e)) : (Op.equalIn (d + 1) t (.pointer p) (.pointer none)).run P w = .ok p.isNone w := by
  cases p <;> simp [Op.equalIn, run_underlying h]
theorem run_equalIn_fn {P : Program} (w : World) (d : Nat) (t : TypeId) {e1 e2 e3} (f : Fn) (a b : Array Value) (h : P.underlying t = some (.func e1 e2 e3)) : (Op.equalIn (d + 1) t (.func f a b) .nilFunc).run P w = .ok false w := by
  simp [Op.equalIn, run_underlying h]
theorem run_equalIn_fnn {P : Program} (w : World) (d : Nat) (t : TypeId) {e1 e2 e3} (h : P.underlying t = some (.func e1 e2 e3)) : (Op.equalIn (d + 1) t .nilFunc .nilFunc).run P w = .ok true w := by
  simp [Op.equalIn, run_underlying h]
theorem nil_eq {P : Program} {T : Nat → TD} (hT : TOK P T) {t : Nat} {x y : C} {r : Bool} (hy : isNil (T t) y = true) (h : nilCmp (T t) x = some r) {w : World} {S : Nat → Prop} {β : Beta} {a b : Value} (ha : RepC w S β x a) (hb : RepC w S β y b) (op : BinOp) (hop : op = .eql ∨ op = .neq) :
    (binOp op t a b).run P w = .ok (.bool (if op = .eql then r else !r)) w ∧ ∀ p q, (eqGuard op t p q a b).run P w = .ok () w := by
  cases hd : T t with
  | none => rw [hd] at hy; simp [isNil] at hy
  | struct o z => rw [hd] at hy; simp [isNil] at hy
  | slice τ =>
    rw [hd] at hy h
    obtain ⟨e, hu⟩ := isSlc_under (t := t) hT (by rw [hd]; rfl)
    cases y <;> simp [isNil] at hy
    cases hb
    cases x with
    | nl =>
      simp [nilCmp] at h; subst h; cases ha
      rcases hop with rfl | rfl <;> simp [binOp, Op.equal, Op.maxDepth, run_equalIn_slice_nil w _ t e _ _ _ hu, eqGuard]
    | L τ' xs =>
      cases xs with
      | nil => simp [nilCmp] at h
      | cons y ys =>
        simp [nilCmp] at h; subst h
        obtain ⟨p, n, c, rfl⟩ := L_cons_some ha
        rcases hop with rfl | rfl <;> simp [binOp, Op.equal, Op.maxDepth, run_equalIn_slice_nil w _ t e _ _ _ hu, eqGuard]
    | Lx τ' xs =>
        simp [nilCmp] at h; subst h
        cases ha with
        | Lx _ _ A cap ha =>
          rcases hop with rfl | rfl <;> simp [binOp, Op.equal, Op.maxDepth, run_equalIn_slice_nil w _ t e _ _ _ hu, eqGuard]
    | _ => simp [nilCmp] at h
  | map τ =>
    rw [hd] at hy h
    obtain ⟨τ', k, e, j, z, _, hu, _⟩ := isMp_under (t := t) hT (by rw [hd]; rfl)
    cases y <;> simp [isNil] at hy
    cases hb
    cases x with
    | mn =>
      simp [nilCmp] at h; subst h; cases ha
      rcases hop with rfl | rfl <;> simp [binOp, Op.equal, Op.maxDepth, run_equalIn_map_nil w _ t k e _ hu, eqGuard]
    | m id =>
      simp [nilCmp] at h; subst h; cases ha
      rcases hop with rfl | rfl <;> simp [binOp, Op.equal, Op.maxDepth, run_equalIn_map_nil w _ t k e _ hu, eqGuard]
    | _ => simp [nilCmp] at h
  | scalar z =>
    rw [hd] at hy h
    cases z <;> cases y <;> simp [isNil] at hy
    · obtain ⟨e, hu⟩ := pn_under hT hd
      cases hb
      cases x <;> simp [nilCmp] at h <;> subst h <;> cases ha <;> rcases hop with rfl | rfl <;> simp [binOp, Op.equal, Op.maxDepth, run_equalIn_ptr w _ t e _ hu, eqGuard]
    · obtain ⟨e1, e2, e3, hu⟩ := fn_under hT hd
      cases hb
      cases x <;> simp [nilCmp] at h <;> subst h <;> cases ha <;> rcases hop with rfl | rfl <;> simp [binOp, Op.equal, Op.maxDepth, run_equalIn_fn w _ t _ _ _ hu, run_equalIn_fnn w _ t hu, eqGuard]
theorem binG_ok {P : Program} {T : Nat → TD} (hT : TOK P T) {t : Nat} {op : BinOp} {x y r : C} (h : binG (T t) op x y = some (true, r)) {w : World} {S : Nat → Prop} {β : Beta} {a b : Value} (ha : RepC w S β x a) (hb : RepC w S β y b) :
    ∃ v, (binOp op t a b).run P w = .ok v w ∧ RepC w S β r v ∧ ∀ p q, (eqGuard op t p q a b).run P w = .ok () w := by
  unfold binG at h
  split at h
  · rename_i k a' k' b'
    simp only [Option.some.injEq, Prod.mk.injEq] at h
    obtain ⟨h1, rfl⟩ := h
    have h1 : 0 ≤ b' := of_decide_eq_true h1
    cases ha; rename_i wa; cases hb; rename_i wb
    refine ⟨.int k (ishr k a' b'), ?_, .i _ _ (fdiv_wf wa _), fun p q => by simp [eqGuard]⟩
    have : ¬ b' < 0 := by omega
    simp [binOp, Op.shift, this, ishr]
  · rename_i a' b'
    cases hd : boolT (T t) with
    | false => rw [hd] at h; simp at h
    | true =>
      rw [hd] at h; simp at h; subst h
      cases ha; cases hb
      exact ⟨.bool (a' == b'), by simp [binOp, run_equal_bool w t a' b' (boolT_under hT hd)], .b _, fun p q => by simp [eqGuard]⟩
  · rename_i a' b'
    cases hd : boolT (T t) with
    | false => rw [hd] at h; simp at h
    | true =>
      rw [hd] at h; simp at h; subst h
      cases ha; cases hb
      exact ⟨.bool (!(a' == b')), by simp [binOp, run_equal_bool w t a' b' (boolT_under hT hd)], .b _, fun p q => by simp [eqGuard]⟩
  · cases hn : isNil (T t) y with
    | false => rw [hn] at h; simp only at h; exact binV_ok h ha hb t
    | true =>
      rw [hn] at h
      cases op <;> simp only [reduceCtorEq, Option.map_eq_some_iff, Prod.mk.injEq, true_and] at h
      · obtain ⟨r', hr, rfl⟩ := h
        have := nil_eq hT hn hr ha hb .eql (.inl rfl)
        exact ⟨.bool r', by simpa using this.1, .b _, this.2⟩
      · obtain ⟨r', hr, rfl⟩ := h
        have := nil_eq hT hn hr ha hb .neq (.inr rfl)
        exact ⟨.bool (!r'), by simpa using this.1, .b _, this.2⟩
theorem part_flat {P : Program} (w : World) {t : TypeId} {d : TypeDesc} (h : P.underlying t = some d) (ha : aggD d = false) {xs : Array Value} {n : Nat} {v : Value} (hv : xs[n]? = some v) : (part t xs n).run P w = .ok v w := by
  have : (isAgg t).run P w = .ok false w := by
    simp only [isAgg, Sem.run_bind, run_underlying h, Result.andThen_ok]
    cases d <;> simp [aggD] at ha <;> rfl
  simp only [part, Sem.run_bind, this, Result.andThen_ok, Bool.false_eq_true, if_false, hv, Sem.run_pure]
theorem eqFields_ok {P : Program} (w : World) {S : Nat → Prop} {β : Beta} (d : Nat) {vx vy : Array Value} : ∀ (fs : List Field) (n : Nat) (z x y : List C) (r : Bool), flatOk P fs n z = true → aggEq z x y = some r →
    All2 (RC w S β) x (vx.toList.drop n) → All2 (RC w S β) y (vy.toList.drop n) → (Op.eqFields (d + 1) vx vy fs).run P w = .ok r w := by
  intro fs
  induction fs with
  | nil =>
    intro n z x y r hf he hx hy
    cases z with
    | nil => simp [aggEq] at he
    | cons c cs => simp [flatOk] at hf
  | cons f fs ih =>
    intro n z x y r hf he hx hy
    cases z with
    | nil => simp [flatOk] at hf
    | cons c cs =>
    simp only [flatOk, Bool.and_eq_true, decide_eq_true_eq] at hf
    obtain ⟨⟨⟨hn, ho⟩, hk⟩, hr⟩ := hf
    split at hk
    · rename_i dd hu
      simp only [Bool.and_eq_true, Bool.not_eq_true'] at hk
      obtain ⟨hk, ha⟩ := hk
      have dr : ∀ (v : Array Value) (a : Value) (l : List Value), v.toList.drop n = a :: l → v[n]? = some a ∧ v.toList.drop (n + 1) = l := by
        intro v a l h
        constructor
        · have : (v.toList.drop n)[0]? = some a := by rw [h]; rfl
          rw [List.getElem?_drop] at this; simpa using this
        · have := congrArg (List.drop 1) h; rw [List.drop_drop] at this; simpa using this
      -- one field
      have key : ∀ (a b : C) (x' y' : List C) (q : Bool), x = a :: x' → y = b :: y' → (∀ (va vb : Value), RepC w S β a va → RepC w S β b vb → (Op.equalIn (d + 1) f.type va vb).run P w = .ok q w) →
          (cs = [] → r = q) → (cs ≠ [] → ∃ r', aggEq cs x' y' = some r' ∧ r = (q && r')) → (Op.eqFields (d + 1) vx vy (f :: fs)).run P w = .ok r w := by
        intro a b x' y' q hxa hyb hq hnil hcons
        subst hxa hyb
        generalize hvx : vx.toList.drop n = lx at hx
        generalize hvy : vy.toList.drop n = ly at hy
        cases hx with
        | cons px qx =>
        cases hy with
        | cons py qy =>
        obtain ⟨gx, dx⟩ := dr _ _ _ hvx
        obtain ⟨gy, dy⟩ := dr _ _ _ hvy
        subst ho
        simp only [Op.eqFields, hn, ne_eq, not_false_eq_true, if_true, Sem.run_bind, part_flat w hu ha gx, part_flat w hu ha gy, Result.andThen_ok, hq _ _ px.1 py.1]
        cases cs with
        | nil =>
          rw [hnil rfl]
          cases fs with
          | nil => cases q <;> simp [Op.eqFields]
          | cons g gs => simp [flatOk] at hr
        | cons c2 cs2 =>
          obtain ⟨r', h1, h2⟩ := hcons (by simp)
          cases q with
          | false => simp at h2; subst h2; simp
          | true =>
            simp at h2; subst h2
            simp only [Bool.not_true, Bool.false_eq_true, if_false]
            exact ih (f.offset + 1) (c2 :: cs2) _ _ r hr h1 (by rw [dx]; exact qx) (by rw [dy]; exact qy)
      unfold aggEq at he
      split at he
      · rename_i s0 a b hz; cases hz; simp at he; subst he
        cases dd <;> simp [kindOk] at hk
        exact key _ _ _ _ _ rfl rfl (fun va vb h1 h2 => by cases h1; cases h2; rw [run_equalIn_string w d _ _ _ hu]; rfl) (fun _ => rfl) (fun h => absurd rfl h)
      · rename_i s0 a b hz; cases hz; simp at he; subst he
        cases dd <;> simp [kindOk] at hk
        exact key _ _ _ _ _ rfl rfl (fun va vb h1 h2 => by cases h1; cases h2; rw [run_equalIn_bool' w d _ _ _ hu]) (fun _ => rfl) (fun h => absurd rfl h)
      · rename_i k0 n0 k1 a k2 b hz
        cases hz
        cases hkk : (decide (k0 = k1) && decide (k1 = k2)) with
        | false => rw [hkk] at he; simp at he
        | true =>
          rw [hkk] at he
          simp only [Bool.and_eq_true, decide_eq_true_eq] at hkk
          obtain ⟨rfl, rfl⟩ := hkk
          simp at he; subst he
          cases dd <;> simp [kindOk] at hk
          exact key _ _ _ _ _ rfl rfl (fun va vb h1 h2 => by cases h1; cases h2; rw [run_equalIn_int w d _ _ _ _ _ hu]; rfl) (fun _ => rfl) (fun h => absurd rfl h)
      · rename_i s0 z' a x' b y' _ hz
        cases hz
        simp only [Option.map_eq_some_iff] at he
        obtain ⟨r', h1, rfl⟩ := he
        cases dd <;> simp [kindOk] at hk
        refine key _ _ _ _ (seq a b) rfl rfl (fun va vb h1 h2 => by cases h1; cases h2; rw [run_equalIn_string w d _ _ _ hu]; rfl) (fun hc => ?_) (fun hc => ⟨r', h1, rfl⟩)
        subst hc; simp [aggEq] at h1
      · rename_i s0 z' a x' b y' _ hz
        cases hz
        simp only [Option.map_eq_some_iff] at he
        obtain ⟨r', h1, rfl⟩ := he
        cases dd <;> simp [kindOk] at hk
        refine key _ _ _ _ (beq2 a b) rfl rfl (fun va vb h1 h2 => by cases h1; cases h2; rw [run_equalIn_bool' w d _ _ _ hu]) (fun hc => ?_) (fun hc => ⟨r', h1, rfl⟩)
        subst hc; simp [aggEq] at h1
      · rename_i k0 n0 z' k1 a x' k2 b y' _ hz
        cases hz
        cases hkk : (decide (k0 = k1) && decide (k1 = k2)) with
        | false => rw [hkk] at he; simp at he
        | true =>
          rw [hkk] at he
          simp only [Bool.and_eq_true, decide_eq_true_eq] at hkk
          obtain ⟨rfl, rfl⟩ := hkk
          simp only [cond_true, Option.map_eq_some_iff] at he
          obtain ⟨r', h1, rfl⟩ := he
          cases dd <;> simp [kindOk] at hk
          refine key _ _ _ _ (ieq a b) rfl rfl (fun va vb h1 h2 => by cases h1; cases h2; rw [run_equalIn_int w d _ _ _ _ _ hu]; rfl) (fun hc => ?_) (fun hc => ⟨r', h1, rfl⟩)
          subst hc; simp [aggEq] at h1
      · simp at he
    · simp at hk
theorem aggCmp_ok {P : Program} {T : Nat → TD} (hT : TOK P T) {t : Nat} {op : BinOp} {x y : List C} {r : Bool} (h : aggCmp (T t) op x y = some r) {w : World} {S : Nat → Prop} {β : Beta} {a b : Array Value} (ha : All2 (RC w S β) x a.toList) (hb : All2 (RC w S β) y b.toList) :
    (binOp op t (.agg a) (.agg b)).run P w = .ok (.bool r) w ∧ ∀ p q, (eqGuard op t p q (.agg a) (.agg b)).run P w = .ok () w := by
  unfold aggCmp at h
  split at h
  · rename_i offs z hd
    cases hz : flatZ z with
    | false => rw [hz] at h; simp at h
    | true =>
      rw [hz] at h
      simp only [cond_true] at h
      have c := hT t
      rw [hd] at c
      obtain ⟨fs, hu, hs, hg, hf⟩ := chk_flat c hz
      have hfo : P.fieldsOf t = fs := by simp [Program.fieldsOf, hu]
      have hu' : P.underlying t = some (.struct (P.fieldsOf t)) := by rw [hfo]; exact hu
      have key : ∀ r', aggEq z x y = some r' → (Op.equalIn 10000 t (.agg a) (.agg b)).run P w = .ok r' w := by
        intro r' he
        rw [run_equalIn_struct w 9999 t a b hu' hs, hfo]
        exact eqFields_ok w 9998 fs.toList 0 z x y r' hf he (by simpa using ha) (by simpa using hb)
      split at h
      · exact ⟨by rw [run_eql_struct, key r h]; rfl, fun p q => run_eqGuard_agg w _ t p q a b hg⟩
      · simp only [Option.map_eq_some_iff] at h
        obtain ⟨r', h1, rfl⟩ := h
        exact ⟨by rw [run_neq_struct, key r' h1]; rfl, fun p q => run_eqGuard_agg w _ t p q a b hg⟩
      · simp at h
  · simp at h
end Go.Tt
