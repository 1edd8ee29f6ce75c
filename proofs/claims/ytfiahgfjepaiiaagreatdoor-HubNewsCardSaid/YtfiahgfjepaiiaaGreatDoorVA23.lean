import Derived.Test.YtfiahgfjepaiiaaGreatDoorVA22
import Derived.RangeFuncLeaves
import Derived.RangeFuncRecord
set_option linter.unusedVariables false
set_option linter.unusedSimpArgs false
namespace Go.Tt

theorem RepV.anyβ {w : World} {S : Nat → Prop} {β : Beta} {v : V} {x : Value} (h : RepV w S β v x) (hp : v.pure = true) (β' : Beta) : RepV w S β' v x := by
  have u : ∀ (u : U) (y : Value), RepU w S β u y → u.pure = true → RepU w S β' u y := by
    intro u y h hp
    cases h with
    | c h => exact .c (h.anyβ hp _)
    | agg h =>
      refine .agg ?_
      rename_i cs vs
      simp only [U.pure] at hp
      revert h hp
      generalize vs.toList = l
      intro h hp
      induction h with
      | nil => exact .nil
      | cons p _ ih =>
        simp only [List.all_cons, Bool.and_eq_true] at hp
        exact .cons ⟨p.1.anyβ hp.1 _, p.2⟩ (ih hp.2)
  cases h with
  | u h => exact .u (u _ _ h hp)
  | tup h =>
    refine .tup ?_
    rename_i cs vs
    simp only [V.pure] at hp
    revert h hp
    generalize vs.toList = l
    intro h hp
    induction h with
    | nil => exact .nil
    | cons p _ ih =>
      simp only [List.all_cons, Bool.and_eq_true] at hp
      exact .cons (u _ _ p hp.1) (ih hp.2)
  | nx c i r h => exact .nx c i r h

/-! ### Results -/
theorem loadVar_of_loadG {P : Program} {T : Nat → TD} (hT : TOK P T) {t : Nat} {σ : Store} {w : World} {S F : Nat → Prop} {β : Beta} (hi : Inv w S F β σ) {v r : V} {x : Value} (hv : RepV w S β v x) (h : loadG T t σ v = some r) :
    ∃ y, (do loadVar t (← asAddr x) : Sem Value).run P w = .ok y w ∧ RepV w S β r y := by
  obtain ⟨y, hy, hr⟩ := loadG_ok hT hi (Sub.refl _) hv h
  refine ⟨y, ?_, hr⟩
  have : ∃ A, x = .pointer (some A) := by
    unfold loadG at h
    split at h
    · obtain ⟨l, b, _, _, rfl⟩ := hv.ptr; exact ⟨_, rfl⟩
    · have := hv.cell; cases this; exact ⟨_, rfl⟩
    · have := hv.cell; cases this; exact ⟨_, rfl⟩
    · simp at h
  obtain ⟨A, rfl⟩ := this
  simpa [Instr.loadAt, Instr.sureAddr, asAddr] using hy
def resM (tmps : Array Value) : ResultVar → Sem Value
  | .tmp t => pure (tmps.getD t undef)
  | .cell a t => do loadVar t (← asAddr (tmps.getD a undef))
theorem resV_ok {P : Program} {T : Nat → TD} (hT : TOK P T) {s : AS} {a : Act} {w : World} {S F : Nat → Prop} {β : Beta} (hs : St s a w S F β) : ∀ {rs : List ResultVar} {us : List U}, resV T s rs = some us →
    ∃ vs, (rs.mapM (resM a.tmps)).run P w = .ok vs w ∧ All2 (RepU w S β) us vs
  | [], us, h => by simp [resV] at h; subst h; exact ⟨[], rfl, .nil⟩
  | .tmp t :: r, us, h => by
    simp only [resV] at h
    split at h
    · rename_i v vs h1 h2
      cases h
      obtain ⟨ws, hw, hr⟩ := resV_ok hT hs h2
      have := hs.env t
      rw [h1] at this
      cases this with | u hu =>
      refine ⟨a.tmps.getD t undef :: ws, ?_, .cons hu hr⟩
      simp only [List.mapM_cons, Sem.run_bind, hw, resM, Sem.run_pure, Result.andThen_ok]
    · simp at h
  | .cell p t :: r, us, h => by
    simp only [resV] at h
    split at h
    · rename_i v vs h1 h2
      cases h
      obtain ⟨ws, hw, hr⟩ := resV_ok hT hs h2
      obtain ⟨y, hy, hyr⟩ := loadVar_of_loadG hT hs.inv (hs.env p) h1
      cases hyr with | u hu =>
      refine ⟨y :: ws, ?_, .cons hu hr⟩
      have hy' : (resM a.tmps (.cell p t)).run P w = .ok y w := hy
      simp only [List.mapM_cons, Sem.run_bind, hw, hy', Sem.run_pure, Result.andThen_ok]
    · simp at h
theorem results_ok {P : Program} {T : Nat → TD} (hT : TOK P T) {fn : Func} {s : AS} {a : Act} {w : World} {S F : Nat → Prop} {β : Beta} (hs : St s a w S F β) {us : List U} (h : resV T s fn.results.toList = some us) :
    ∃ v, (results fn a.tmps).run P w = .ok v w ∧ RepV w S β (resT us) v := by
  obtain ⟨vs, hv, hr⟩ := resV_ok hT hs h
  have e : (fn.results.mapM (resM a.tmps)).run P w = .ok vs.toArray w := by
    rw [Array.mapM_eq_mapM_toList, Sem.run_map, hv]; rfl
  have e2 : (results fn a.tmps).run P w = .ok (if h : vs.toArray.size = 1 then vs.toArray[0] else .tuple vs.toArray) w := by
    show ((fn.results.mapM (resM a.tmps)) >>= fun vs => pure (if h : vs.size = 1 then vs[0] else .tuple vs)).run P w = _
    rw [Sem.run_bind, e]; rfl
  refine ⟨_, e2, ?_⟩
  cases hr with
  | nil => exact .tup .nil
  | cons p q => cases q with
    | nil => exact .u p
    | cons p2 q2 => exact .tup (by simpa using (All2.cons p (.cons p2 q2)))

theorem argsA_rep {w : World} {S : Nat → Prop} {β : Beta} : ∀ {args : List V} {vals : List Value} (n : Nat) (g : Nat → Value), All2 (RepV w S β) args vals → (∀ j, j < vals.length → g (n + j) = vals.getD j undef) → ∀ p ∈ argsA args n, RepV w S β p.2 (g p.1)
  | [], _, _, _, _, _, p, hp => by simp [argsA] at hp
  | v :: r, vals, n, g, h, hg, p, hp => by
    cases h with
    | cons hv hr =>
      rename_i y ys
      simp only [argsA, List.mem_cons] at hp
      rcases hp with rfl | hp
      · have := hg 0 (by simp); simp at this; rw [this]; exact hv
      · exact argsA_rep (n + 1) g hr (fun j hj => by have := hg (j + 1) (by simpa using hj); rw [Nat.add_assoc, Nat.add_comm 1 j]; simpa using this) p hp

/-! ### Leaving with marks -/
def PostM (P : Program) (fn : Func) (R : Ending → World → Prop) (t : Array Value) : List Deferred → World → Prop
  | [], w => ∃ v, (results fn t).run P w = .ok v w ∧ R (.returned v) w
  | d :: ds, w => ∃ D, d.target = .collected D ∧ w.heap[D]? = some (.deferred (some [])) ∧ PostM P fn R t ds (w.putObj D (.deferred none))
theorem PostM.leaves {P : Program} {fn : Func} {R : Ending → World → Prop} {t : Array Value} : ∀ {ds : List Deferred} {w : World}, PostM P fn R t ds w → LeavesInM Fence.wide 0 P fn t R ds .returning w
  | [], w, h => h
  | d :: ds, w, h => by
    obtain ⟨D, h1, h2, h3⟩ := h
    exact ⟨by simp, .inl ⟨D, _, h1, run_takeDeferred h2, h3.leaves⟩⟩
theorem calls_of_wp_marked {P : Program} {f : FuncId} {fn : Func} {c : Code} {args : Array Value} {w : World} {R : Ending → World → Prop} (hf : P.funcs[f]? = some fn) (hb : fn.body = some c) {Q : Exit → Act → World → Prop}
    (hQ : ∀ e a w, Q e a w → (e = .normal ∨ e = .ret) ∧ PostM P fn R a.tmps a.defers w)
    (h : c.wp P Q { tmps := args ++ Array.replicate (fn.ntmps - args.size) undef, defers := [] } w) : Calls P f args w R := by
  refine (callsIn_wide (n := 0)).1 (callsIn_of_wp_marks hf hb trivial (wpIn_mono ((wpIn_wide (n := 0)).2 h) ?_) rfl)
  intro e a w hq
  obtain ⟨rfl | rfl, h⟩ := hQ e a w hq
  · exact h.leaves
  · exact h.leaves
/-- A block of cells. -/
def CellB (w : World) (b : Nat) : Prop := ∃ c e z, w.heap[b]? = some (.cells c e z)
theorem cellB_of {w : World} {b o : Nat} {v : Value} (h : w.cell? ⟨b, o, none⟩ = some v) : CellB w b := by
  unfold World.cell? at h
  cases ho : w.heap[b]? with
  | none => simp [ho] at h
  | some x => cases x <;> simp [ho] at h; exact ⟨_, _, _, ho⟩
theorem RepC.away {w w' : World} {S S2 : Nat → Prop} {β : Beta} (hk : ∀ b, S b → CellB w b → S2 b ∧ w'.heap[b]? = w.heap[b]?) {c : C} {v : Value} (h : RepC w S β c v) : RepC w' S2 β c v := by
  induction h with
  | bot v => exact .bot v
  | un => exact .un
  | b x => exact .b x
  | i k n h => exact .i k n h
  | s x h => exact .s x h
  | L τ xs A cap b o vals hc hb hn hA hv hr ih =>
    have hp := size_pos τ
    have key : 0 < xs.length → S2 b ∧ w'.heap[b]? = w.heap[b]? := fun h0 => hk b (hA h0).2 (cellB_of (hv 0 0 h0 hp))
    refine .L τ xs A cap b o vals hc hb hn (fun h0 => ⟨(hA h0).1, (key h0).1⟩) (fun j q hj hq => ?_) (fun j q x y hx hy => ih j q x y hx hy)
    rw [cell_of_keep (key (by omega)).2]
    exact hv j q hj hq
  | Lx τ xs A cap _ ih => exact .Lx τ xs A cap ih
  | nl => exact .nl
  | zc τ A => exact .zc τ A
  | row τ id l h => exact .row τ id l h
  | p id off l b h hb => exact .p id off l b h hb
  | lp τ x c b o vals hS' hv hr ih =>
    have hp := size_pos τ
    have key := hk b hS' (cellB_of (hv 0 hp))
    refine .lp τ x c b o vals key.1 (fun q hq => ?_) (fun q y hy => ih q y hy)
    rw [cell_of_keep key.2]
    exact hv q hq
  | rp τ id i c l b h hb h0 h1 => exact .rp τ id i c l b h hb h0 h1
  | pn => exact .pn
  | fn f first caps vf vc hf hc => exact .fn f first caps vf vc hf hc
  | fnil => exact .fnil
  | m id l b h hb => exact .m id l b h hb
  | mn => exact .mn
  | inil => exact .inil
section away
variable {w w' : World} {S S2 : Nat → Prop} {β : Beta} (hk : ∀ b, S b → CellB w b → S2 b ∧ w'.heap[b]? = w.heap[b]?)
include hk
theorem RC.away {c : C} {v : Value} (h : RC w S β c v) : RC w' S2 β c v := ⟨h.1.away hk, h.2⟩
theorem RepU.away {c : U} {v : Value} (h : RepU w S β c v) : RepU w' S2 β c v := by
  cases h with
  | c h => exact .c (h.away hk)
  | agg h => exact .agg (h.imp fun _ _ h => RC.away hk h)
theorem RepV.away {c : V} {v : Value} (h : RepV w S β c v) : RepV w' S2 β c v := by
  cases h with
  | u h => exact .u (RepU.away hk h)
  | tup h => exact .tup (h.imp fun _ _ h => RepU.away hk h)
  | nx c i r h => exact .nx c i r h
theorem ObjRep.away {F F2 : Nat → Prop} {l : ALoc} {o : AObj} (h : ObjRep w S F β l o) (hl : ∀ b, l.blk = some b → o.live = true → (∀ d, w.heap[b]? ≠ some (Obj.deferred d)) → w'.heap[b]? = w.heap[b]? ∧ ¬ S2 b ∧ ¬ F2 b) : ObjRep w' S2 F2 β l o := by
  cases h with
  | cells b c e h1 h2 h3 h4 h5 =>
    obtain ⟨k1, k2, k3⟩ := hl b h1 rfl (fun d => by rw [h4]; simp)
    exact .cells b c e h1 k2 k3 (k1.trans h4) (h5.imp fun _ _ h => RC.away hk h)
  | none_ h1 h2 h3 => exact .none_ h1 h2 h3
  | row b c e h1 hA h2 h3 h4 h5 h6 h7 h8 hm h9 =>
    obtain ⟨k1, k2, k3⟩ := hl b h1 rfl (fun d => by rw [h4]; simp)
    exact .row b c e h1 hA k2 k3 (k1.trans h4) h5 h6 h7 h8 hm (fun j x hx => (h9 j x hx).imp fun _ _ h => RC.away hk h)
  | froz h1 h2 => exact .froz h1 (h2.away hk)
  | dead => exact .dead
  | mp b arr clk h1 h2 h3 h4 hb h5 =>
    obtain ⟨k1, k2, k3⟩ := hl b h1 rfl (fun d => by rw [h4]; simp)
    exact .mp b arr clk h1 k2 k3 (k1.trans h4) hb (h5.imp fun _ _ h => ⟨h.1, RepU.away hk h.2⟩)
  | iter b h1 h2 h3 h4 h5 h6 h7 =>
    obtain ⟨k1, k2, k3⟩ := hl b h1 rfl (fun d => by rw [h4]; simp)
    exact .iter b h1 k2 k3 (k1.trans h4) h5 h6 h7
/-- The safe blocks, drawn anew. -/
theorem Inv.away {F F2 : Nat → Prop} {σ : Store} (h : Inv w S F β σ) (hsz : w'.heap.size = w.heap.size) (hd : ∀ b : Nat, (∀ d, w.heap[b]? ≠ some (Obj.deferred d)) → w'.heap[b]? = w.heap[b]?)
    (hS2 : ∀ b, S2 b → S b ∨ F b) (hF2 : ∀ b, F2 b → (S b ∨ F b) ∧ ¬ S2 b) : Inv w' S2 F2 β σ where
  sS b hb := by rw [hsz]; exact (hS2 b hb).elim (h.sS b) fun h2 => (h.sF b h2).1
  sF b hb := ⟨by rw [hsz]; exact (hF2 b hb).1.elim (h.sS b) fun h2 => (h.sF b h2).1, (hF2 b hb).2⟩
  dom := h.dom
  obj id o ho := by
    obtain ⟨l, hl, hr⟩ := h.obj id o ho
    refine ⟨l, hl, hr.away hk (fun b hb hv hnd => ⟨hd b hnd, fun hs => ?_, fun hf => ?_⟩)⟩
    · obtain ⟨n1, n2, _⟩ := hr.block hv hb
      exact (hS2 b hs).elim n1 n2
    · obtain ⟨n1, n2, _⟩ := hr.block hv hb
      exact (hF2 b hf).1.elim n1 n2
  inj := h.inj
end away
/-- The marks' blocks, shut. -/
def shut (w : World) : List Deferred → World
  | [] => w
  | d :: ds => match d.target with
    | .collected D => shut (w.putObj D (.deferred none)) ds
    | _ => shut w ds
theorem shut_spec : ∀ (ds : List Deferred) (w : World) (S : Nat → Prop), Marked w S ds → (shut w ds).heap.size = w.heap.size ∧ (shut w ds).os = w.os ∧ (shut w ds).tape = w.tape ∧ (shut w ds).output = w.output ∧
    ∀ b, (S b → ∀ d, w.heap[b]? ≠ some (.deferred d)) → (¬ S b ∨ (∀ d, w.heap[b]? ≠ some (.deferred d))) → (shut w ds).heap[b]? = w.heap[b]?
  | [], w, S, h => ⟨rfl, rfl, rfl, rfl, fun _ _ _ => rfl⟩
  | d :: ds, w, S, h => by
    obtain ⟨⟨D, h1, h2, h3, h4⟩, h5⟩ := h
    have hm : Marked (w.putObj D (.deferred none)) (fun b => S b ∧ b ≠ D) ds := by
      clear h3 h1 h2
      induction ds with
      | nil => trivial
      | cons d' ds ih =>
        obtain ⟨⟨D', k1, k2, k3, k4⟩, k5⟩ := h5
        have hne : D' ≠ D := fun e => h4 d' (by simp) (by rw [k1, e])
        exact ⟨⟨D', k1, ⟨k2, hne⟩, (World.putObj_heap_other hne).trans k3, k4⟩, ih k5 (fun d2 hd2 => h4 d2 (List.mem_cons_of_mem _ hd2))⟩
    obtain ⟨e1, e2, e3, e4, e5⟩ := shut_spec ds _ _ hm
    simp only [shut, h1]
    refine ⟨e1.trans (by simp [World.putObj]), e2, e3, e4, fun b hb1 hb2 => ?_⟩
    have hne : b ≠ D := fun e => by subst e; exact hb1 h2 _ h3
    rw [e5 b (fun hs d hd => hb1 hs.1 d (by rw [← hd, World.putObj_heap_other hne])) (hb2.imp (fun hn hs => hn hs.1) (fun hn d hd => hn d (by rw [← hd, World.putObj_heap_other hne]))), World.putObj_heap_other hne]
theorem postM_of {P : Program} {fn : Func} {R : Ending → World → Prop} {t : Array Value} : ∀ (ds : List Deferred) (w : World) (S : Nat → Prop), Marked w S ds → (∃ v, (results fn t).run P (shut w ds) = .ok v (shut w ds) ∧ R (.returned v) (shut w ds)) → PostM P fn R t ds w
  | [], w, S, h, hr => hr
  | d :: ds, w, S, h, hr => by
    obtain ⟨⟨D, h1, h2, h3, h4⟩, h5⟩ := h
    simp only [shut, h1] at hr
    refine ⟨D, h1, h3, postM_of ds _ (fun b => S b ∧ b ≠ D) ?_ hr⟩
    clear h3 h1 h2 hr
    induction ds with
    | nil => trivial
    | cons d' ds ih =>
      obtain ⟨⟨D', k1, k2, k3, k4⟩, k5⟩ := h5
      have hne : D' ≠ D := fun e => h4 d' (by simp) (by rw [k1, e])
      exact ⟨⟨D', k1, ⟨k2, hne⟩, (World.putObj_heap_other hne).trans k3, k4⟩, ih k5 (fun d2 hd2 => h4 d2 (List.mem_cons_of_mem _ hd2))⟩
/-- What a function answers, out of what its arguments lead to. -/
def FnOK (P : Program) (n : Nat) (g : FuncId) (args : List V) (σ : Store) (v : V) (σ' : Store) : Prop :=
  ∀ (w : World) (S F : Nat → Prop) (β : Beta) (vals : List Value), Inv w S F β σ → All2 (RepV w S β) args vals →
    Calls P g vals.toArray w fun e w' => ∃ x S' β', e = .returned x ∧ Inv w' S' F β' σ' ∧ Ext w S F w' S' ∧ BExt n β β' ∧ RepV w' S' β' v x
theorem fnK_ok {R : Type} {P : Program} (hm : P.follows .mixedOrders = true) {T : Nat → TD} (hT : TOK P T) {CH : CallK R} (hC : CHOK P CH) {n : Nat} {hint : Hint} (hh : HintOK n hint) {LH : LoopK R} {g : FuncId} {f : Func} (hf : P.funcs[g]? = some f)
    (hl : ∀ c, f.body = some c → LoopsOK P n LH 0 c) {args : List V} {σ : Store} {k : V → Store → Option R} {r : R} (h : fnK ifK T CH hint LH f args σ k = some r) : ∃ v σ', FnOK P n g args σ v σ' ∧ k v σ' = some r := by
  unfold fnK at h
  split at h
  · simp at h
  · rename_i c hc
    cases hn : Nat.ble args.length f.ntmps with
    | false => rw [hn] at h; simp at h
    | true =>
    rw [hn] at h
    simp only [cond_true] at h
    have hn := Nat.le_of_ble_eq_true hn
    obtain ⟨o, s1, h1, h2⟩ := evK_ok hm hT hC hh c 0 _ _ r (hl c hc) h
    have fin : ∀ us, resV T s1 f.results.toList = some us → (o = .norm ∨ o = .ret) → FnOK P n g args σ (resT us) s1.σ := by
      intro us hus ho w S F β vals hi hv
      have hlen := hv.length
      -- at the start: what is no block of cells is the frame's
      have hiA : Inv w (fun b => S b ∧ CellB w b) (fun b => F b ∨ (S b ∧ ¬ CellB w b)) β σ :=
        Inv.away (S := S) (fun b hb hc => ⟨⟨hb, hc⟩, rfl⟩) hi rfl (fun _ _ => rfl) (fun b hb => .inl hb.1) (fun b hb => by
          rcases hb with hb | ⟨hb, hn⟩
          · exact ⟨.inr hb, fun hs => (hi.sF b hb).2 hs.1⟩
          · exact ⟨.inl hb, fun hs => hn hs.2⟩)
      have hvA : All2 (RepV w (fun b => S b ∧ CellB w b) β) args vals := hv.imp fun _ _ h => RepV.away (S := S) (fun b hb hc => ⟨⟨hb, hc⟩, rfl⟩) h
      refine calls_of_wp_marked (Q := fun e a' w' => (e = .normal ∨ e = .ret) ∧ ∃ S' β', St s1 a' w' S' (fun b => F b ∨ (S b ∧ ¬ CellB w b)) β' ∧ Ext w (fun b => S b ∧ CellB w b) (fun b => F b ∨ (S b ∧ ¬ CellB w b)) w' S' ∧ BExt n β β') hf hc (fun e a' w' hq => ⟨hq.1, ?_⟩) (h1 _ w _ _ β _ ⟨hiA, trivial, ?_, fun j => ?_⟩ (fun a' w' S' β' hst hx hβ => ⟨by rcases ho with rfl | rfl <;> simp [exitOf], S', β', hst, hx, hβ⟩))
      · obtain ⟨_, S', β', hst, hx, hβ⟩ := hq
        obtain ⟨e1, e2, e3, e4, e5⟩ := shut_spec a'.defers w' S' hst.marks
        -- what is safe behind it
        have hC' : ∀ b, S b → CellB w b → S' b ∧ CellB w' b := fun b hb hc => ⟨hx.mono b ⟨hb, hc⟩, by obtain ⟨c, e, z, hh⟩ := hc; exact ⟨c, e, z, (hx.keep b (.inl ⟨hb, ⟨c, e, z, hh⟩⟩)).trans hh⟩⟩
        have noD : ∀ b, CellB w' b → ∀ d, w'.heap[b]? ≠ some (.deferred d) := fun b hc d hd => by obtain ⟨c, e, z, hh⟩ := hc; rw [hd] at hh; simp at hh
        have hkeep : ∀ b, S' b → CellB w' b → ((S' b ∧ CellB w' b) ∨ (S b ∧ ¬ CellB w b)) ∧ (shut w' a'.defers).heap[b]? = w'.heap[b]? := fun b hb hc => ⟨.inl ⟨hb, hc⟩, e5 b (fun _ => noD b hc) (.inr (noD b hc))⟩
        have hinv : Inv (shut w' a'.defers) (fun b => (S' b ∧ CellB w' b) ∨ (S b ∧ ¬ CellB w b)) F β' s1.σ := by
          refine Inv.away hkeep hst.inv e1 (fun b hb => e5 b (fun _ => hb) (.inr hb)) (fun b hb => hb.elim (fun h => .inl h.1) (fun h => .inr (.inr h))) (fun b hb => ⟨.inr (.inl hb), ?_⟩)
          rintro (⟨h1, _⟩ | ⟨h1, _⟩)
          · exact (hst.inv.sF b (.inl hb)).2 h1
          · exact (hi.sF b hb).2 h1
        have hext : Ext w S F (shut w' a'.defers) (fun b => (S' b ∧ CellB w' b) ∨ (S b ∧ ¬ CellB w b)) := by
          have hfrm : ∀ b, (F b ∨ (S b ∧ ¬ CellB w b)) → (shut w' a'.defers).heap[b]? = w'.heap[b]? := fun b hb => by
            have := (hst.inv.sF b hb).2
            exact e5 b (fun h => (this h).elim) (.inl this)
          refine ⟨e2.trans hx.os, e3.trans hx.tape, e4.trans hx.output, by rw [e1]; exact hx.size, fun b hb => ?_, fun b hb => ?_⟩
          · rcases hb with hb | hb
            · by_cases hc : CellB w b
              · obtain ⟨p, q⟩ := hC' b hb hc
                rw [(hkeep b p q).2]; exact hx.keep b (.inl ⟨hb, hc⟩)
              · rw [hfrm b (.inr ⟨hb, hc⟩)]; exact hx.keep b (.inr (.inr ⟨hb, hc⟩))
            · rw [hfrm b (.inl hb)]; exact hx.keep b (.inr (.inl hb))
          · by_cases hc : CellB w b
            · exact .inl (hC' b hb hc)
            · exact .inr ⟨hb, hc⟩
        have hst2 : St s1 { a' with defers := [] } (shut w' a'.defers) (fun b => (S' b ∧ CellB w' b) ∨ (S b ∧ ¬ CellB w b)) F β' := ⟨hinv, trivial, hst.nt, fun j => RepV.away hkeep (hst.env j)⟩
        obtain ⟨x, hx1, hx2⟩ := results_ok hT hst2 hus
        exact postM_of a'.defers w' S' hst.marks ⟨x, hx1, x, _, β', rfl, hinv, hext, hβ, hx2⟩
      · simp; omega
      · refine assoc_rep (g := fun j => (vals.toArray ++ Array.replicate (f.ntmps - vals.toArray.size) undef).getD j undef) (fun p hp => argsA_rep (w := w) (S := fun b => S b ∧ CellB w b) (β := β) 0 (fun j => (vals.toArray ++ Array.replicate (f.ntmps - vals.toArray.size) undef).getD j undef) hvA (fun j hj => ?_) p hp) j
        rw [Nat.zero_add, Array.getD_eq_getD_getElem?, Array.getElem?_append_left (by simpa using hj)]
        simp
    cases o with
    | exit id => simp at h2
    | norm => obtain ⟨us, hus, h3⟩ := optK_some h2; exact ⟨_, _, fin us hus (.inl rfl), h3⟩
    | ret => obtain ⟨us, hus, h3⟩ := optK_some h2; exact ⟨_, _, fin us hus (.inr rfl), h3⟩
end Go.Tt
