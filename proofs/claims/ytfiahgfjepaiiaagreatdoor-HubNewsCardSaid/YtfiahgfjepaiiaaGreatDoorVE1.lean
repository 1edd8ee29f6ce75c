import Derived.Test.YtfiahgfjepaiiaaGreatDoorVD4
set_option linter.unusedVariables false
set_option linter.unusedSimpArgs false
set_option maxRecDepth 20000
namespace Go.Tt
open Go.Proofs
/-! ### slices.Clone: a row of one's own, nil or not -/
theorem FnOK.of_args {P : Program} {n : Nat} {f : FuncId} {args : List V} {σ : Store} {v : V} {σ' : Store} (h : ∀ (w : World) (S F : Nat → Prop) (β : Beta) (vals : List Value), Inv w S F β σ → All2 (RepV w S β) args vals → ∃ args', All2 (RepV w S β) args' vals ∧ FnOK P n f args' σ v σ') : FnOK P n f args σ v σ' :=
  fun w S F β vals hi hv => by
    obtain ⟨a', h1, h2⟩ := h w S F β vals hi hv
    exact h2 w S F β vals hi h1
theorem FnOK.nilRow {P : Program} {n : Nat} (hn : n ≤ 64) {f : FuncId} {args : List V} {σ σ' σ'' : Store} (τ : ET) (h : FnOK P n f args σ (.u (.c .nl)) σ') (h0 : σ' 64 = none) (hs : sput σ' 64 (.row τ []) = σ'') : FnOK P n f args σ (.u (.c (.row τ 64))) σ'' := by
  intro w S F β vals hi hv
  refine (h w S F β vals hi hv).mono ?_
  rintro e w' ⟨x, S', β', rfl, hi', hx, hb, hr⟩
  have hd := hi'.dom _ h0
  have hi2 := hi'.new (Grew.refl w') h0 (l := ⟨none, none, 0, 0⟩) (o := .row τ []) (.none_ rfl rfl rfl) (fun b hb => by simp at hb)
  have hm := bput_mono (⟨none, none, 0, 0⟩ : ALoc) hd
  refine ⟨x, S', bput β' 64 ⟨none, none, 0, 0⟩, rfl, by rw [← hs]; exact hi2, hx, fun id l hid hl => hm _ _ (hb id l hid hl), ?_⟩
  have hc := hr.cell
  cases hc
  exact .u (.c (.row τ 64 ⟨none, none, 0, 0⟩ (bput_same _ _ _)))
inductive CloneOf (τ : ET) : List V → List (Nat × AObj) → V × List (Nat × AObj) → Prop
  | L (xs : List τ.T) : CloneOf τ [.u (.c (.L τ xs))] [] (.u (.c (.row τ 64)), [(64, .row τ xs)])
  | nl : CloneOf τ [.u (.c .nl)] [] (.u (.c (.row τ 64)), [(64, .row τ [])])
  | row (xs : List τ.T) : CloneOf τ [.u (.c (.row τ 0))] [(0, .row τ xs)] (.u (.c (.row τ 64)), [(0, .row τ xs), (64, .row τ xs)])
  | froz (xs : List τ.T) : CloneOf τ [.u (.c (.row τ 0))] [(0, .froz τ xs)] (.u (.c (.row τ 64)), [(0, .froz τ xs), (64, .row τ xs)])
theorem sput1 (o : AObj) (τ : ET) : sput (assocO [(0, o)]) 64 (.row τ []) = assocO [(0, o), (64, .row τ [])] := by
  funext j
  simp only [sput, assocO]
  cases h : Nat.beq j 64 with
  | true => rw [Nat.eq_of_beq_eq_true h]; rfl
  | false => cases Nat.beq j 0 <;> rfl
theorem sput0 (τ : ET) : sput (assocO []) 64 (.row τ []) = assocO [(64, .row τ [])] := by
  funext j
  simp only [sput, assocO]
/-- A slice of no elements: nil, or not. -/
theorem nil_or {w : World} {S : Nat → Prop} {β : Beta} {τ : ET} {A : Option Addr} {cap : Nat} (hn : A = none → cap = 0) : RepC w S β .nl (.slice A 0 cap) ∨ RepC w S β (.Lx τ []) (.slice A 0 cap) := by
  cases A with
  | none => rw [hn rfl]; exact .inl .nl
  | some a => exact .inr (.Lx τ [] a cap (L_nil τ (some a) cap hn))
theorem clone_ok {f : Nat} {fn : Func} (hfn : Tryz.prog.funcs[f]? = some fn) {τ : ET} (H : HL) (hH : ∀ a os p, H a os = .at p → CloneOf τ a os p) (hH2 : ∀ a os p, (H a os).val = some p → H a os = .at p)
    (cL : ∀ (x : τ.T) (r : List τ.T), fnB ifK FT.nil [] [] fn [.u (.c (.L τ (x :: r)))] [] (fun v os => some (v, os)) = ifK (ile (llen (x :: r)) bigLen) (some (.u (.c (.row τ 64)), [(64, .row τ (x :: r))])) none)
    (cnl : fnB ifK FT.nil [] [] fn [.u (.c .nl)] [] (fun v os => some (v, os)) = some (.u (.c .nl), []))
    (cLx : fnB ifK FT.nil [] [] fn [.u (.c (.Lx τ []))] [] (fun v os => some (v, os)) = some (.u (.c (.row τ 64)), [(64, .row τ [])]))
    (crow : ∀ (x : τ.T) (r : List τ.T), fnB ifK FT.nil [] [] fn [.u (.c (.row τ 0))] [(0, .row τ (x :: r))] (fun v os => some (v, os)) = ifK (ile (llen (x :: r)) bigLen) (some (.u (.c (.row τ 64)), [(0, .row τ (x :: r)), (64, .row τ (x :: r))])) none)
    (cnl1 : fnB ifK FT.nil [] [] fn [.u (.c .nl)] [(0, .row τ [])] (fun v os => some (v, os)) = some (.u (.c .nl), [(0, .row τ [])]))
    (cLx1 : fnB ifK FT.nil [] [] fn [.u (.c (.Lx τ []))] [(0, .row τ [])] (fun v os => some (v, os)) = some (.u (.c (.row τ 64)), [(0, .row τ []), (64, .row τ [])]))
    (cfL : ∀ (x : τ.T) (r : List τ.T), fnB ifK FT.nil [] [] fn [.u (.c (.L τ (x :: r)))] [(0, .froz τ (x :: r))] (fun v os => some (v, os)) = ifK (ile (llen (x :: r)) bigLen) (some (.u (.c (.row τ 64)), [(0, .froz τ (x :: r)), (64, .row τ (x :: r))])) none)
    (cfnl : fnB ifK FT.nil [] [] fn [.u (.c .nl)] [(0, .froz τ [])] (fun v os => some (v, os)) = some (.u (.c .nl), [(0, .froz τ [])]))
    (cfLx : fnB ifK FT.nil [] [] fn [.u (.c (.Lx τ []))] [(0, .froz τ [])] (fun v os => some (v, os)) = some (.u (.c (.row τ 64)), [(0, .froz τ []), (64, .row τ [])])) : HLok Tryz.prog f H := by
  intro a os v os' he
  have hk := hH _ _ _ (hH2 _ _ _ he)
  have nil0 : FnOK Tryz.prog 0 f [.u (.c .nl)] (assocO []) (.u (.c (.row τ 64))) (assocO [(64, .row τ [])]) :=
    FnOK.nilRow (by omega) τ (HLof (h := []) (ls := []) (ft := FT.nil) trivial hfn (os := []) (LawsOK.nil _ _ _) (fun _ => cnl)) rfl (sput0 τ)
  have nilr : FnOK Tryz.prog 1 f [.u (.c .nl)] (assocO [(0, .row τ [])]) (.u (.c (.row τ 64))) (assocO [(0, .row τ []), (64, .row τ [])]) :=
    FnOK.nilRow (by omega) τ (HLof (h := []) (ls := []) (ft := FT.nil) trivial hfn (os := [(0, .row τ [])]) (LawsOK.nil _ _ _) (fun _ => cnl1)) rfl (sput1 _ τ)
  have nilf : FnOK Tryz.prog 1 f [.u (.c .nl)] (assocO [(0, .froz τ [])]) (.u (.c (.row τ 64))) (assocO [(0, .froz τ []), (64, .row τ [])]) :=
    FnOK.nilRow (by omega) τ (HLof (h := []) (ls := []) (ft := FT.nil) trivial hfn (os := [(0, .froz τ [])]) (LawsOK.nil _ _ _) (fun _ => cfnl)) rfl (sput1 _ τ)
  cases hk with
  | L xs =>
    cases xs with
    | cons x r =>
      refine HLof (h := []) (ls := []) (ft := FT.nil) trivial hfn (os := []) (LawsOK.nil _ _ _) (fun hf => ?_)
      have hb := (hf.arg 0 (c := .L τ (x :: r)) rfl).list.1
      rw [cL, show ile (llen (x :: r)) bigLen = true from decide_eq_true (by simp only [llen_eq, bigLen]; omega), ifK_t]
    | nil =>
      refine FnOK.of_args (fun w S F β vals hi hv => ?_)
      cases hv with | cons p q => cases q with | nil =>
      have hp := p.cell
      cases hp with
      | L _ _ A cap b o vl hc hb hn hA hv hr =>
        rcases nil_or (w := w) (S := S) (β := β) (τ := τ) hn with h | h
        · exact ⟨_, .cons (.u (.c h)) .nil, nil0⟩
        · exact ⟨_, .cons (.u (.c h)) .nil, HLof (h := []) (ls := []) (ft := FT.nil) trivial hfn (os := []) (LawsOK.nil _ _ _) (fun _ => cLx)⟩
  | nl => exact nil0
  | row xs =>
    cases xs with
    | cons x r =>
      refine HLof (h := []) (ls := []) (ft := FT.nil) trivial hfn (os := [(0, .row τ (x :: r))]) (LawsOK.nil _ _ _) (fun hf => ?_)
      have hb := (hf.row 0 (τ := τ) (xs := x :: r) rfl).1
      rw [crow, show ile (llen (x :: r)) bigLen = true from decide_eq_true (by simp only [llen_eq, bigLen]; omega), ifK_t]
    | nil =>
      refine FnOK.of_args (fun w S F β vals hi hv => ?_)
      cases hv with | cons p q => cases q with | nil =>
      have hp := p.cell
      cases hp with
      | row _ _ l hl =>
        obtain ⟨l', hl', hr⟩ := hi.obj 0 _ rfl
        rw [hl] at hl'; obtain rfl := Option.some.inj hl'
        obtain ⟨news, _, e2, _, _⟩ := row_readL hr
        have e2 : l.n = 0 := e2
        rcases nil_or (w := w) (S := S) (β := β) (τ := τ) (row_cap0 hr) with h | h
        · exact ⟨_, .cons (.u (.c (by rw [e2]; exact h))) .nil, nilr⟩
        · exact ⟨_, .cons (.u (.c (by rw [e2]; exact h))) .nil, HLof (h := []) (ls := []) (ft := FT.nil) trivial hfn (os := [(0, .row τ [])]) (LawsOK.nil _ _ _) (fun _ => cLx1)⟩
  | froz xs =>
    refine FnOK.of_args (fun w S F β vals hi hv => ?_)
    cases hv with | cons p q => cases q with | nil =>
    have hp := p.cell
    cases hp with
    | row _ _ l hl =>
      obtain ⟨l', hl', hr⟩ := hi.obj 0 _ rfl
      rw [hl] at hl'; obtain rfl := Option.some.inj hl'
      obtain ⟨e2, hL⟩ := froz_rep hr
      cases xs with
      | cons x r =>
        refine ⟨_, .cons (.u (.c hL)) .nil, HLof (h := []) (ls := []) (ft := FT.nil) trivial hfn (os := [(0, .froz τ (x :: r))]) (LawsOK.nil _ _ _) (fun hf => ?_)⟩
        have hb := (hf.arg 0 (c := .L τ (x :: r)) rfl).list.1
        rw [cfL, show ile (llen (x :: r)) bigLen = true from decide_eq_true (by simp only [llen_eq, bigLen]; omega), ifK_t]
      | nil =>
        have e2 : l.n = 0 := e2
        have hcn : l.A = none → l.cap = 0 := by
          rw [e2] at hL
          generalize hv : Value.slice l.A 0 l.cap = v at hL
          cases hL with
          | L _ _ A cap b o vl hc hb hn hA hv' hr' => cases hv; exact hn
        rcases nil_or (w := w) (S := S) (β := β) (τ := τ) hcn with h | h
        · exact ⟨_, .cons (.u (.c (by rw [e2]; exact h))) .nil, nilf⟩
        · exact ⟨_, .cons (.u (.c (by rw [e2]; exact h))) .nil, HLof (h := []) (ls := []) (ft := FT.nil) trivial hfn (os := [(0, .froz τ [])]) (LawsOK.nil _ _ _) (fun _ => cfLx)⟩
def H78 : HL
  | [.u (.c (.L .shared xs))], [] => .at (.u (.c (.row .shared 64)), [(64, .row .shared xs)])
  | [.u (.c .nl)], [] => .at (.u (.c (.row .shared 64)), [(64, .row .shared [])])
  | [.u (.c (.row .shared 0))], [(0, .row .shared xs)] => .at (.u (.c (.row .shared 64)), [(0, .row .shared xs), (64, .row .shared xs)])
  | [.u (.c (.row .shared 0))], [(0, .froz .shared xs)] => .at (.u (.c (.row .shared 64)), [(0, .froz .shared xs), (64, .row .shared xs)])
  | _, _ => .no
theorem c78_L (x : Shared) (r : List Shared) : fnB ifK FT.nil [] [] Tryz.f78 [.u (.c (.L .shared (x :: r)))] [] (fun v os => some (v, os)) = ifK (ile (llen (x :: r)) bigLen) (some (.u (.c (.row .shared 64)), [(64, .row .shared (x :: r))])) none := by kernel_rfl
theorem c78_nl (os : List (Nat × AObj)) (h : os = []) : fnB ifK FT.nil [] [] Tryz.f78 [.u (.c .nl)] [] (fun v os => some (v, os)) = some (.u (.c .nl), []) := by kernel_rfl
theorem c78_Lx : fnB ifK FT.nil [] [] Tryz.f78 [.u (.c (.Lx .shared []))] [] (fun v os => some (v, os)) = some (.u (.c (.row .shared 64)), [(64, .row .shared [])]) := by kernel_rfl
theorem c78_row (x : Shared) (r : List Shared) : fnB ifK FT.nil [] [] Tryz.f78 [.u (.c (.row .shared 0))] [(0, .row .shared (x :: r))] (fun v os => some (v, os)) = ifK (ile (llen (x :: r)) bigLen) (some (.u (.c (.row .shared 64)), [(0, .row .shared (x :: r)), (64, .row .shared (x :: r))])) none := by kernel_rfl
theorem c78_nl1 (o : AObj) : fnB ifK FT.nil [] [] Tryz.f78 [.u (.c .nl)] [(0, .row .shared [])] (fun v os => some (v, os)) = some (.u (.c .nl), [(0, .row .shared [])]) := by kernel_rfl
theorem c78_Lx1 : fnB ifK FT.nil [] [] Tryz.f78 [.u (.c (.Lx .shared []))] [(0, .row .shared [])] (fun v os => some (v, os)) = some (.u (.c (.row .shared 64)), [(0, .row .shared []), (64, .row .shared [])]) := by kernel_rfl
theorem c78_fL (x : Shared) (r : List Shared) : fnB ifK FT.nil [] [] Tryz.f78 [.u (.c (.L .shared (x :: r)))] [(0, .froz .shared (x :: r))] (fun v os => some (v, os)) = ifK (ile (llen (x :: r)) bigLen) (some (.u (.c (.row .shared 64)), [(0, .froz .shared (x :: r)), (64, .row .shared (x :: r))])) none := by kernel_rfl
theorem c78_fnl : fnB ifK FT.nil [] [] Tryz.f78 [.u (.c .nl)] [(0, .froz .shared [])] (fun v os => some (v, os)) = some (.u (.c .nl), [(0, .froz .shared [])]) := by kernel_rfl
theorem c78_fLx : fnB ifK FT.nil [] [] Tryz.f78 [.u (.c (.Lx .shared []))] [(0, .froz .shared [])] (fun v os => some (v, os)) = some (.u (.c (.row .shared 64)), [(0, .froz .shared []), (64, .row .shared [])]) := by kernel_rfl
theorem H78_ok : HLok Tryz.prog 78 H78 :=
  clone_ok Tryz.func78 (τ := .shared) H78 (fun a os p h => by
      unfold H78 at h
      split at h
      · rename_i xs; cases h; exact .L xs
      · cases h; exact .nl
      · rename_i xs; cases h; exact .row xs
      · rename_i xs; cases h; exact .froz xs
      · cases h)
    (fun a os p h => by
      unfold H78 at h ⊢
      split at h <;> first | (cases h; done) | (cases h; rfl))
    c78_L (c78_nl [] rfl) c78_Lx c78_row (c78_nl1 .dead) c78_Lx1 c78_fL c78_fnl c78_fLx

def H79 : HL
  | [.u (.c (.L .grant xs))], [] => .at (.u (.c (.row .grant 64)), [(64, .row .grant xs)])
  | [.u (.c .nl)], [] => .at (.u (.c (.row .grant 64)), [(64, .row .grant [])])
  | [.u (.c (.row .grant 0))], [(0, .row .grant xs)] => .at (.u (.c (.row .grant 64)), [(0, .row .grant xs), (64, .row .grant xs)])
  | [.u (.c (.row .grant 0))], [(0, .froz .grant xs)] => .at (.u (.c (.row .grant 64)), [(0, .froz .grant xs), (64, .row .grant xs)])
  | _, _ => .no
theorem c79_L (x : Grant) (r : List Grant) : fnB ifK FT.nil [] [] Tryz.f79 [.u (.c (.L .grant (x :: r)))] [] (fun v os => some (v, os)) = ifK (ile (llen (x :: r)) bigLen) (some (.u (.c (.row .grant 64)), [(64, .row .grant (x :: r))])) none := by kernel_rfl
theorem c79_nl (os : List (Nat × AObj)) (h : os = []) : fnB ifK FT.nil [] [] Tryz.f79 [.u (.c .nl)] [] (fun v os => some (v, os)) = some (.u (.c .nl), []) := by kernel_rfl
theorem c79_Lx : fnB ifK FT.nil [] [] Tryz.f79 [.u (.c (.Lx .grant []))] [] (fun v os => some (v, os)) = some (.u (.c (.row .grant 64)), [(64, .row .grant [])]) := by kernel_rfl
theorem c79_row (x : Grant) (r : List Grant) : fnB ifK FT.nil [] [] Tryz.f79 [.u (.c (.row .grant 0))] [(0, .row .grant (x :: r))] (fun v os => some (v, os)) = ifK (ile (llen (x :: r)) bigLen) (some (.u (.c (.row .grant 64)), [(0, .row .grant (x :: r)), (64, .row .grant (x :: r))])) none := by kernel_rfl
theorem c79_nl1 (o : AObj) : fnB ifK FT.nil [] [] Tryz.f79 [.u (.c .nl)] [(0, .row .grant [])] (fun v os => some (v, os)) = some (.u (.c .nl), [(0, .row .grant [])]) := by kernel_rfl
theorem c79_Lx1 : fnB ifK FT.nil [] [] Tryz.f79 [.u (.c (.Lx .grant []))] [(0, .row .grant [])] (fun v os => some (v, os)) = some (.u (.c (.row .grant 64)), [(0, .row .grant []), (64, .row .grant [])]) := by kernel_rfl
theorem c79_fL (x : Grant) (r : List Grant) : fnB ifK FT.nil [] [] Tryz.f79 [.u (.c (.L .grant (x :: r)))] [(0, .froz .grant (x :: r))] (fun v os => some (v, os)) = ifK (ile (llen (x :: r)) bigLen) (some (.u (.c (.row .grant 64)), [(0, .froz .grant (x :: r)), (64, .row .grant (x :: r))])) none := by kernel_rfl
theorem c79_fnl : fnB ifK FT.nil [] [] Tryz.f79 [.u (.c .nl)] [(0, .froz .grant [])] (fun v os => some (v, os)) = some (.u (.c .nl), [(0, .froz .grant [])]) := by kernel_rfl
theorem c79_fLx : fnB ifK FT.nil [] [] Tryz.f79 [.u (.c (.Lx .grant []))] [(0, .froz .grant [])] (fun v os => some (v, os)) = some (.u (.c (.row .grant 64)), [(0, .froz .grant []), (64, .row .grant [])]) := by kernel_rfl
theorem H79_ok : HLok Tryz.prog 79 H79 :=
  clone_ok Tryz.func79 (τ := .grant) H79 (fun a os p h => by
      unfold H79 at h
      split at h
      · rename_i xs; cases h; exact .L xs
      · cases h; exact .nl
      · rename_i xs; cases h; exact .row xs
      · rename_i xs; cases h; exact .froz xs
      · cases h)
    (fun a os p h => by
      unfold H79 at h ⊢
      split at h <;> first | (cases h; done) | (cases h; rfl))
    c79_L (c79_nl [] rfl) c79_Lx c79_row (c79_nl1 .dead) c79_Lx1 c79_fL c79_fnl c79_fLx

def H80 : HL
  | [.u (.c (.L .session xs))], [] => .at (.u (.c (.row .session 64)), [(64, .row .session xs)])
  | [.u (.c .nl)], [] => .at (.u (.c (.row .session 64)), [(64, .row .session [])])
  | [.u (.c (.row .session 0))], [(0, .row .session xs)] => .at (.u (.c (.row .session 64)), [(0, .row .session xs), (64, .row .session xs)])
  | [.u (.c (.row .session 0))], [(0, .froz .session xs)] => .at (.u (.c (.row .session 64)), [(0, .froz .session xs), (64, .row .session xs)])
  | _, _ => .no
theorem c80_L (x : Session) (r : List Session) : fnB ifK FT.nil [] [] Tryz.f80 [.u (.c (.L .session (x :: r)))] [] (fun v os => some (v, os)) = ifK (ile (llen (x :: r)) bigLen) (some (.u (.c (.row .session 64)), [(64, .row .session (x :: r))])) none := by kernel_rfl
theorem c80_nl (os : List (Nat × AObj)) (h : os = []) : fnB ifK FT.nil [] [] Tryz.f80 [.u (.c .nl)] [] (fun v os => some (v, os)) = some (.u (.c .nl), []) := by kernel_rfl
theorem c80_Lx : fnB ifK FT.nil [] [] Tryz.f80 [.u (.c (.Lx .session []))] [] (fun v os => some (v, os)) = some (.u (.c (.row .session 64)), [(64, .row .session [])]) := by kernel_rfl
theorem c80_row (x : Session) (r : List Session) : fnB ifK FT.nil [] [] Tryz.f80 [.u (.c (.row .session 0))] [(0, .row .session (x :: r))] (fun v os => some (v, os)) = ifK (ile (llen (x :: r)) bigLen) (some (.u (.c (.row .session 64)), [(0, .row .session (x :: r)), (64, .row .session (x :: r))])) none := by kernel_rfl
theorem c80_nl1 (o : AObj) : fnB ifK FT.nil [] [] Tryz.f80 [.u (.c .nl)] [(0, .row .session [])] (fun v os => some (v, os)) = some (.u (.c .nl), [(0, .row .session [])]) := by kernel_rfl
theorem c80_Lx1 : fnB ifK FT.nil [] [] Tryz.f80 [.u (.c (.Lx .session []))] [(0, .row .session [])] (fun v os => some (v, os)) = some (.u (.c (.row .session 64)), [(0, .row .session []), (64, .row .session [])]) := by kernel_rfl
theorem c80_fL (x : Session) (r : List Session) : fnB ifK FT.nil [] [] Tryz.f80 [.u (.c (.L .session (x :: r)))] [(0, .froz .session (x :: r))] (fun v os => some (v, os)) = ifK (ile (llen (x :: r)) bigLen) (some (.u (.c (.row .session 64)), [(0, .froz .session (x :: r)), (64, .row .session (x :: r))])) none := by kernel_rfl
theorem c80_fnl : fnB ifK FT.nil [] [] Tryz.f80 [.u (.c .nl)] [(0, .froz .session [])] (fun v os => some (v, os)) = some (.u (.c .nl), [(0, .froz .session [])]) := by kernel_rfl
theorem c80_fLx : fnB ifK FT.nil [] [] Tryz.f80 [.u (.c (.Lx .session []))] [(0, .froz .session [])] (fun v os => some (v, os)) = some (.u (.c (.row .session 64)), [(0, .froz .session []), (64, .row .session [])]) := by kernel_rfl
theorem H80_ok : HLok Tryz.prog 80 H80 :=
  clone_ok Tryz.func80 (τ := .session) H80 (fun a os p h => by
      unfold H80 at h
      split at h
      · rename_i xs; cases h; exact .L xs
      · cases h; exact .nl
      · rename_i xs; cases h; exact .row xs
      · rename_i xs; cases h; exact .froz xs
      · cases h)
    (fun a os p h => by
      unfold H80 at h ⊢
      split at h <;> first | (cases h; done) | (cases h; rfl))
    c80_L (c80_nl [] rfl) c80_Lx c80_row (c80_nl1 .dead) c80_Lx1 c80_fL c80_fnl c80_fLx

def H101 : HL
  | [.u (.c (.L .entry xs))], [] => .at (.u (.c (.row .entry 64)), [(64, .row .entry xs)])
  | [.u (.c .nl)], [] => .at (.u (.c (.row .entry 64)), [(64, .row .entry [])])
  | [.u (.c (.row .entry 0))], [(0, .row .entry xs)] => .at (.u (.c (.row .entry 64)), [(0, .row .entry xs), (64, .row .entry xs)])
  | [.u (.c (.row .entry 0))], [(0, .froz .entry xs)] => .at (.u (.c (.row .entry 64)), [(0, .froz .entry xs), (64, .row .entry xs)])
  | _, _ => .no
theorem c101_L (x : Entry) (r : List Entry) : fnB ifK FT.nil [] [] Tryz.f101 [.u (.c (.L .entry (x :: r)))] [] (fun v os => some (v, os)) = ifK (ile (llen (x :: r)) bigLen) (some (.u (.c (.row .entry 64)), [(64, .row .entry (x :: r))])) none := by kernel_rfl
theorem c101_nl (os : List (Nat × AObj)) (h : os = []) : fnB ifK FT.nil [] [] Tryz.f101 [.u (.c .nl)] [] (fun v os => some (v, os)) = some (.u (.c .nl), []) := by kernel_rfl
theorem c101_Lx : fnB ifK FT.nil [] [] Tryz.f101 [.u (.c (.Lx .entry []))] [] (fun v os => some (v, os)) = some (.u (.c (.row .entry 64)), [(64, .row .entry [])]) := by kernel_rfl
theorem c101_row (x : Entry) (r : List Entry) : fnB ifK FT.nil [] [] Tryz.f101 [.u (.c (.row .entry 0))] [(0, .row .entry (x :: r))] (fun v os => some (v, os)) = ifK (ile (llen (x :: r)) bigLen) (some (.u (.c (.row .entry 64)), [(0, .row .entry (x :: r)), (64, .row .entry (x :: r))])) none := by kernel_rfl
theorem c101_nl1 (o : AObj) : fnB ifK FT.nil [] [] Tryz.f101 [.u (.c .nl)] [(0, .row .entry [])] (fun v os => some (v, os)) = some (.u (.c .nl), [(0, .row .entry [])]) := by kernel_rfl
theorem c101_Lx1 : fnB ifK FT.nil [] [] Tryz.f101 [.u (.c (.Lx .entry []))] [(0, .row .entry [])] (fun v os => some (v, os)) = some (.u (.c (.row .entry 64)), [(0, .row .entry []), (64, .row .entry [])]) := by kernel_rfl
theorem c101_fL (x : Entry) (r : List Entry) : fnB ifK FT.nil [] [] Tryz.f101 [.u (.c (.L .entry (x :: r)))] [(0, .froz .entry (x :: r))] (fun v os => some (v, os)) = ifK (ile (llen (x :: r)) bigLen) (some (.u (.c (.row .entry 64)), [(0, .froz .entry (x :: r)), (64, .row .entry (x :: r))])) none := by kernel_rfl
theorem c101_fnl : fnB ifK FT.nil [] [] Tryz.f101 [.u (.c .nl)] [(0, .froz .entry [])] (fun v os => some (v, os)) = some (.u (.c .nl), [(0, .froz .entry [])]) := by kernel_rfl
theorem c101_fLx : fnB ifK FT.nil [] [] Tryz.f101 [.u (.c (.Lx .entry []))] [(0, .froz .entry [])] (fun v os => some (v, os)) = some (.u (.c (.row .entry 64)), [(0, .froz .entry []), (64, .row .entry [])]) := by kernel_rfl
theorem H101_ok : HLok Tryz.prog 101 H101 :=
  clone_ok Tryz.func101 (τ := .entry) H101 (fun a os p h => by
      unfold H101 at h
      split at h
      · rename_i xs; cases h; exact .L xs
      · cases h; exact .nl
      · rename_i xs; cases h; exact .row xs
      · rename_i xs; cases h; exact .froz xs
      · cases h)
    (fun a os p h => by
      unfold H101 at h ⊢
      split at h <;> first | (cases h; done) | (cases h; rfl))
    c101_L (c101_nl [] rfl) c101_Lx c101_row (c101_nl1 .dead) c101_Lx1 c101_fL c101_fnl c101_fLx

def H121 : HL
  | [.u (.c (.L .commit xs))], [] => .at (.u (.c (.row .commit 64)), [(64, .row .commit xs)])
  | [.u (.c .nl)], [] => .at (.u (.c (.row .commit 64)), [(64, .row .commit [])])
  | [.u (.c (.row .commit 0))], [(0, .row .commit xs)] => .at (.u (.c (.row .commit 64)), [(0, .row .commit xs), (64, .row .commit xs)])
  | [.u (.c (.row .commit 0))], [(0, .froz .commit xs)] => .at (.u (.c (.row .commit 64)), [(0, .froz .commit xs), (64, .row .commit xs)])
  | _, _ => .no
theorem c121_L (x : Commit) (r : List Commit) : fnB ifK FT.nil [] [] Tryz.f121 [.u (.c (.L .commit (x :: r)))] [] (fun v os => some (v, os)) = ifK (ile (llen (x :: r)) bigLen) (some (.u (.c (.row .commit 64)), [(64, .row .commit (x :: r))])) none := by kernel_rfl
theorem c121_nl (os : List (Nat × AObj)) (h : os = []) : fnB ifK FT.nil [] [] Tryz.f121 [.u (.c .nl)] [] (fun v os => some (v, os)) = some (.u (.c .nl), []) := by kernel_rfl
theorem c121_Lx : fnB ifK FT.nil [] [] Tryz.f121 [.u (.c (.Lx .commit []))] [] (fun v os => some (v, os)) = some (.u (.c (.row .commit 64)), [(64, .row .commit [])]) := by kernel_rfl
theorem c121_row (x : Commit) (r : List Commit) : fnB ifK FT.nil [] [] Tryz.f121 [.u (.c (.row .commit 0))] [(0, .row .commit (x :: r))] (fun v os => some (v, os)) = ifK (ile (llen (x :: r)) bigLen) (some (.u (.c (.row .commit 64)), [(0, .row .commit (x :: r)), (64, .row .commit (x :: r))])) none := by kernel_rfl
theorem c121_nl1 (o : AObj) : fnB ifK FT.nil [] [] Tryz.f121 [.u (.c .nl)] [(0, .row .commit [])] (fun v os => some (v, os)) = some (.u (.c .nl), [(0, .row .commit [])]) := by kernel_rfl
theorem c121_Lx1 : fnB ifK FT.nil [] [] Tryz.f121 [.u (.c (.Lx .commit []))] [(0, .row .commit [])] (fun v os => some (v, os)) = some (.u (.c (.row .commit 64)), [(0, .row .commit []), (64, .row .commit [])]) := by kernel_rfl
theorem c121_fL (x : Commit) (r : List Commit) : fnB ifK FT.nil [] [] Tryz.f121 [.u (.c (.L .commit (x :: r)))] [(0, .froz .commit (x :: r))] (fun v os => some (v, os)) = ifK (ile (llen (x :: r)) bigLen) (some (.u (.c (.row .commit 64)), [(0, .froz .commit (x :: r)), (64, .row .commit (x :: r))])) none := by kernel_rfl
theorem c121_fnl : fnB ifK FT.nil [] [] Tryz.f121 [.u (.c .nl)] [(0, .froz .commit [])] (fun v os => some (v, os)) = some (.u (.c .nl), [(0, .froz .commit [])]) := by kernel_rfl
theorem c121_fLx : fnB ifK FT.nil [] [] Tryz.f121 [.u (.c (.Lx .commit []))] [(0, .froz .commit [])] (fun v os => some (v, os)) = some (.u (.c (.row .commit 64)), [(0, .froz .commit []), (64, .row .commit [])]) := by kernel_rfl
theorem H121_ok : HLok Tryz.prog 121 H121 :=
  clone_ok Tryz.func121 (τ := .commit) H121 (fun a os p h => by
      unfold H121 at h
      split at h
      · rename_i xs; cases h; exact .L xs
      · cases h; exact .nl
      · rename_i xs; cases h; exact .row xs
      · rename_i xs; cases h; exact .froz xs
      · cases h)
    (fun a os p h => by
      unfold H121 at h ⊢
      split at h <;> first | (cases h; done) | (cases h; rfl))
    c121_L (c121_nl [] rfl) c121_Lx c121_row (c121_nl1 .dead) c121_Lx1 c121_fL c121_fnl c121_fLx

def H122 : HL
  | [.u (.c (.L .change xs))], [] => .at (.u (.c (.row .change 64)), [(64, .row .change xs)])
  | [.u (.c .nl)], [] => .at (.u (.c (.row .change 64)), [(64, .row .change [])])
  | [.u (.c (.row .change 0))], [(0, .row .change xs)] => .at (.u (.c (.row .change 64)), [(0, .row .change xs), (64, .row .change xs)])
  | [.u (.c (.row .change 0))], [(0, .froz .change xs)] => .at (.u (.c (.row .change 64)), [(0, .froz .change xs), (64, .row .change xs)])
  | _, _ => .no
theorem c122_L (x : Change) (r : List Change) : fnB ifK FT.nil [] [] Tryz.f122 [.u (.c (.L .change (x :: r)))] [] (fun v os => some (v, os)) = ifK (ile (llen (x :: r)) bigLen) (some (.u (.c (.row .change 64)), [(64, .row .change (x :: r))])) none := by kernel_rfl
theorem c122_nl (os : List (Nat × AObj)) (h : os = []) : fnB ifK FT.nil [] [] Tryz.f122 [.u (.c .nl)] [] (fun v os => some (v, os)) = some (.u (.c .nl), []) := by kernel_rfl
theorem c122_Lx : fnB ifK FT.nil [] [] Tryz.f122 [.u (.c (.Lx .change []))] [] (fun v os => some (v, os)) = some (.u (.c (.row .change 64)), [(64, .row .change [])]) := by kernel_rfl
theorem c122_row (x : Change) (r : List Change) : fnB ifK FT.nil [] [] Tryz.f122 [.u (.c (.row .change 0))] [(0, .row .change (x :: r))] (fun v os => some (v, os)) = ifK (ile (llen (x :: r)) bigLen) (some (.u (.c (.row .change 64)), [(0, .row .change (x :: r)), (64, .row .change (x :: r))])) none := by kernel_rfl
theorem c122_nl1 (o : AObj) : fnB ifK FT.nil [] [] Tryz.f122 [.u (.c .nl)] [(0, .row .change [])] (fun v os => some (v, os)) = some (.u (.c .nl), [(0, .row .change [])]) := by kernel_rfl
theorem c122_Lx1 : fnB ifK FT.nil [] [] Tryz.f122 [.u (.c (.Lx .change []))] [(0, .row .change [])] (fun v os => some (v, os)) = some (.u (.c (.row .change 64)), [(0, .row .change []), (64, .row .change [])]) := by kernel_rfl
theorem c122_fL (x : Change) (r : List Change) : fnB ifK FT.nil [] [] Tryz.f122 [.u (.c (.L .change (x :: r)))] [(0, .froz .change (x :: r))] (fun v os => some (v, os)) = ifK (ile (llen (x :: r)) bigLen) (some (.u (.c (.row .change 64)), [(0, .froz .change (x :: r)), (64, .row .change (x :: r))])) none := by kernel_rfl
theorem c122_fnl : fnB ifK FT.nil [] [] Tryz.f122 [.u (.c .nl)] [(0, .froz .change [])] (fun v os => some (v, os)) = some (.u (.c .nl), [(0, .froz .change [])]) := by kernel_rfl
theorem c122_fLx : fnB ifK FT.nil [] [] Tryz.f122 [.u (.c (.Lx .change []))] [(0, .froz .change [])] (fun v os => some (v, os)) = some (.u (.c (.row .change 64)), [(0, .froz .change []), (64, .row .change [])]) := by kernel_rfl
theorem H122_ok : HLok Tryz.prog 122 H122 :=
  clone_ok Tryz.func122 (τ := .change) H122 (fun a os p h => by
      unfold H122 at h
      split at h
      · rename_i xs; cases h; exact .L xs
      · cases h; exact .nl
      · rename_i xs; cases h; exact .row xs
      · rename_i xs; cases h; exact .froz xs
      · cases h)
    (fun a os p h => by
      unfold H122 at h ⊢
      split at h <;> first | (cases h; done) | (cases h; rfl))
    c122_L (c122_nl [] rfl) c122_Lx c122_row (c122_nl1 .dead) c122_Lx1 c122_fL c122_fnl c122_fLx

end Go.Tt
