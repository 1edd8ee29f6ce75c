import Derived.Test.YtfiahgfjepaiiaaGreatDoorVF2
import Derived.Below
set_option linter.unusedVariables false
set_option maxRecDepth 20000
namespace Go.Tt
open Go.Proofs
/-! ### tetherlaw.HubNews -/
def t3 {R : Type} (K : V → List (Nat × AObj) → Option R) (x : Int) (y : Int) : Option R :=
  ifK (bnot (bpick (ile 1 x) (ile x 1000000) false)) (
    ifK (bnot (bpick (ile 1 x) (ile x 1000000) false)) (
      K (.u (.c (.b true))) []) (
      ifK (bnot (bpick (ile 0 y) (ile y 100000) false)) (
        K (.u (.c (.b true))) []) (
        K (.u (.c (.b false))) []))) (
    ifK (bnot (bpick (ile 0 y) (ile y 100000) false)) (
      ifK (bnot (bpick (ile 1 x) (ile x 1000000) false)) (
        K (.u (.c (.b true))) []) (
        ifK (bnot (bpick (ile 0 y) (ile y 100000) false)) (
          K (.u (.c (.b true))) []) (
          K (.u (.c (.b false))) []))) (
      ifK (bnot (bpick (ile 1 x) (ile x 1000000) false)) (
        K (.u (.c (.b false))) []) (
        ifK (bnot (bpick (ile 0 y) (ile y 100000) false)) (
          K (.u (.c (.b false))) []) (
          ifK (bpick (bpick (bnot (ieq x x)) true (bnot (ieq y y))) true false) (
            K (.u (.c (.b false))) []) (
            K (.u (.c (.b true))) [])))))
theorem q3 {R : Type} (K : V → List (Nat × AObj) → Option R) (x : Int) (y : Int) : fnB ifK FTn [] [] Tryz.f3 [.u (.c (.i .i64 x)), .u (.c (.i .i64 y))] [] K = t3 K x y := by kernel_rfl
theorem t3_true {R : Type} (K : V → List (Nat × AObj) → Option R) (x y : Int) : t3 K x y = K (.u (.c (.b true))) [] := by
  unfold t3
  rw [ieq_t rfl, ieq_t rfl]
  generalize bnot (bpick (ile 1 x) (ile x 1000000) false) = p
  generalize bnot (bpick (ile 0 y) (ile y 100000) false) = q
  cases p <;> cases q <;> rfl
def H3 : HL
  | [.u (.c (.i .i64 _)), .u (.c (.i .i64 _))], [] => .at (.u (.c (.b true)), [])
  | _, _ => .no
theorem H3_ok : HLok Tryz.prog 3 H3 := by
  refine HLrun FTn_ok Tryz.func3 (h := []) (ls := []) 0 (LawsOK.nil _ _ _) (fun a os p he => ?_)
  unfold H3 at he ⊢
  split at he
  · rename_i x y
    exact ⟨rfl, fun hf => by rw [q3, t3_true]; rfl⟩
  · simp [val_no] at he
/-! ### From a law to a call of the program -/
/-- Nothing is known of the memory: each block of it stays. -/
theorem Inv.start (w : World) : Inv w (fun b => b < w.heap.size) (fun _ => False) (fun _ => none) (assocO []) where
  sS := fun _ h => h
  sF := fun _ h => h.elim
  dom := fun _ _ => rfl
  obj := fun id o h => by simp [assocO] at h
  inj := fun id1 id2 o1 o2 l1 l2 b h => by simp [assocO] at h
theorem Ext.below {w w' : World} {F S' : Nat → Prop} (h : Ext w (fun b => b < w.heap.size) F w' S') : RowKit.Below w.heap.size w w' :=
  ⟨h.os, h.tape, h.output, h.size, fun b hb => h.keep b (.inl hb)⟩
/-- A law that answers true, at values that are themselves. -/
theorem HLok.calls {f : FuncId} {H : HL} (h : HLok Tryz.prog f H) {a : List V} (he : (H a []).val = some (.u (.c (.b true)), [])) (w : World) {vals : List Value} (hv : All2 (RepV w (fun b => b < w.heap.size) (fun _ => none)) a vals) :
    Calls Tryz.prog f vals.toArray w fun e w' => e = .returned (.bool true) ∧ RowKit.Below w.heap.size w w' := by
  refine (h a [] _ _ he w (fun b => b < w.heap.size) (fun _ => False) (fun _ => none) vals (Inv.start w) hv).mono ?_
  rintro e w' ⟨x, S', β', rfl, _, hx, _, hr⟩
  have hc := hr.cell
  cases hc
  exact ⟨rfl, hx.below⟩
theorem wf_int {w : World} {S : Nat → Prop} {β : Beta} {n : Int} (h : (Lit.int .i64 n).wf = true) : RepV w S β (.u (.c (.i .i64 n))) (.int .i64 n) := .u (.c (.i _ _ h))
end Go.Tt
