import Derived.Test.YtfiahgfjepaiiaaGreatDoorVB2
set_option linter.unusedVariables false
namespace Go.Tt
open Go.Proofs
section
variable {R : Type}
def CHt (I : IK R) (ft : FT) : CallK R := callsK I TTab.get ft 12 40
/-- One round of a loop. -/
def evB (I : IK R) (ft : FT) (n : Nat) (h : HintL) (ls : LLs) (fn : Func) (b : Nat) (ns : NS) (g : NS → Option R) (K : Out → NS → Option R) : Option R :=
  evK I TTab.get (CHt I ft) (hintR n h) (lhK I TTab.get (CHt I ft) (hintR n h) ls 12) b (bodyOf (loopAt fn b)) ns.as (roundK (hintR n h b) g K)
/-- So many rounds of it. -/
def rwB (I : IK R) (ft : FT) (n : Nat) (h : HintL) (ls : LLs) (fn : Func) (b : Nat) (N : Nat) (ns : NS) (K : Out → NS → Option R) : Option R :=
  roundsW I TTab.get (CHt I ft) (hintR n h) (lhK I TTab.get (CHt I ft) (hintR n h) ls 12) N b (bodyOf (loopAt fn b)) ns K
theorem rwB_succ (I : IK R) (ft : FT) (n : Nat) (h : HintL) (ls : LLs) (fn : Func) (b : Nat) (N : Nat) (ns : NS) (K : Out → NS → Option R) :
    rwB I ft n h ls fn b (N + 1) ns K = evB I ft n h ls fn b ns (fun ns => rwB I ft n h ls fn b N ns K) K := rfl
/-- A function's text. -/
def fnB (I : IK R) (ft : FT) (h : HintL) (ls : LLs) (fn : Func) (a : List V) (os : List (Nat × AObj)) (K : V → List (Nat × AObj) → Option R) : Option R :=
  fnN I TTab.get (CHt I ft) (hintR os.length h) (lhK I TTab.get (CHt I ft) (hintR os.length h) ls 12) fn a os K
end
theorem LLof {ft : FT} (hf : ft.ok Tryz.prog) {n : Nat} {h : HintL} {ls : LLs} {fn : Func} {b : Nat} (hls : ∀ b' z e, (b', z) ∈ loopsIn b (bodyOf (loopAt fn b)) → llGet ls b' = some e → LLok Tryz.prog n z e) {ns ns' : NS} {o : Out}
    (hr : NSFit ns → ∃ K, rwB (R := Out × NS) ifK ft n h ls fn b K ns (fun o s => some (o, s)) = some (o, ns')) : RoundsOK Tryz.prog n (bodyOf (loopAt fn b)) ns.as o ns'.as :=
  loop_law mixed tok hf hls hr
theorem HLof {ft : FT} (hf : ft.ok Tryz.prog) {f : Nat} {fn : Func} (hfn : Tryz.prog.funcs[f]? = some fn) {h : HintL} {ls : LLs} {os : List (Nat × AObj)} (hls : LawsOK Tryz.prog os.length fn ls) {a : List V} {v : V} {os' : List (Nat × AObj)}
    (hr : ArgsFit a os → fnB (R := V × List (Nat × AObj)) ifK ft h ls fn a os (fun v os => some (v, os)) = some (v, os')) : FnOK Tryz.prog os.length f a (assocO os) v (assocO os') :=
  fn_law mixed tok hf hfn hls hr
/-- A loop's law, out of its rounds. -/
theorem LLrun {fn : Func} {b : Nat} (hlp : loopAt fn b = .loop (bodyOf (loopAt fn b))) {ft : FT} (hf : ft.ok Tryz.prog) {n : Nat} {h : HintL} {ls : LLs} (hls : ∀ b' z e, (b', z) ∈ loopsIn b (bodyOf (loopAt fn b)) → llGet ls b' = some e → LLok Tryz.prog n z e) {e : LL}
    (hr : ∀ ns p, (e ns).val = some p → NSFit ns → ∃ K, rwB (R := Out × NS) ifK ft n h ls fn b K ns (fun o s => some (o, s)) = (e ns).val) : LLok Tryz.prog n (loopAt fn b) e := fun ns o ns' he => by
  rw [hlp]
  exact LLof hf hls (fun hfit => by obtain ⟨K, hK⟩ := hr ns _ he hfit; exact ⟨K, hK.trans he⟩)
/-- A function's law, out of its text. -/
theorem HLrun {ft : FT} (hf : ft.ok Tryz.prog) {f : Nat} {fn : Func} (hfn : Tryz.prog.funcs[f]? = some fn) {h : HintL} {ls : LLs} (n : Nat) (hls : LawsOK Tryz.prog n fn ls) {e : HL}
    (hr : ∀ a os p, (e a os).val = some p → os.length = n ∧ (ArgsFit a os → fnB (R := V × List (Nat × AObj)) ifK ft h ls fn a os (fun v os => some (v, os)) = (e a os).val)) : HLok Tryz.prog f e := fun a os v os' he => by
  obtain ⟨rfl, h2⟩ := hr a os _ he
  exact HLof hf hfn hls (fun hfit => (h2 hfit).trans he)
theorem no_ls {P : Program} {n : Nat} {c : Code} {b : Nat} : ∀ b' z e, (b', z) ∈ loopsIn b c → llGet [] b' = some e → LLok P n z e := fun b' z e _ h => by simp [llGet] at h
end Go.Tt
