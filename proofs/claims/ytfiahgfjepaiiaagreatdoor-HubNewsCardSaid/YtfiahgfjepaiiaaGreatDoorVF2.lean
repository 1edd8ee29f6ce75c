import Derived.Test.YtfiahgfjepaiiaaGreatDoorVF1
set_option linter.unusedVariables false
set_option maxRecDepth 20000
namespace Go.Tt
open Go.Proofs
/-- tetherlaw.hubBegun -/
def H14 : HL
  | [], [] => .at (.u (.c (.b true)), [])
  | _, _ => .no
theorem H14_ok : HLok Tryz.prog 14 H14 := by
  refine HLrun FTg_ok Tryz.func14 (h := []) (ls := []) 0 (LawsOK.nil _ _ _) (fun a os p he => ?_)
  unfold H14 at he ⊢
  split at he
  · exact ⟨rfl, fun hf => c14⟩
  · simp [val_no] at he
noncomputable def FTn0 : FT := .cons 14 (.law H14) FTg
theorem FTn0_ok : FTn0.ok Tryz.prog := ⟨⟨Tryz.call14, H14_ok⟩, FTg_ok⟩
noncomputable def FTn : FT := .cons 13 (.code Tryz.f13 h13 0 []) (.cons 15 (.code Tryz.f15 h15 0 []) (.cons 22 (.code Tryz.f22 h22 0 []) (.cons 32 (.code Tryz.f32 h32 0 []) (.cons 33 (.code Tryz.f33 h33 0 []) (.cons 34 (.code Tryz.f34 h34 0 []) (.cons 35 (.code Tryz.f35 h35 0 []) (.cons 36 (.code Tryz.f36 h36 0 []) (.cons 71 (.code Tryz.f71 h71 0 []) (.cons 115 (.code Tryz.f115 h115 0 []) FTn0)))))))))
theorem FTn_ok : FTn.ok Tryz.prog := ⟨code_ok Tryz.func13 Tryz.call13, ⟨code_ok Tryz.func15 Tryz.call15, ⟨code_ok Tryz.func22 Tryz.call22, ⟨code_ok Tryz.func32 Tryz.call32, ⟨code_ok Tryz.func33 Tryz.call33, ⟨code_ok Tryz.func34 Tryz.call34, ⟨code_ok Tryz.func35 Tryz.call35, ⟨code_ok Tryz.func36 Tryz.call36, ⟨code_ok Tryz.func71 Tryz.call71, ⟨code_ok Tryz.func115 Tryz.call115, FTn0_ok⟩⟩⟩⟩⟩⟩⟩⟩⟩⟩

end Go.Tt
