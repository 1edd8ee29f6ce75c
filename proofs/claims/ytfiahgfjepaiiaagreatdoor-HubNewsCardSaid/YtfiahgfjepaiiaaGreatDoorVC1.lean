import Derived.Test.YtfiahgfjepaiiaaGreatDoorVB3
import Derived.Lib.Bytealg
import Derived.Laws.Externs
set_option linter.unusedVariables false
set_option linter.unusedSimpArgs false
namespace Go.Tt
open Go.Proofs
/-! ### Functions without a text -/
def M.idxB (x : ByteArray) (c : Int) : Int := Lib.indexByte x.data.toList c.toNat.toUInt8
def M.cntB (x : ByteArray) (c : Int) : Int := Lib.countByte x.data.toList c.toNat.toUInt8
def nat144 : List V → Option V := fun a => match a with
  | [.u (.c (.s x)), .u (.c (.i .u8 b))] => some (.u (.c (.i .i64 (M.idxB x b))))
  | _ => none
def nat185 : List V → Option V := fun a => match a with
  | [.u (.c (.s x)), .u (.c (.i .u8 b))] => some (.u (.c (.i .i64 (M.cntB x b))))
  | _ => none
theorem indexByte_bound : ∀ (l : List UInt8) (c : UInt8), -1 ≤ Lib.indexByte l c ∧ Lib.indexByte l c < l.length
  | [], c => by simp [Lib.indexByte]
  | b :: l, c => by
    have := indexByte_bound l c
    simp only [Lib.indexByte, List.length_cons]
    split
    · omega
    · split
      · omega
      · omega
theorem countByte_bound (l : List UInt8) (c : UInt8) : Lib.countByte l c ≤ l.length := by
  unfold Lib.countByte
  exact List.count_le_length
theorem wf64 {n : Int} (h : -9223372036854775808 ≤ n) (h2 : n ≤ 9223372036854775807) : (Lit.int .i64 n).wf = true := by
  simp [Lit.wf, IntKind.min, IntKind.max, IntKind.signed, IntKind.bits]; omega
theorem nat144_ok : ∀ a v, nat144 a = some v → Native Tryz.prog 144 a v := by
  intro a v h w S β vals hv
  unfold nat144 at h
  split at h
  · rename_i x b
    cases h
    cases hv with | cons p q => cases q with | cons q r => cases r with | nil =>
    obtain ⟨rfl, hx⟩ := p.str
    obtain ⟨rfl, hb⟩ := q.int
    refine ⟨.int .i64 (M.idxB x b), ?_, .u (.c (.i _ _ ?_))⟩
    · rw [run_callFunc_extern Tryz.func144 (by kernel_rfl) (by kernel_rfl) (by kernel_rfl) (e := Extern.BytealgIndexByte.indexByte) (by kernel_rfl), Lib.run_indexByteString]
      rfl
    · have := indexByte_bound x.data.toList b.toNat.toUInt8
      have e : x.data.toList.length = x.size := by rw [Array.length_toList]; rfl
      exact wf64 (by unfold M.idxB; omega) (by unfold M.idxB; omega)
  · simp at h
theorem nat185_ok : ∀ a v, nat185 a = some v → Native Tryz.prog 185 a v := by
  intro a v h w S β vals hv
  unfold nat185 at h
  split at h
  · rename_i x b
    cases h
    cases hv with | cons p q => cases q with | cons q r => cases r with | nil =>
    obtain ⟨rfl, hx⟩ := p.str
    obtain ⟨rfl, hb⟩ := q.int
    refine ⟨.int .i64 (M.cntB x b), ?_, .u (.c (.i _ _ ?_))⟩
    · rw [run_callFunc_extern Tryz.func185 (by kernel_rfl) (by kernel_rfl) (by kernel_rfl) (e := Extern.BytealgCount.count) (by kernel_rfl), Lib.run_countString]
      rfl
    · have := countByte_bound x.data.toList b.toNat.toUInt8
      have e : x.data.toList.length = x.size := by rw [Array.length_toList]; rfl
      exact wf64 (by unfold M.cntB; omega) (by unfold M.cntB; omega)
  · simp at h
/-- What is known so far. -/
noncomputable def FT1 : FT := .cons 144 (.nat nat144) (.cons 185 (.nat nat185)
  (.cons 116 (.code Tryz.f116 [] 0 []) (.cons 73 (.code Tryz.f73 [] 0 []) (.cons 183 (.code Tryz.f183 [] 0 []) (.cons 196 (.code Tryz.f196 [] 0 []) (.cons 171 (.code Tryz.f171 [] 0 []) (.cons 72 (.code Tryz.f72 [] 0 []) .nil)))))))
theorem code_ok {f : Nat} {fn : Func} {h : HintL} (hf : Tryz.prog.funcs[f]? = some fn) (hc : EntersOK Tryz.prog f) : FE.ok Tryz.prog f (.code fn h 0 []) := ⟨hf, hc, LawsOK.nil _ _ _⟩
theorem FT1_ok : FT1.ok Tryz.prog :=
  ⟨nat144_ok, nat185_ok, code_ok Tryz.func116 Tryz.call116, code_ok Tryz.func73 Tryz.call73, code_ok Tryz.func183 Tryz.call183, code_ok Tryz.func196 Tryz.call196, code_ok Tryz.func171 Tryz.call171, code_ok Tryz.func72 Tryz.call72, trivial⟩
end Go.Tt
