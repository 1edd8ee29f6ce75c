import Derived.Test.YtfiahgfjepaiiaaGreatDoorVD3
set_option linter.unusedVariables false
set_option linter.unusedSimpArgs false
namespace Go.Tt
open Go.Proofs
noncomputable def FT4 : FT := .cons 142 (.code Tryz.f142 [] 0 []) (.cons 170 (.code Tryz.f170 [] 0 []) (.cons 143 (.code Tryz.f143 [] 0 []) FT3))
theorem FT2_ok : FT2.ok Tryz.prog := ⟨code_ok Tryz.func180 Tryz.call180, FT1_ok⟩
theorem FT3_ok : FT3.ok Tryz.prog := ⟨⟨Tryz.call37, H37_ok⟩, ⟨Tryz.call25, H25_ok⟩, FT2_ok⟩
theorem FT4_ok : FT4.ok Tryz.prog := ⟨code_ok Tryz.func142 Tryz.call142, code_ok Tryz.func170 Tryz.call170, code_ok Tryz.func143 Tryz.call143, FT3_ok⟩
def h112' : HintL := [(2, [2, 4, 6, 7, 8, 13], [2, 4, 6, 7, 8], [2], []), (0, [2, 6, 7, 8], [2], [2], [])]
def n112_0 (x0 : Int) (x1 : Int) (x2 : List ByteArray) (x3 : Int) : NS := ⟨21, [(2, .u (.c (.p 64 0))), (6, .u (.c (.row .str 0))), (7, .u (.c (.i .i64 x0))), (8, .u (.c (.i .i64 x1)))], [(0, .row .str x2), (64, .cells [.i .i64 x3])]⟩
def s112_0 {R : Type} (L : Int → Int → (List ByteArray) → Int → Option R) (K : Out → NS → Option R) (x0 : Int) (x1 : Int) (x2 : List ByteArray) (x3 : Int) : Option R :=
  ifK (ilt x1 x0) (
    ifK (inb x1 (llen x2)) (
      ifK (band true (band (seq (lget .str x2 x1) (lget .str x2 x1)) true)) (
        ifK (M.namesOk (lget .str x2 x1)) (
          ifK (bpick (ile 6 (M.cntB (lget .str x2 x1) (sget ⟨#[47]⟩ 0))) true (ilt 80 (slen (lget .str x2 x1)))) (
            K .ret ⟨21, [(2, .u (.c (.p 64 0)))], [(0, .row .str x2), (64, .cells [.i .i64 2])]⟩) (
            L x0 (IntKind.wrap .i64 (x1 + 1)) x2 x3)) (
          K .ret ⟨21, [(2, .u (.c (.p 64 0)))], [(0, .row .str x2), (64, .cells [.i .i64 1])]⟩)) (
        none)) (
      none)) (
    K (.exit 0) ⟨21, [(2, .u (.c (.p 64 0)))], [(0, .row .str x2), (64, .cells [.i .i64 x3])]⟩)
theorem q112_0 {R : Type} (g : NS → Option R) (K : Out → NS → Option R) (x0 : Int) (x1 : Int) (x2 : List ByteArray) (x3 : Int) : evB ifK FT4 1 h112' [(2, L112_2)] Tryz.f112 0 (n112_0 x0 x1 x2 x3) g K = s112_0 (fun x0 x1 x2 x3 => g (n112_0 x0 x1 x2 x3)) K x0 x1 x2 x3 := by kernel_rfl

/-! ### Lists -/
theorem lget_nat {τ : ET} {xs : List τ.T} {i : Nat} (h : i < xs.length) : lget τ xs (i : Int) = xs[i] := by
  simp [lget, List.getD, List.getElem?_eq_getElem h]
theorem llen_nn {α : Type} (xs : List α) : 0 ≤ llen xs := by simp [llen_eq]
/-! ### Paths -/
def M.great (p : ByteArray) : Bool := ile 6 (M.cntB p 47) || ilt 80 (slen p)
def M.pathErr (p : ByteArray) : Int := if M.namesOk p = true then (if M.great p = true then 2 else 0) else 1
def M.pathErrs : List ByteArray → Int
  | [] => 0
  | p :: r => if M.pathErr p = 0 then M.pathErrs r else M.pathErr p
theorem loop112 (xs : List ByteArray) (hx : xs.length ≤ 268435456) (e : Int) : ∀ (m i : Nat), i + m = xs.length → ∃ K, rwB ifK FT4 1 h112' [(2, L112_2)] Tryz.f112 0 K (n112_0 (llen xs) i xs e) (fun o s => some (o, s)) =
    (if M.pathErrs (xs.drop i) = 0 then some (.exit 0, (⟨21, [(2, .u (.c (.p 64 0)))], [(0, .row .str xs), (64, .cells [.i .i64 e])]⟩ : NS)) else some (.ret, ⟨21, [(2, .u (.c (.p 64 0)))], [(0, .row .str xs), (64, .cells [.i .i64 (M.pathErrs (xs.drop i))])]⟩))
  | 0, i, hi => ⟨1, by
    rw [rwB_succ, q112_0, s112_0, ilt_f (by simp only [llen_eq]; omega), ifK_f, List.drop_eq_nil_of_le (by omega)]
    simp [M.pathErrs]⟩
  | m + 1, i, hi => by
    obtain ⟨K, hK⟩ := loop112 xs hx e m (i + 1) (by omega)
    refine ⟨K + 1, ?_⟩
    have h1 : i < xs.length := by omega
    have e1 : IntKind.wrap .i64 ((i : Int) + 1) = ((i + 1 : Nat) : Int) := by rw [wrap_id (by omega) (by omega)]; omega
    have h1' : i < List.length (α := ET.str.T) xs := h1
    rw [rwB_succ, q112_0, s112_0, ilt_t (by simp only [llen_eq]; omega), inb_t (by omega) (by simp only [llen_eq]; omega), ifK_t, ifK_t, lget_nat h1', List.drop_eq_getElem_cons h1]
    have es : sget ⟨#[47]⟩ 0 = 47 := rfl
    simp only [e1, hK, band, seq_refl, Bool.and_self, ifK_t, es, M.pathErrs, M.pathErr, bpick_or, M.great, ifK_if]
    by_cases hn : M.namesOk xs[i] = true <;> by_cases hg : (ile 6 (M.cntB xs[i] 47) || ilt 80 (slen xs[i])) = true <;> simp [hn, hg]
def L112_0 : LL
  | ⟨21, [(2, .u (.c (.p 64 0))), (6, .u (.c (.row .str 0))), (7, .u (.c (.i .i64 x0))), (8, .u (.c (.i .i64 x1)))], [(0, .row .str x2), (64, .cells [.i .i64 x3])]⟩ =>
    .ite (band (ieq x0 (llen x2)) (ieq x1 0)) (.ite (ieq (M.pathErrs x2) 0) (.at (.exit 0, ⟨21, [(2, .u (.c (.p 64 0)))], [(0, .row .str x2), (64, .cells [.i .i64 x3])]⟩)) (.at (.ret, ⟨21, [(2, .u (.c (.p 64 0)))], [(0, .row .str x2), (64, .cells [.i .i64 (M.pathErrs x2)])]⟩))) .no
  | _ => .no
theorem L112_0_ok : LLok Tryz.prog 1 (loopAt Tryz.f112 0) L112_0 := by
  refine LLrun (by kernel_rfl) FT4_ok (ls := [(2, L112_2)]) (fun b' z e hz he => ?_) (h := h112') (fun ns p he hf => ?_)
  · have hl : loopsIn 0 (bodyOf (loopAt Tryz.f112 0)) = [(2, loopAt Tryz.f112 2)] := by kernel_rfl
    rw [hl] at hz
    simp only [List.mem_singleton, Prod.mk.injEq] at hz
    obtain ⟨rfl, rfl⟩ := hz
    cases (show some L112_2 = some e from he)
    exact L112_2_ok
  · unfold L112_0 at he ⊢
    split at he
    · rename_i x0 x1 x2 x3
      obtain ⟨hg, he2⟩ := ifK_none he
      clear he
      simp only [band, Bool.and_eq_true, ieq_iff] at hg
      obtain ⟨rfl, rfl⟩ := hg
      have hsz := (hf.row 0 (τ := .str) (xs := x2) rfl).1
      obtain ⟨K, hK⟩ := loop112 x2 hsz x3 (List.length (α := ByteArray) x2) 0 (by omega)
      refine ⟨K, hK.trans ?_⟩
      simp [Tr.val, band, ieq_t, ifK_if, ieq_iff]
    · simp [val_no] at he
def t112 {R : Type} (K : V → List (Nat × AObj) → Option R) (ps : List ByteArray) : Option R :=
  ifK (band (ieq (llen ps) (llen ps)) true) (
    ifK (ieq (M.pathErrs ps) 0) (
      K (.u (.c (.i .i64 0))) [(0, .row .str ps)]) (
      K (.u (.c (.i .i64 (M.pathErrs ps)))) [(0, .row .str ps)])) (
    none)
theorem q112 {R : Type} (K : V → List (Nat × AObj) → Option R) (ps : List ByteArray) : fnB ifK FT4 h112' [(2, L112_2), (0, L112_0)] Tryz.f112 [.u (.c (.row .str 0))] [(0, .row .str ps)] K = t112 K ps := by kernel_rfl
/-- path.check -/
def H112 : HL
  | [.u (.c (.row .str 0))], [(0, .row .str ps)] => .at (.u (.c (.i .i64 (M.pathErrs ps))), [(0, .row .str ps)])
  | _, _ => .no
theorem H112_ok : HLok Tryz.prog 112 H112 := by
  refine HLrun FT4_ok Tryz.func112 (h := h112') (ls := [(2, L112_2), (0, L112_0)]) 1 (LawsOK.cons (by kernel_rfl) L112_2_ok (LawsOK.cons (by kernel_rfl) L112_0_ok (LawsOK.nil _ _ _))) (fun a os p he => ?_)
  unfold H112 at he ⊢
  split at he
  · rename_i ps
    refine ⟨rfl, fun hf => ?_⟩
    rw [q112]
    simp only [t112, ieq_t, band, Bool.and_self, ifK_t, val_at]
    cases h : ieq (M.pathErrs ps) 0 with
    | false => rfl
    | true => rw [ifK_t, ieq_iff.1 h]
  · simp [val_no] at he
noncomputable def FT5 : FT := .cons 112 (.law H112) FT4
theorem FT5_ok : FT5.ok Tryz.prog := ⟨⟨Tryz.call112, H112_ok⟩, FT4_ok⟩
end Go.Tt
