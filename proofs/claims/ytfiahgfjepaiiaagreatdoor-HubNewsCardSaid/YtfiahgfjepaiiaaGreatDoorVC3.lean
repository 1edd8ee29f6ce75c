import Derived.Test.YtfiahgfjepaiiaaGreatDoorVC2
set_option linter.unusedVariables false
set_option linter.unusedSimpArgs false
namespace Go.Tt
open Go.Proofs
def n37_1 (x0 : ByteArray) (x1 : Int) (x2 : Int) : NS := ⟨45, [(0, .u (.c (.s x0))), (3, .u (.c (.fn 72 [] []))), (34, .u (.c (.i .i64 x1))), (35, .u (.c (.i .i64 x2)))], []⟩
def s37_1 {R : Type} (L : ByteArray → Int → Int → Option R) (K : Out → NS → Option R) (x0 : ByteArray) (x1 : Int) (x2 : Int) : Option R :=
  ifK (ilt x2 x1) (
    ifK (inb x2 (slen x0)) (
      ifK (ile 97 (sget x0 x2)) (
        ifK (ile (sget x0 x2) 122) (
          L x0 x1 (IntKind.wrap .i64 (x2 + 1))) (
          ifK (ile 65 (sget x0 x2)) (
            ifK (ile (sget x0 x2) 90) (
              L x0 x1 (IntKind.wrap .i64 (x2 + 1))) (
              ifK (ile 48 (sget x0 x2)) (
                ifK (ile (sget x0 x2) 57) (
                  L x0 x1 (IntKind.wrap .i64 (x2 + 1))) (
                  ifK (bnot (ile 0 (M.idxB ⟨#[45, 95, 46, 40, 41, 32]⟩ (sget x0 x2)))) (
                    K .ret ⟨45, [(2, .u (.c (.b false)))], []⟩) (
                    L x0 x1 (IntKind.wrap .i64 (x2 + 1))))) (
                ifK (bnot (ile 0 (M.idxB ⟨#[45, 95, 46, 40, 41, 32]⟩ (sget x0 x2)))) (
                  K .ret ⟨45, [(2, .u (.c (.b false)))], []⟩) (
                  L x0 x1 (IntKind.wrap .i64 (x2 + 1)))))) (
            ifK (ile 48 (sget x0 x2)) (
              ifK (ile (sget x0 x2) 57) (
                L x0 x1 (IntKind.wrap .i64 (x2 + 1))) (
                ifK (bnot (ile 0 (M.idxB ⟨#[45, 95, 46, 40, 41, 32]⟩ (sget x0 x2)))) (
                  K .ret ⟨45, [(2, .u (.c (.b false)))], []⟩) (
                  L x0 x1 (IntKind.wrap .i64 (x2 + 1))))) (
              ifK (bnot (ile 0 (M.idxB ⟨#[45, 95, 46, 40, 41, 32]⟩ (sget x0 x2)))) (
                K .ret ⟨45, [(2, .u (.c (.b false)))], []⟩) (
                L x0 x1 (IntKind.wrap .i64 (x2 + 1))))))) (
        ifK (ile 65 (sget x0 x2)) (
          ifK (ile (sget x0 x2) 90) (
            L x0 x1 (IntKind.wrap .i64 (x2 + 1))) (
            ifK (ile 48 (sget x0 x2)) (
              ifK (ile (sget x0 x2) 57) (
                L x0 x1 (IntKind.wrap .i64 (x2 + 1))) (
                ifK (bnot (ile 0 (M.idxB ⟨#[45, 95, 46, 40, 41, 32]⟩ (sget x0 x2)))) (
                  K .ret ⟨45, [(2, .u (.c (.b false)))], []⟩) (
                  L x0 x1 (IntKind.wrap .i64 (x2 + 1))))) (
              ifK (bnot (ile 0 (M.idxB ⟨#[45, 95, 46, 40, 41, 32]⟩ (sget x0 x2)))) (
                K .ret ⟨45, [(2, .u (.c (.b false)))], []⟩) (
                L x0 x1 (IntKind.wrap .i64 (x2 + 1)))))) (
          ifK (ile 48 (sget x0 x2)) (
            ifK (ile (sget x0 x2) 57) (
              L x0 x1 (IntKind.wrap .i64 (x2 + 1))) (
              ifK (bnot (ile 0 (M.idxB ⟨#[45, 95, 46, 40, 41, 32]⟩ (sget x0 x2)))) (
                K .ret ⟨45, [(2, .u (.c (.b false)))], []⟩) (
                L x0 x1 (IntKind.wrap .i64 (x2 + 1))))) (
            ifK (bnot (ile 0 (M.idxB ⟨#[45, 95, 46, 40, 41, 32]⟩ (sget x0 x2)))) (
              K .ret ⟨45, [(2, .u (.c (.b false)))], []⟩) (
              L x0 x1 (IntKind.wrap .i64 (x2 + 1))))))) (
      none)) (
    K (.exit 1) ⟨45, [], []⟩)
theorem q37_1 {R : Type} (g : NS → Option R) (K : Out → NS → Option R) (x0 : ByteArray) (x1 : Int) (x2 : Int) : evB ifK FT1 0 h37 [] Tryz.f37 1 (n37_1 x0 x1 x2) g K = s37_1 (fun x0 x1 x2 => g (n37_1 x0 x1 x2)) K x0 x1 x2 := by kernel_rfl

def n25_0 (x0 : ByteArray) (x1 : Int) : NS := ⟨93, [(0, .u (.c (.s x0))), (3, .u (.c (.i .i64 x1)))], []⟩
def s25_0 {R : Type} (L : ByteArray → Int → Option R) (K : Out → NS → Option R) (x0 : ByteArray) (x1 : Int) : Option R :=
  ifK (ilt x1 (slen x0)) (
    ifK (inb x1 (slen x0)) (
      ifK (bpick (bnot (bpick (bpick (bpick (bpick (bpick (bpick (bpick (bpick (bpick (ile 97 (sget x0 x1)) (ile (sget x0 x1) 122) false) true (bpick (ile 65 (sget x0 x1)) (ile (sget x0 x1) 90) false)) true (bpick (ile 48 (sget x0 x1)) (ile (sget x0 x1) 57) false)) true (ieq (sget x0 x1) 45)) true (ieq (sget x0 x1) 95)) true (ieq (sget x0 x1) 46)) true (ieq (sget x0 x1) 40)) true (ieq (sget x0 x1) 41)) true (ieq (sget x0 x1) 32))) true (bpick (ieq (sget x0 x1) 32) (bpick (ieq x1 0) true (ieq x1 (IntKind.wrap .i64 ((slen x0) - 1)))) false)) (
        K .ret ⟨93, [(2, .u (.c (.b false)))], []⟩) (
        L x0 (IntKind.wrap .i64 (x1 + 1)))) (
      none)) (
    K (.exit 0) ⟨93, [(0, .u (.c (.s x0)))], []⟩)
theorem q25_0 {R : Type} (g : NS → Option R) (K : Out → NS → Option R) (x0 : ByteArray) (x1 : Int) : evB ifK FT1 0 h25 [] Tryz.f25 0 (n25_0 x0 x1) g K = s25_0 (fun x0 x1 => g (n25_0 x0 x1)) K x0 x1 := by kernel_rfl

/-! ### Names -/
def M.okB (c : Int) : Bool := (ile 97 c && ile c 122) || (ile 65 c && ile c 90) || (ile 48 c && ile c 57) || ile 0 (M.idxB ⟨#[45, 95, 46, 40, 41, 32]⟩ c)
def M.okAll (x : ByteArray) : Bool := (bs x).all fun b => M.okB b.toNat
def M.isName (x : ByteArray) : Bool := !(seq x e0 || ilt 20 (slen x) || seq x ⟨#[46]⟩ || seq x ⟨#[46, 46]⟩) && !ieq (sget x 0) 32 && !ieq (sget x (slen x - 1)) 32 && M.okAll x
theorem loop37 (x : ByteArray) (hx : (bs x).length ≤ 134217728) : ∀ (m i : Nat), i + m = (bs x).length → ∃ K, rwB ifK FT1 0 h37 [] Tryz.f37 1 K (n37_1 x (slen x) i) (fun o s => some (o, s)) =
    (if ((bs x).drop i).all (fun b => M.okB b.toNat) = true then some (.exit 1, (⟨45, [], []⟩ : NS)) else some (.ret, ⟨45, [(2, .u (.c (.b false)))], []⟩))
  | 0, i, hi => ⟨1, by
    have h1 : ¬ i < (bs x).length := by omega
    rw [rwB_succ, q37_1, s37_1, ilt_f (by rw [slen_bs]; omega), ifK_f, List.drop_eq_nil_of_le (by omega)]
    simp⟩
  | m + 1, i, hi => by
    obtain ⟨K, hK⟩ := loop37 x hx m (i + 1) (by omega)
    refine ⟨K + 1, ?_⟩
    have h1 : i < (bs x).length := by omega
    have e : IntKind.wrap .i64 ((i : Int) + 1) = ((i + 1 : Nat) : Int) := by rw [wrap_id (by omega) (by omega)]; omega
    rw [rwB_succ, q37_1, s37_1, ilt_t (by rw [slen_bs]; omega), inb_t (by omega) (by rw [slen_bs]; omega), ifK_t, ifK_t, drop_bs h1, List.all_cons, sget_bs h1]
    simp only [e, hK]
    generalize ((bs x)[i]).toNat = c
    unfold M.okB
    generalize ile 97 (c : Int) = b1
    generalize ile (c : Int) 122 = b2
    generalize ile 65 (c : Int) = b3
    generalize ile (c : Int) 90 = b4
    generalize ile 48 (c : Int) = b5
    generalize ile (c : Int) 57 = b6
    generalize ile 0 (M.idxB ⟨#[45, 95, 46, 40, 41, 32]⟩ c) = b7
    cases b1 <;> cases b2 <;> cases b3 <;> cases b4 <;> cases b5 <;> cases b6 <;> cases b7 <;> simp [ifK, bnot]
def L37_1 : LL
  | ⟨45, [(0, .u (.c (.s x0))), (3, .u (.c (.fn 72 [] []))), (34, .u (.c (.i .i64 x1))), (35, .u (.c (.i .i64 x2)))], []⟩ =>
    .ite (band (ieq x1 (slen x0)) (ieq x2 0)) (.ite (M.okAll x0) (.at (.exit 1, ⟨45, [], []⟩)) (.at (.ret, ⟨45, [(2, .u (.c (.b false)))], []⟩))) .no
  | _ => .no
theorem L37_1_ok : LLok Tryz.prog 0 (loopAt Tryz.f37 1) L37_1 := by
  refine LLrun (by kernel_rfl) FT1_ok no_ls (h := h37) (fun ns p he hf => ?_)
  unfold L37_1 at he ⊢
  split at he
  · rename_i x0 x1 x2
    obtain ⟨hg, he⟩ := ifK_none he
    have hsz := (hf.cell 0 (c := .s x0) rfl).str
    simp only [band, Bool.and_eq_true, ieq_iff] at hg
    obtain ⟨rfl, rfl⟩ := hg
    obtain ⟨K, hK⟩ := loop37 x0 (by simpa [bs] using hsz) (bs x0).length 0 (by omega)
    refine ⟨K, hK.trans ?_⟩
    simp [Tr.val, band, ieq_t, ifK_if, M.okAll]
  · simp [Tr.val] at he
def t37 {R : Type} (K : V → List (Nat × AObj) → Option R) (x : ByteArray) : Option R :=
  ifK (bpick (bpick (bpick (seq x e0) true (ilt 20 (slen x))) true (seq x ⟨#[46]⟩)) true (seq x ⟨#[46, 46]⟩)) (
    K (.u (.c (.b false))) []) (
    ifK (inb 0 (slen x)) (
      ifK (ieq (sget x 0) 32) (
        K (.u (.c (.b false))) []) (
        ifK (inb (IntKind.wrap .i64 ((slen x) - 1)) (slen x)) (
          ifK (ieq (sget x (IntKind.wrap .i64 ((slen x) - 1))) 32) (
            K (.u (.c (.b false))) []) (
            ifK (band (ieq (slen x) (slen x)) true) (
              ifK (M.okAll x) (
                K (.u (.c (.b true))) []) (
                K (.u (.c (.b false))) [])) (
              none))) (
          none))) (
      none))
theorem q37 {R : Type} (K : V → List (Nat × AObj) → Option R) (x : ByteArray) : fnB ifK FT1 h37 [(1, L37_1)] Tryz.f37 [.u (.c (.s x))] [] K = t37 K x := by kernel_rfl

/-- path.IsName -/
def H37 : HL
  | [.u (.c (.s x))], [] => .at (.u (.c (.b (M.isName x))), [])
  | _, _ => .no
theorem H37_ok : HLok Tryz.prog 37 H37 := by
  refine HLrun FT1_ok Tryz.func37 (h := h37) (ls := [(1, L37_1)]) 0 (LawsOK.cons (by kernel_rfl) L37_1_ok (LawsOK.nil _ _ _)) (fun a os p he => ?_)
  unfold H37 at he ⊢
  split at he
  · rename_i x
    refine ⟨rfl, fun hf => ?_⟩
    have hsz := (hf.arg 0 (c := .s x) rfl).str
    have hsl : slen x ≤ 134217728 := by simp only [slen]; omega
    rw [q37]
    simp only [t37, bpick_or, bpick_and, band_eq, val_at, M.isName]
    cases h0 : (seq x e0 || ilt 20 (slen x) || seq x ⟨#[46]⟩ || seq x ⟨#[46, 46]⟩) with
    | true => simp [ifK]
    | false =>
      have h1 : seq x e0 ≠ true := fun h => by simp [h] at h0
      rw [ne_eq, seq_e0] at h1
      have := slen_nn x
      rw [wrap_id (by omega) (by omega), inb_t (by omega) (by omega), inb_t (by omega) (by omega), ieq_t rfl]
      simp only [ifK_t, ifK_f, Bool.and_true]
      cases ieq (sget x 0) 32 <;> cases ieq (sget x (slen x - 1)) 32 <;> cases M.okAll x <;> rfl
  · simp [val_no] at he
noncomputable def FT2 : FT := .cons 180 (.code Tryz.f180 [] 0 []) FT1
end Go.Tt
