import Derived.Test.YtfiahgfjepaiiaaGreatDoorVC3
set_option linter.unusedVariables false
set_option linter.unusedSimpArgs false
namespace Go.Tt
open Go.Proofs
theorem ieq_byte (b : UInt8) (k : Nat) (hk : k < 256) : ieq (b.toNat : Int) (k : Int) = (b == k.toUInt8) := by
  rw [Bool.eq_iff_iff, ieq_iff, beq_iff_eq]
  constructor
  · intro h
    have h : b.toNat = k := by omega
    subst h; exact UInt8.toNat_inj.1 (by simp [UInt8.toNat_ofNat])
  · rintro rfl; simp [UInt8.toNat_ofNat]; omega
theorem idx6 (b : UInt8) : ile 0 (M.idxB ⟨#[45, 95, 46, 40, 41, 32]⟩ (b.toNat : Int)) = (ieq (b.toNat : Int) 45 || ieq (b.toNat : Int) 95 || ieq (b.toNat : Int) 46 || ieq (b.toNat : Int) 40 || ieq (b.toNat : Int) 41 || ieq (b.toNat : Int) 32) := by
  have e : ((b.toNat : Int)).toNat.toUInt8 = b := by simp
  have h1 : ieq (b.toNat : Int) 45 = (b == 45) := ieq_byte b 45 (by decide)
  have h2 : ieq (b.toNat : Int) 95 = (b == 95) := ieq_byte b 95 (by decide)
  have h3 : ieq (b.toNat : Int) 46 = (b == 46) := ieq_byte b 46 (by decide)
  have h4 : ieq (b.toNat : Int) 40 = (b == 40) := ieq_byte b 40 (by decide)
  have h5 : ieq (b.toNat : Int) 41 = (b == 41) := ieq_byte b 41 (by decide)
  have h6 : ieq (b.toNat : Int) 32 = (b == 32) := ieq_byte b 32 (by decide)
  rw [h1, h2, h3, h4, h5, h6]
  simp only [M.idxB, e]
  by_cases a1 : b = 45
  · subst a1; decide
  by_cases a2 : b = 95
  · subst a2; decide
  by_cases a3 : b = 46
  · subst a3; decide
  by_cases a4 : b = 40
  · subst a4; decide
  by_cases a5 : b = 41
  · subst a5; decide
  by_cases a6 : b = 32
  · subst a6; decide
  · have n1 : ((45 : UInt8) == b) = false := by simpa using fun h => a1 h.symm
    have n2 : ((95 : UInt8) == b) = false := by simpa using fun h => a2 h.symm
    have n3 : ((46 : UInt8) == b) = false := by simpa using fun h => a3 h.symm
    have n4 : ((40 : UInt8) == b) = false := by simpa using fun h => a4 h.symm
    have n5 : ((41 : UInt8) == b) = false := by simpa using fun h => a5 h.symm
    have n6 : ((32 : UInt8) == b) = false := by simpa using fun h => a6 h.symm
    have : Lib.indexByte [45, 95, 46, 40, 41, 32] b = -1 := by simp [Lib.indexByte, n1, n2, n3, n4, n5, n6]
    rw [this]
    simp [ile, a1, a2, a3, a4, a5, a6]
/-- What the reference asks of a byte. -/
def M.okR (c : Int) : Bool := ((((((((ile 97 c && ile c 122) || (ile 65 c && ile c 90)) || (ile 48 c && ile c 57)) || ieq c 45) || ieq c 95) || ieq c 46) || ieq c 40) || ieq c 41) || ieq c 32
theorem okR_eq (b : UInt8) : M.okR b.toNat = M.okB b.toNat := by
  unfold M.okR M.okB
  rw [idx6]
  simp only [Bool.or_assoc]
/-- A space at an end. -/
def M.edge (x : ByteArray) (i : Nat) : Bool := decide (i < (bs x).length) && ((decide (i = 0) && ieq (sget x 0) 32) || ieq (sget x (slen x - 1)) 32)
theorem loop25 (x : ByteArray) (hx : (bs x).length ≤ 134217728) : ∀ (m i : Nat), i + m = (bs x).length → ∃ K, rwB ifK FT1 0 h25 [] Tryz.f25 0 K (n25_0 x i) (fun o s => some (o, s)) =
    (if (((bs x).drop i).all (fun b => M.okB b.toNat) && !M.edge x i) = true then some (.exit 0, (⟨93, [(0, .u (.c (.s x)))], []⟩ : NS)) else some (.ret, ⟨93, [(2, .u (.c (.b false)))], []⟩))
  | 0, i, hi => ⟨1, by
    have h1 : ¬ i < (bs x).length := by omega
    rw [rwB_succ, q25_0, s25_0, ilt_f (by rw [slen_bs]; omega), ifK_f, List.drop_eq_nil_of_le (by omega)]
    simp [M.edge, h1]⟩
  | m + 1, i, hi => by
    obtain ⟨K, hK⟩ := loop25 x hx m (i + 1) (by omega)
    refine ⟨K + 1, ?_⟩
    have h1 : i < (bs x).length := by omega
    have e : IntKind.wrap .i64 ((i : Int) + 1) = ((i + 1 : Nat) : Int) := by rw [wrap_id (by omega) (by omega)]; omega
    have el : IntKind.wrap .i64 (slen x - 1) = slen x - 1 := by rw [slen_bs]; exact wrap_id (by omega) (by omega)
    rw [rwB_succ, q25_0, s25_0, ilt_t (by rw [slen_bs]; omega), inb_t (by omega) (by rw [slen_bs]; omega), ifK_t, ifK_t, drop_bs h1, List.all_cons]
    simp only [e, hK, bpick_or, bpick_and, bnot_eq, el]
    have hc := sget_bs h1
    have ho : M.okR (sget x i) = M.okB ((bs x)[i]).toNat := by rw [hc, okR_eq]
    have hm : M.edge x i = ((ieq (sget x i) 32 && (ieq (i : Int) 0 || ieq (i : Int) (slen x - 1))) || M.edge x (i + 1) || (!ieq (sget x i) 32 && false)) := by
      have a1 : decide (i < (bs x).length) = true := decide_eq_true h1
      unfold M.edge
      rw [a1]
      simp only [Bool.true_and]
      by_cases hi0 : i = 0
      · subst hi0
        by_cases hn : (bs x).length = 1
        · have : slen x - 1 = 0 := by rw [slen_bs]; omega
          simp [this, hn, ieq]
        · have a2 : decide (0 + 1 < (bs x).length) = true := decide_eq_true (by omega)
          have a3 : ieq ((0 : Nat) : Int) 0 = true := rfl
          rw [a2, a3]; simp
      · have a3 : ieq (i : Int) 0 = false := ieq_f (by omega)
        rw [a3]
        by_cases hn : i + 1 = (bs x).length
        · have : slen x - 1 = (i : Int) := by rw [slen_bs]; omega
          have a2 : decide (i + 1 < (bs x).length) = false := decide_eq_false (by omega)
          rw [a2, this]; simp [hi0, ieq]
        · have a2 : decide (i + 1 < (bs x).length) = true := decide_eq_true (by omega)
          have a4 : ieq (i : Int) (slen x - 1) = false := ieq_f (by rw [slen_bs]; omega)
          rw [a2, a4]; simp [hi0]
    rw [hm, ← ho]
    unfold M.okR
    generalize (((((((((ile 97 (sget x i) && ile (sget x i) 122) || (ile 65 (sget x i) && ile (sget x i) 90)) || (ile 48 (sget x i) && ile (sget x i) 57)) || ieq (sget x i) 45) || ieq (sget x i) 95) || ieq (sget x i) 46) || ieq (sget x i) 40) || ieq (sget x i) 41) || ieq (sget x i) 32) = b1
    generalize (ieq (sget x i) 32 && (ieq (i : Int) 0 || ieq (i : Int) (slen x - 1))) = b2
    generalize ((bs x).drop (i + 1)).all (fun b => M.okB b.toNat) = b3
    generalize M.edge x (i + 1) = b4
    cases b1 <;> cases b2 <;> cases b3 <;> cases b4 <;> simp [ifK]
def M.nmR (x : ByteArray) : Bool := M.okAll x && !M.edge x 0
def L25_0 : LL
  | ⟨93, [(0, .u (.c (.s x0))), (3, .u (.c (.i .i64 x1)))], []⟩ => .ite (ieq x1 0) (.ite (M.nmR x0) (.at (.exit 0, ⟨93, [(0, .u (.c (.s x0)))], []⟩)) (.at (.ret, ⟨93, [(2, .u (.c (.b false)))], []⟩))) .no
  | _ => .no
theorem L25_0_ok : LLok Tryz.prog 0 (loopAt Tryz.f25 0) L25_0 := by
  refine LLrun (by kernel_rfl) FT1_ok no_ls (h := h25) (fun ns p he hf => ?_)
  unfold L25_0 at he ⊢
  split at he
  · rename_i x0 x1
    obtain ⟨hg, he⟩ := ifK_none he
    have hsz := (hf.cell 0 (c := .s x0) rfl).str
    rw [ieq_iff] at hg
    subst hg
    obtain ⟨K, hK⟩ := loop25 x0 (by simpa [bs] using hsz) (bs x0).length 0 (by omega)
    refine ⟨K, hK.trans ?_⟩
    simp [Tr.val, ieq_t, ifK_if, M.okAll, M.nmR]
  · simp [Tr.val] at he
def t25 {R : Type} (K : V → List (Nat × AObj) → Option R) (x : ByteArray) : Option R :=
  ifK (M.nmR x) (
    K (.u (.c (.b (bpick (bpick (bpick (bnot (seq x e0)) (ile (slen x) 20) false) (bnot (seq x ⟨#[46]⟩)) false) (bnot (seq x ⟨#[46, 46]⟩)) false)))) []) (
    K (.u (.c (.b false))) [])
theorem q25 {R : Type} (K : V → List (Nat × AObj) → Option R) (x : ByteArray) : fnB ifK FT1 h25 [(0, L25_0)] Tryz.f25 [.u (.c (.s x))] [] K = t25 K x := by kernel_rfl
/-- tetherref.IsName -/
def H25 : HL
  | [.u (.c (.s x))], [] => .at (.u (.c (.b (M.isName x))), [])
  | _, _ => .no
theorem ile_ilt (a b : Int) : ile a b = !ilt b a := by
  rw [Bool.eq_iff_iff]; simp [ile, ilt]
theorem H25_ok : HLok Tryz.prog 25 H25 := by
  refine HLrun FT1_ok Tryz.func25 (h := h25) (ls := [(0, L25_0)]) 0 (LawsOK.cons (by kernel_rfl) L25_0_ok (LawsOK.nil _ _ _)) (fun a os p he => ?_)
  unfold H25 at he ⊢
  split at he
  · rename_i x
    refine ⟨rfl, fun hf => ?_⟩
    rw [q25]
    simp only [t25, bpick_and, bnot_eq, val_at, M.isName, M.nmR, M.edge, ile_ilt]
    have h0 : decide (0 < (bs x).length) = !seq x e0 := by
      rw [Bool.eq_iff_iff, Bool.not_eq_true', decide_eq_true_eq, ← Bool.not_eq_true, seq_e0, slen_bs]; omega
    simp only [h0, decide_true, Bool.true_and]
    generalize seq x e0 = b1
    generalize ilt 20 (slen x) = b2
    generalize seq x ⟨#[46]⟩ = b3
    generalize seq x ⟨#[46, 46]⟩ = b4
    generalize ieq (sget x 0) 32 = b5
    generalize ieq (sget x (slen x - 1)) 32 = b6
    generalize M.okAll x = b7
    cases b1 <;> cases b2 <;> cases b3 <;> cases b4 <;> cases b5 <;> cases b6 <;> cases b7 <;> rfl
  · simp [val_no] at he
noncomputable def FT3 : FT := .cons 37 (.law H37) (.cons 25 (.law H25) FT2)
end Go.Tt
