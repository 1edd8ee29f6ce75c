import Derived.Test.YtfiahgfjepaiiaaGreatDoorVC1
set_option linter.unusedVariables false
set_option linter.unusedSimpArgs false
namespace Go.Tt
open Go.Proofs
/-! ### Small change -/
theorem ifK_t {α : Type} (x y : α) : ifK true x y = x := rfl
theorem ifK_f {α : Type} (x y : α) : ifK false x y = y := rfl
theorem ifK_if {α : Type} (b : Bool) (x y : α) : ifK b x y = if b = true then x else y := by cases b <;> rfl
theorem ifK_some {α : Type} {b : Bool} {x y : Option α} {r : α} (h : ifK b x y = some r) : (b = true ∧ x = some r) ∨ (b = false ∧ y = some r) := by
  cases b
  · exact .inr ⟨rfl, h⟩
  · exact .inl ⟨rfl, h⟩
theorem ifK_none {α : Type} {b : Bool} {x : Option α} {r : α} (h : ifK b x none = some r) : b = true ∧ x = some r := by
  cases b
  · simp [ifK] at h
  · exact ⟨rfl, h⟩
theorem ilt_t {a b : Int} (h : a < b) : ilt a b = true := decide_eq_true h
theorem ilt_f {a b : Int} (h : b ≤ a) : ilt a b = false := decide_eq_false (by omega)
theorem ile_t {a b : Int} (h : a ≤ b) : ile a b = true := decide_eq_true h
theorem ile_f {a b : Int} (h : b < a) : ile a b = false := decide_eq_false (by omega)
theorem ieq_t {a b : Int} (h : a = b) : ieq a b = true := by simp [ieq, h]
theorem ieq_f {a b : Int} (h : a ≠ b) : ieq a b = false := by simp [ieq, h]
theorem inb_t {a b : Int} (h : 0 ≤ a) (k : a < b) : inb a b = true := decide_eq_true ⟨h, k⟩
theorem bnd_t {a b c : Int} (h : 0 ≤ a) (k : a ≤ b) (l : b ≤ c) : bnd a b c = true := decide_eq_true ⟨h, k, l⟩
theorem ilt_iff {a b : Int} : ilt a b = true ↔ a < b := by simp [ilt]
theorem ile_iff {a b : Int} : ile a b = true ↔ a ≤ b := by simp [ile]
theorem ieq_iff {a b : Int} : ieq a b = true ↔ a = b := by simp [ieq]
theorem inb_iff {a b : Int} : inb a b = true ↔ 0 ≤ a ∧ a < b := by simp [inb]
theorem bnd_iff {a b c : Int} : bnd a b c = true ↔ 0 ≤ a ∧ a ≤ b ∧ b ≤ c := by simp [bnd]
theorem ilt_false {a b : Int} : ilt a b = false ↔ b ≤ a := by simp [ilt]
theorem ile_false {a b : Int} : ile a b = false ↔ b < a := by simp [ile]
theorem ieq_false {a b : Int} : ieq a b = false ↔ a ≠ b := by simp [ieq]
theorem wrap_id {n : Int} (h : -9223372036854775808 ≤ n) (k : n ≤ 9223372036854775807) : IntKind.wrap .i64 n = n := by
  rw [IntKind.wrap_i64]; omega
/-- The bytes of a text. -/
def bs (x : ByteArray) : List UInt8 := x.data.toList
theorem slen_bs (x : ByteArray) : slen x = (bs x).length := by
  simp only [slen, bs, Array.length_toList]; rfl
theorem slen_nn (x : ByteArray) : 0 ≤ slen x := by rw [slen_bs]; omega
theorem sget_bs {x : ByteArray} {i : Nat} (h : i < (bs x).length) : sget x (i : Int) = ((bs x)[i]).toNat := by
  have h' : i < x.size := by simpa [bs] using h
  simp only [sget, Int.toNat_natCast]
  have e : x[i]? = some x[i] := getElem?_pos x i h'
  rw [e]; rfl
theorem drop_bs {x : ByteArray} {i : Nat} (h : i < (bs x).length) : (bs x).drop i = (bs x)[i] :: (bs x).drop (i + 1) := List.drop_eq_getElem_cons h
theorem seq_iff {x y : ByteArray} : seq x y = true ↔ x = y := by
  simp only [seq, beq_iff_eq, ByteArray.toList_eq]
  constructor
  · intro h; cases x; cases y; congr 1; exact Array.toList_inj.1 h
  · rintro rfl; rfl
theorem seq_refl (x : ByteArray) : seq x x = true := seq_iff.2 rfl
theorem bs_inj {x y : ByteArray} (h : bs x = bs y) : x = y := by
  cases x; cases y; congr 1; exact Array.toList_inj.1 h
theorem seq_bs (x y : ByteArray) : seq x y = (bs x == bs y) := by
  rw [Bool.eq_iff_iff, seq_iff, beq_iff_eq]
  exact ⟨fun h => by rw [h], bs_inj⟩
theorem bpick_or (a b : Bool) : bpick a true b = (a || b) := by cases a <;> rfl
theorem bpick_and (a b : Bool) : bpick a b false = (a && b) := by cases a <;> rfl
theorem bnot_eq (a : Bool) : bnot a = !a := rfl
theorem band_eq (a b : Bool) : band a b = (a && b) := rfl
theorem beq2_eq (a b : Bool) : beq2 a b = (a == b) := rfl
theorem val_at {α : Type} (a : α) : (Tr.at a).val = some a := rfl
theorem val_ite {α : Type} (b : Bool) (x y : Tr α) : (Tr.ite b x y).val = ifK b x.val y.val := rfl
theorem val_no {α : Type} : (Tr.no : Tr α).val = none := rfl
theorem bs_e0 : bs e0 = [] := rfl
theorem seq_e0 {x : ByteArray} : seq x e0 = true ↔ slen x = 0 := by
  rw [seq_bs, slen_bs, bs_e0, beq_iff_eq]
  cases bs x <;> simp; omega
end Go.Tt
