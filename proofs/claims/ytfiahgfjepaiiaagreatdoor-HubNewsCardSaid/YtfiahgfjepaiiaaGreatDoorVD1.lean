import Derived.Test.YtfiahgfjepaiiaaGreatDoorVC4
import Derived.RangeFuncNested
import Derived.RangeFuncBound
import Derived.RangeFuncCalls
import Derived.RangeFuncLeaves
import Derived.Shelf.Abstract
import Derived.Shelf.RegionOpen
import Derived.WalkKit
import Derived.OwnWalkIn
import Derived.TacticsInMore
import Derived.LoopNIn
import Derived.LoopIn
set_option linter.unusedVariables false
set_option linter.unusedSimpArgs false
set_option linter.unnecessarySimpa false
namespace Go.Tt
open Go.Proofs Go.RowKit Go.Shelf
attribute [local go_sem] Oper.semAt_some
/-! ### A path's names -/
def M.splitL : List UInt8 → List (List UInt8)
  | [] => [[]]
  | b :: r => if b = 47 then [] :: M.splitL r else match M.splitL r with
    | h :: t => (b :: h) :: t
    | [] => [[b]]
def ba (l : List UInt8) : ByteArray := ⟨l.toArray⟩
def M.names (p : ByteArray) : List ByteArray := (M.splitL (bs p)).map ba
theorem bs_ba (l : List UInt8) : bs (ba l) = l := by simp [bs, ba]
theorem ba_bs (x : ByteArray) : ba (bs x) = x := by simp [bs, ba]
theorem splitL_none : ∀ {l : List UInt8}, Lib.indexByte l 47 < 0 → M.splitL l = [l]
  | [], _ => rfl
  | b :: r, h => by
    have h0 := Lib.indexByte_ge r 47
    simp only [Lib.indexByte] at h
    split at h
    · omega
    · rename_i hb
      have hb' : b ≠ 47 := by simpa using hb
      split at h
      · rename_i h1
        have h1 : Lib.indexByte r 47 = -1 := by simpa using h1
        simp only [M.splitL, hb', if_false, splitL_none (l := r) (by omega)]
      · omega
theorem splitL_some : ∀ {l : List UInt8} {i : Nat}, Lib.indexByte l 47 = i → M.splitL l = l.take i :: M.splitL (l.drop (i + 1))
  | [], i, h => by simp [Lib.indexByte] at h
  | b :: r, i, h => by
    have h0 := Lib.indexByte_ge r 47
    simp only [Lib.indexByte] at h
    split at h
    · rename_i hb
      have hb' : b = 47 := by simpa using hb
      obtain rfl : i = 0 := by omega
      simp [M.splitL, hb']
    · rename_i hb
      have hb' : b ≠ 47 := by simpa using hb
      split at h
      · omega
      · rename_i h1
        have h1 : Lib.indexByte r 47 ≠ -1 := by simpa using h1
        obtain ⟨k, rfl⟩ : ∃ k, i = k + 1 := ⟨i - 1, by omega⟩
        have := splitL_some (l := r) (i := k) (by omega)
        simp [M.splitL, hb', this]
theorem names_none {x : ByteArray} (h : M.idxB x 47 < 0) : M.names x = [x] := by
  have h : Lib.indexByte (bs x) 47 < 0 := h
  simp [M.names, splitL_none h, ba_bs]
theorem names_some {x : ByteArray} {i : Nat} (h : M.idxB x 47 = i) : M.names x = x.extract 0 i :: M.names (x.extract (i + 1) x.size) := by
  have h : Lib.indexByte (bs x) 47 = i := h
  have e1 : x.extract 0 i = ba ((bs x).take i) := by
    apply bs_inj
    simp [bs, ba]
  have e2 : bs (x.extract (i + 1) x.size) = (bs x).drop (i + 1) := by
    simp [bs]
    apply List.take_of_length_le
    simp
  simp only [M.names, splitL_some h, List.map_cons, e1, e2]
/-! ### The iterator of strings.SplitSeq(s, "/") -/
def H183 : HL
  | [.u (.c (.s x)), .u (.c (.s y))], [] => .ite (seq y ⟨#[47]⟩) (.at (.u (.c (.i .i64 (M.idxB x 47))), [])) .no
  | _, _ => .no
def t183 {R : Type} (K : V → List (Nat × AObj) → Option R) (x : ByteArray) : Option R :=
  ifK (seq ⟨#[47]⟩ x) (
    K (.u (.c (.i .i64 0))) []) (
    K (.u (.c (.i .i64 (M.idxB x (sget ⟨#[47]⟩ 0))))) [])
theorem q183 {R : Type} (K : V → List (Nat × AObj) → Option R) (x : ByteArray) : fnB ifK FT1 [] [] Tryz.f183 [.u (.c (.s x)), .u (.c (.s ⟨#[47]⟩))] [] K = t183 K x := by kernel_rfl
theorem H183_ok : HLok Tryz.prog 183 H183 := by
  refine HLrun FT1_ok Tryz.func183 (h := []) (ls := []) 0 (LawsOK.nil _ _ _) (fun a os p he => ?_)
  unfold H183 at he ⊢
  split at he
  · rename_i x y
    obtain ⟨hg, he⟩ := ifK_none he
    obtain rfl := seq_iff.1 hg
    refine ⟨rfl, fun hf => ?_⟩
    rw [q183]
    have e : sget ⟨#[47]⟩ 0 = 47 := rfl
    simp only [t183, val_ite, val_at, val_no, seq_refl, ifK_t, e]
    cases hs : seq ⟨#[47]⟩ x with
    | false => rfl
    | true =>
      obtain rfl := seq_iff.1 hs
      rfl
  · simp [val_no] at he
/-- A function of data alone, told of any world. -/
theorem plain_calls {f : Nat} {a : List V} {v : V} (h : FnOK Tryz.prog 0 f a (assocO []) v (assocO [])) {vals : List Value} (w : World) (hv : All2 (RepV w (fun b => b < w.heap.size) (fun _ => none)) a vals) :
    Calls Tryz.prog f vals.toArray w fun e w' => ∃ x S', e = .returned x ∧ Grew w w' ∧ RepV w' S' (fun _ => none) v x := by
  have hi : Inv w (fun b => b < w.heap.size) (fun _ => False) (fun _ => none) (assocO []) := ⟨fun b hb => hb, fun b hb => hb.elim, fun _ _ => rfl, fun id o ho => by simp [assocO] at ho, fun i1 i2 o1 o2 l1 l2 b h1 => by simp [assocO] at h1⟩
  refine (h w _ _ _ vals hi hv).mono ?_
  rintro e w' ⟨x, S', β', rfl, hi', hx, hb, hr⟩
  have hβ : ∀ id l, β' id = some l → False := fun id l hl => by
    have := hi'.dom id rfl
    rw [hl] at this; simp at this
  have e : β' = fun _ => none := funext fun id => by
    cases hb : β' id with
    | none => rfl
    | some l => exact (hβ id l hb).elim
  subst e
  exact ⟨x, S', rfl, ⟨hx.os, hx.tape, hx.output, hx.size, fun b hb => hx.keep b (.inl hb)⟩, hr⟩
theorem index_calls (x : ByteArray) (hx : x.size ≤ 134217728) (w : World) : Calls Tryz.prog 183 #[.string x, .string ⟨#[47]⟩] w fun e w' => e = .returned (.int .i64 (M.idxB x 47)) ∧ Grew w w' := by
  have h := H183_ok [.u (.c (.s x)), .u (.c (.s ⟨#[47]⟩))] [] (.u (.c (.i .i64 (M.idxB x 47)))) [] (by simp only [H183, val_ite, seq_refl, ifK_t, val_at])
  refine (plain_calls h w (.cons (.u (.c (.s x hx))) (.cons (.u (.c (.s _ (by decide)))) .nil))).mono ?_
  rintro e w' ⟨v, S', rfl, hg, hr⟩
  exact ⟨by rw [hr.int.1], hg⟩
theorem isName_calls (x : ByteArray) (hx : x.size ≤ 134217728) (w : World) : Calls Tryz.prog 37 #[.string x] w fun e w' => e = .returned (.bool (M.isName x)) ∧ Grew w w' := by
  have h := H37_ok [.u (.c (.s x))] [] _ _ rfl
  refine (plain_calls h w (.cons (.u (.c (.s x hx))) .nil)).mono ?_
  rintro e w' ⟨v, S', rfl, hg, hr⟩
  exact ⟨by rw [hr.bool], hg⟩

set_option maxHeartbeats 4000000 in
set_option maxRecDepth 100000 in
theorem split_in (n : Nat) (hn : 1 ≤ n) (l b5 b6 b7 : Nat) (h56 : b5 ≠ b6) (h76 : b7 ≠ b6) (J Jx : List ByteArray → World → Prop)
    (hJg : ∀ pre W W', J pre W → Grew W W' → J pre W') (hJs : ∀ pre W v, J pre W → J pre (W.setCell ⟨b6, 0, none⟩ v))
    (hY : ∀ pre x W, x.size ≤ 134217728 → J pre W → YieldAt Fence.wide (n - 1) Tryz.prog l #[.string x] W fun e W' =>
      (e = .returned (.bool true) ∧ J (pre ++ [x]) W' ∧ (∀ k, k = b5 ∨ k = b6 ∨ k = b7 → W'.heap[k]? = W.heap[k]?)) ∨ (e = .returned (.bool false) ∧ Jx (pre ++ [x]) W'))
    (p : ByteArray) (hp : p.size ≤ 134217728) (W : World) (h5 : W.cell? ⟨b5, 0, none⟩ = some (.string ⟨#[47]⟩)) (h6 : W.cell? ⟨b6, 0, none⟩ = some (.string p)) (f6 : W.frozen? ⟨b6, 0, none⟩ = false) (h7 : W.cell? ⟨b7, 0, none⟩ = some (.int .i64 0)) (h0 : J [] W) :
    CallsIn Fence.wide n Tryz.prog 181 #[.func (.yield l) #[] #[], .pointer (some ⟨b5, 0, none⟩), .pointer (some ⟨b6, 0, none⟩), .pointer (some ⟨b7, 0, none⟩)] W fun e W' => (∃ v, e = .returned v) ∧
      ((J (M.names p) W') ∨ (∃ pre, pre <+: M.names p ∧ pre ≠ [] ∧ Jx pre W')) := by
  refine callsIn_of_wp Tryz.func181 rfl trivial ?_ rfl
  simp only [Tryz.ntmps181, List.size_toArray, List.length_cons, List.length_nil, Nat.reduceAdd, Nat.reduceSub, Array.replicate_succ, Array.replicate_zero, List.push_toArray, List.append_toArray, List.nil_append, List.cons_append]
  gi_wp2
  gi_loopw [7, 8] (fun _ _ wr => ∃ (pre : List ByteArray) (r : ByteArray), pre ++ M.names r = M.names p ∧ r.size ≤ 134217728 ∧ J pre wr ∧ wr.cell? ⟨b5, 0, none⟩ = some (.string ⟨#[47]⟩) ∧ wr.cell? ⟨b6, 0, none⟩ = some (.string r) ∧ wr.frozen? ⟨b6, 0, none⟩ = false ∧ wr.cell? ⟨b7, 0, none⟩ = some (.int .i64 0))
    (fun _ _ wr => match wr.cell? ⟨b6, 0, none⟩ with | some (.string r) => r.size | _ => 0)
  case atStart => exact ⟨[], p, rfl, hp, h0, h5, h6, f6, h7⟩
  case round =>
    obtain ⟨pre, r, hpre, hr, hJ, k5, k6, kf, k7⟩ := hrel
    gi_wp2
    refine ⟨trivial, ?_⟩
    refine (callsIn_wide.2 (index_calls r hr wr)).mono ?_
    rintro e w1 ⟨rfl, hg⟩
    have hc : ∀ (b : Nat) (v : Value), wr.cell? ⟨b, 0, none⟩ = some v → w1.cell? ⟨b, 0, none⟩ = some v := fun b v h => by
      obtain ⟨o, ho, _⟩ := cells_of_cell h
      rw [World.cell?_of_block (hg.keep b (Array.getElem?_eq_some_iff.1 ho).1)]; exact h
    have hf : w1.frozen? ⟨b6, 0, none⟩ = false := by
      obtain ⟨o, ho, _⟩ := cells_of_cell k6
      rw [World.frozen?_of_block (hg.keep b6 (Array.getElem?_eq_some_iff.1 ho).1)]; exact kf
    have c5 := hc _ _ k5
    have c6 := hc _ _ k6
    have c7 := hc _ _ k7
    have hJ1 := hJg _ _ _ hJ hg
    by_cases hi : M.idxB r 47 < 0
    · obtain ⟨fn, tmps, assign, body, hy, hR⟩ := hY pre r w1 hr hJ1
      gi_wp2
      refine hR.mono ?_
      have hlast : pre ++ [r] = M.names p := by rw [← hpre, names_none hi]
      rintro e W3 (⟨rfl, hJ3, hk3⟩ | ⟨rfl, hJx3⟩)
      · gi_wp2
        go_end0
        exact ⟨⟨_, rfl⟩, .inl (by rw [← hlast]; exact hJ3)⟩
      · gi_wp2
        go_end0
        exact ⟨⟨_, rfl⟩, .inr ⟨_, List.prefix_rfl, by rw [← hlast]; simp, by rw [← hlast]; exact hJx3⟩⟩
    · have hb := indexByte_bound (bs r) 47
      have hsz : (bs r).length = r.size := by simp [bs]
      have hb : -1 ≤ M.idxB r 47 ∧ M.idxB r 47 < (bs r).length := hb
      obtain ⟨i, hidx⟩ : ∃ i : Nat, M.idxB r 47 = i := ⟨(M.idxB r 47).toNat, by omega⟩
      have hir : i < r.size := by omega
      rw [hidx]
      have hw1 : IntKind.i64.wrap (i : Int) = (i : Int) := wrap_id (by omega) (by omega)
      have hw2 : IntKind.i64.wrap ((i : Int) + 1) = (i : Int) + 1 := wrap_id (by omega) (by omega)
      have hx : (r.extract 0 i).size ≤ 134217728 := by simp; omega
      obtain ⟨fn, tmps, assign, body, hy, hR⟩ := hY pre (r.extract 0 i) w1 hx hJ1
      gi_wp2
      refine hR.mono ?_
      rintro e W3 (⟨rfl, hJ3, hk3⟩ | ⟨rfl, hJx3⟩)
      · have d5 : W3.cell? ⟨b5, 0, none⟩ = some (.string ⟨#[47]⟩) := (World.cell?_of_block (hk3 b5 (.inl rfl))).trans c5
        have d6 : W3.cell? ⟨b6, 0, none⟩ = some (.string r) := (World.cell?_of_block (hk3 b6 (.inr (.inl rfl)))).trans c6
        have d7 : W3.cell? ⟨b7, 0, none⟩ = some (.int .i64 0) := (World.cell?_of_block (hk3 b7 (.inr (.inr rfl)))).trans c7
        have df : W3.frozen? ⟨b6, 0, none⟩ = false := (World.frozen?_of_block (hk3 b6 (.inr (.inl rfl)))).trans hf
        gi_wp2
        go_roundw
        case rel =>
          refine ⟨pre ++ [r.extract 0 i], r.extract (i + 1) r.size, by rw [← hpre, names_some hidx]; simp, by simp; omega, hJs _ _ _ hJ3, ?_, ?_, by rw [World.frozen?_setCell]; exact df, ?_⟩
          · rw [World.cell?_setCell_other _ _ _ _ (by simpa using h56)]; exact d5
          · exact World.cell?_setCell_same' _ _ _ (by rw [d6]; rfl)
          · rw [World.cell?_setCell_other _ _ _ _ (by simpa using h76)]; exact d7
        case measure =>
          rw [World.cell?_setCell_same' _ _ _ (by rw [d6]; rfl), k6]
          simp
          omega
      · gi_wp2
        refine bodyPost_ret (results_none rfl _ _ _) rfl ?_
        exact ⟨⟨_, rfl⟩, .inr ⟨pre ++ [r.extract 0 i], ⟨M.names (r.extract (i + 1) r.size), by rw [← hpre, names_some hidx]; simp⟩, by simp, hJx3⟩⟩
end Go.Tt
