import Derived.Test.YtfiahgfjepaiiaaGreatDoorVA1
set_option linter.unusedVariables false
namespace Go.Tt

/-- Two lists, place by place. -/
inductive All2 {α β : Type} (R : α → β → Prop) : List α → List β → Prop
  | nil : All2 R [] []
  | cons {x y xs ys} : R x y → All2 R xs ys → All2 R (x :: xs) (y :: ys)
theorem All2.imp {α β : Type} {R R' : α → β → Prop} (h : ∀ x y, R x y → R' x y) {xs : List α} {ys : List β} (a : All2 R xs ys) : All2 R' xs ys := by
  induction a with
  | nil => exact .nil
  | cons p _ ih => exact .cons (h _ _ p) ih
theorem All2.length {α β : Type} {R : α → β → Prop} {xs : List α} {ys : List β} (a : All2 R xs ys) : xs.length = ys.length := by
  induction a with
  | nil => rfl
  | cons _ _ ih => simp [ih]
theorem All2.get {α β : Type} {R : α → β → Prop} {xs : List α} {ys : List β} (a : All2 R xs ys) : ∀ (j : Nat) (x : α), xs[j]? = some x → ∃ y, ys[j]? = some y ∧ R x y := by
  induction a with
  | nil => intro j x h; simp at h
  | cons p _ ih =>
    intro j x h
    cases j with
    | zero => simp at h; subst h; exact ⟨_, by simp, p⟩
    | succ j => simpa using ih j x (by simpa using h)
theorem All2.of {α β : Type} {R : α → β → Prop} : ∀ (xs : List α) (ys : List β), xs.length = ys.length → (∀ (j : Nat) (x : α) (y : β), xs[j]? = some x → ys[j]? = some y → R x y) → All2 R xs ys
  | [], [], _, _ => .nil
  | [], _ :: _, h, _ => by simp at h
  | _ :: _, [], h, _ => by simp at h
  | x :: xs, y :: ys, h, r => .cons (r 0 x y rfl rfl) (All2.of xs ys (by simpa using h) fun j a b ha hb => r (j + 1) a b (by simpa using ha) (by simpa using hb))
theorem All2.append {α β : Type} {R : α → β → Prop} {xs xs' : List α} {ys ys' : List β} (a : All2 R xs ys) (b : All2 R xs' ys') : All2 R (xs ++ xs') (ys ++ ys') := by
  induction a with
  | nil => exact b
  | cons p _ ih => exact .cons p ih
theorem All2.take {α β : Type} {R : α → β → Prop} {xs : List α} {ys : List β} (a : All2 R xs ys) (n : Nat) : All2 R (xs.take n) (ys.take n) := by
  induction a generalizing n with
  | nil => simp; exact .nil
  | cons p _ ih => cases n with
    | zero => exact .nil
    | succ n => exact .cons p (ih n)
theorem All2.drop {α β : Type} {R : α → β → Prop} {xs : List α} {ys : List β} (a : All2 R xs ys) (n : Nat) : All2 R (xs.drop n) (ys.drop n) := by
  induction a generalizing n with
  | nil => simp; exact .nil
  | cons p q ih => cases n with
    | zero => exact .cons p q
    | succ n => exact ih n

/-- Where an object lies: its block; of a row: its header. -/
structure ALoc where
  blk : Option Nat
  A : Option Addr
  n : Nat
  cap : Nat
abbrev Beta := Nat → Option ALoc
abbrev big : Nat := 268435456

def ptrV (β : Beta) (x : Nat × Nat) : Option Value := (β x.1).bind fun l => l.blk.map fun b => .pointer (some ⟨b, x.2, none⟩)

inductive RepC (w : World) (S : Nat → Prop) (β : Beta) : C → Value → Prop
  | bot (v : Value) : RepC w S β .bot v
  | un : RepC w S β .un undef
  | b (x : Bool) : RepC w S β (.b x) (.bool x)
  | i (k : IntKind) (n : Int) (h : (Lit.int k n).wf = true) : RepC w S β (.i k n) (.int k n)
  | s (x : ByteArray) (h : x.size ≤ 134217728) : RepC w S β (.s x) (.string x)
  | L (τ : ET) (xs : List τ.T) (A : Option Addr) (cap : Nat) (b o : Nat) (vals : Nat → Nat → Value) (hc : xs.length ≤ cap) (hb : xs.length ≤ big) (hn : A = none → cap = 0)
      (hA : 0 < xs.length → A = some ⟨b, o, none⟩ ∧ S b)
      (hv : ∀ j q, j < xs.length → q < τ.size → w.cell? ⟨b, o + (j * τ.size + q), none⟩ = some (vals j q))
      (hr : ∀ j q x y, xs[j]? = some x → (τ.enc x)[q]? = some y → RepC w S β y (vals j q)) : RepC w S β (.L τ xs) (.slice A xs.length cap)
  | Lx (τ : ET) (xs : List τ.T) (A : Addr) (cap : Nat) (h : RepC w S β (.L τ xs) (.slice (some A) xs.length cap)) : RepC w S β (.Lx τ xs) (.slice (some A) xs.length cap)
  | nl : RepC w S β .nl (.slice none 0 0)
  | zc (τ : ET) (A : Option Addr) : RepC w S β (.zc τ) (.slice A 0 0)
  | row (τ : ET) (id : Nat) (l : ALoc) (h : β id = some l) : RepC w S β (.row τ id) (.slice l.A l.n l.cap)
  | p (id off : Nat) (l : ALoc) (b : Nat) (h : β id = some l) (hb : l.blk = some b) : RepC w S β (.p id off) (.pointer (some ⟨b, off, none⟩))
  | lp (τ : ET) (x : τ.T) (c : Nat) (b o : Nat) (vals : Nat → Value) (hS : S b)
      (hv : ∀ q, q < τ.size → w.cell? ⟨b, o + q, none⟩ = some (vals q))
      (hr : ∀ q y, (τ.enc x)[q]? = some y → RepC w S β y (vals q)) : RepC w S β (.lp τ x c) (.pointer (some ⟨b, o + c, none⟩))
  | rp (τ : ET) (id : Nat) (i : Int) (c : Nat) (l : ALoc) (b : Nat) (h : β id = some l) (hb : l.blk = some b) (h0 : 0 ≤ i) (h1 : i < l.n) :
      RepC w S β (.rp τ id i c) (.pointer (some ⟨b, i.toNat * τ.size + c, none⟩))
  | pn : RepC w S β .pn (.pointer none)
  | fn (f : FuncId) (first caps : List (Nat × Nat)) (vf vc : List Value) (hf : first.map (ptrV β) = vf.map some) (hc : caps.map (ptrV β) = vc.map some) :
      RepC w S β (.fn f first caps) (.func (.func f) vf.toArray vc.toArray)
  | fnil : RepC w S β .fnil .nilFunc
  | m (id : Nat) (l : ALoc) (b : Nat) (h : β id = some l) (hb : l.blk = some b) : RepC w S β (.m id) (.map (some b))
  | mn : RepC w S β .mn (.map none)
  | inil : RepC w S β .inil .nilIface

theorem cell_of_keep {w w' : World} {a : Addr} (h : w'.heap[a.block]? = w.heap[a.block]?) : w'.cell? a = w.cell? a := by simp only [World.cell?, h]

theorem ptrV_mono {β β' : Beta} (hβ : ∀ id l, β id = some l → β' id = some l) {x : Nat × Nat} {v : Value} (h : ptrV β x = some v) : ptrV β' x = some v := by
  unfold ptrV at h ⊢
  cases hl : β x.1 with
  | none => rw [hl] at h; simp at h
  | some l => rw [hβ _ _ hl]; rw [hl] at h; exact h
theorem ptrs_mono {β β' : Beta} (hβ : ∀ id l, β id = some l → β' id = some l) : ∀ {xs : List (Nat × Nat)} {vs : List Value}, xs.map (ptrV β) = vs.map some → xs.map (ptrV β') = vs.map some
  | [], [], _ => rfl
  | [], _ :: _, h => by simp at h
  | _ :: _, [], h => by simp at h
  | x :: xs, v :: vs, h => by
    simp only [List.map_cons, List.cons.injEq] at h ⊢
    exact ⟨ptrV_mono hβ h.1, ptrs_mono hβ h.2⟩

theorem RepC.mono {w w' : World} {S S' : Nat → Prop} {β β' : Beta} (hw : ∀ b, S b → w'.heap[b]? = w.heap[b]?) (hS : ∀ b, S b → S' b) (hβ : ∀ id l, β id = some l → β' id = some l)
    {c : C} {v : Value} (h : RepC w S β c v) : RepC w' S' β' c v := by
  induction h with
  | bot v => exact .bot v
  | un => exact .un
  | b x => exact .b x
  | i k n h => exact .i k n h
  | s x h => exact .s x h
  | L τ xs A cap b o vals hc hb hn hA hv hr ih =>
    refine .L τ xs A cap b o vals hc hb hn (fun h0 => ⟨(hA h0).1, hS _ (hA h0).2⟩) (fun j q hj hq => ?_) (fun j q x y hx hy => ih j q x y hx hy)
    rw [cell_of_keep (hw b (hA (by omega)).2)]
    exact hv j q hj hq
  | Lx τ xs A cap _ ih => exact .Lx τ xs A cap ih
  | nl => exact .nl
  | zc τ A => exact .zc τ A
  | row τ id l h => exact .row τ id l (hβ _ _ h)
  | p id off l b h hb => exact .p id off l b (hβ _ _ h) hb
  | lp τ x c b o vals hS' hv hr ih =>
    refine .lp τ x c b o vals (hS _ hS') (fun q hq => ?_) (fun q y hy => ih q y hy)
    rw [cell_of_keep (hw b hS')]
    exact hv q hq
  | rp τ id i c l b h hb h0 h1 => exact .rp τ id i c l b (hβ _ _ h) hb h0 h1
  | pn => exact .pn
  | fn f first caps vf vc hf hc => exact .fn f first caps vf vc (ptrs_mono hβ hf) (ptrs_mono hβ hc)
  | fnil => exact .fnil
  | m id l b h hb => exact .m id l b (hβ _ _ h) hb
  | mn => exact .mn
  | inil => exact .inil

/-- A cell's content. -/
def RC (w : World) (S : Nat → Prop) (β : Beta) (c : C) (v : Value) : Prop := RepC w S β c v ∧ v.oneCell' = true
theorem RC.mono {w w' : World} {S S' : Nat → Prop} {β β' : Beta} (hw : ∀ b, S b → w'.heap[b]? = w.heap[b]?) (hS : ∀ b, S b → S' b) (hβ : ∀ id l, β id = some l → β' id = some l)
    {c : C} {v : Value} (h : RC w S β c v) : RC w' S' β' c v := ⟨h.1.mono hw hS hβ, h.2⟩
inductive RepU (w : World) (S : Nat → Prop) (β : Beta) : U → Value → Prop
  | c {x : C} {v : Value} : RepC w S β x v → RepU w S β (.c x) v
  | agg {cs : List C} {vs : Array Value} : All2 (RC w S β) cs vs.toList → RepU w S β (.agg cs) (.agg vs)
inductive RepV (w : World) (S : Nat → Prop) (β : Beta) : V → Value → Prop
  | u {x : U} {v : Value} : RepU w S β x v → RepV w S β (.u x) v
  | tup {us : List U} {vs : Array Value} : All2 (RepU w S β) us vs.toList → RepV w S β (.tup us) (.tuple vs)
  | nx (c : Bool) (i r : Int) (h : c = true → (Lit.int .i64 i).wf = true ∧ (Lit.int .i32 r).wf = true) : RepV w S β (.nx c i r) (.tuple (if c = true then #[.bool true, .int .i64 i, .int .i32 r] else #[.bool false]))
theorem RepU.mono {w w' : World} {S S' : Nat → Prop} {β β' : Beta} (hw : ∀ b, S b → w'.heap[b]? = w.heap[b]?) (hS : ∀ b, S b → S' b) (hβ : ∀ id l, β id = some l → β' id = some l)
    {c : U} {v : Value} (h : RepU w S β c v) : RepU w' S' β' c v := by
  cases h with
  | c h => exact .c (h.mono hw hS hβ)
  | agg h => exact .agg (h.imp fun _ _ h => h.mono hw hS hβ)
theorem RepV.mono {w w' : World} {S S' : Nat → Prop} {β β' : Beta} (hw : ∀ b, S b → w'.heap[b]? = w.heap[b]?) (hS : ∀ b, S b → S' b) (hβ : ∀ id l, β id = some l → β' id = some l)
    {c : V} {v : Value} (h : RepV w S β c v) : RepV w' S' β' c v := by
  cases h with
  | u h => exact .u (h.mono hw hS hβ)
  | tup h => exact .tup (h.imp fun _ _ h => h.mono hw hS hβ)
  | nx c i r h => exact .nx c i r h
theorem RepV.bot (w : World) (S : Nat → Prop) (β : Beta) (v : Value) : RepV w S β .bot v := .u (.c (.bot v))

/-- An object in memory. -/
inductive ObjRep (w : World) (S F : Nat → Prop) (β : Beta) (l : ALoc) : AObj → Prop
  | cells {cs : List C} (b : Nat) (c : Array Value) (e : TypeId) (hl : l.blk = some b) (hS : ¬ S b) (hF : ¬ F b) (hh : w.heap[b]? = some (.cells c e (0, 0))) (ha : All2 (RC w S β) cs c.toList) : ObjRep w S F β l (.cells cs)
  | none_ {τ : ET} (hl : l.blk = none) (hn : l.n = 0) (hc : l.cap = 0) : ObjRep w S F β l (.row τ [])
  | row {τ : ET} {xs : List τ.T} (b : Nat) (c : Array Value) (e : TypeId) (hl : l.blk = some b) (hA : l.A = some ⟨b, 0, none⟩) (hS : ¬ S b) (hF : ¬ F b) (hh : w.heap[b]? = some (.cells c e (0, 0)))
      (hz : c.size = l.cap * τ.size) (hn : l.n = xs.length) (hc : xs.length ≤ l.cap) (hb : xs.length ≤ big) (hm : l.cap ≤ maxLen)
      (ha : ∀ j x, xs[j]? = some x → All2 (RC w S β) (τ.enc x) ((c.toList.drop (j * τ.size)).take τ.size)) : ObjRep w S F β l (.row τ xs)
  | froz {τ : ET} {xs : List τ.T} (hn : l.n = xs.length) (h : RepC w S β (.L τ xs) (.slice l.A l.n l.cap)) : ObjRep w S F β l (.froz τ xs)
  | dead : ObjRep w S F β l .dead
  | mp {τ : ET} {es : List (ByteArray × τ.T)} (b : Nat) (arr : Array MapEntry) (clk : Nat) (hl : l.blk = some b) (hS : ¬ S b) (hF : ¬ F b) (hh : w.heap[b]? = some (.map arr clk)) (hb : es.length ≤ big)
      (ha : All2 (fun e (m : MapEntry) => m.key = .string e.1 ∧ RepU w S β (encU τ e.2) m.val) es arr.toList) : ObjRep w S F β l (.mp τ es)
  | iter {x : ByteArray} {pos : Int} (b : Nat) (hl : l.blk = some b) (hS : ¬ S b) (hF : ¬ F b) (hh : w.heap[b]? = some (.stringIter x pos.toNat)) (h0 : 0 ≤ pos) (h1 : pos ≤ x.size) (hx : x.size ≤ 134217728) : ObjRep w S F β l (.iter x pos)

def AObj.live : AObj → Bool
  | .cells _ | .row _ _ | .mp _ _ | .iter _ _ => true
  | _ => false

structure Inv (w : World) (S F : Nat → Prop) (β : Beta) (σ : Store) : Prop where
  sS : ∀ b, S b → b < w.heap.size
  sF : ∀ b, F b → b < w.heap.size ∧ ¬ S b
  dom : ∀ id, σ id = none → β id = none
  obj : ∀ id o, σ id = some o → ∃ l, β id = some l ∧ ObjRep w S F β l o
  inj : ∀ id1 id2 o1 o2 l1 l2 b, σ id1 = some o1 → σ id2 = some o2 → o1.live = true → o2.live = true → β id1 = some l1 → β id2 = some l2 → l1.blk = some b → l2.blk = some b → id1 = id2

/-- What was, and nobody writes, is there. -/
structure Ext (w : World) (S F : Nat → Prop) (w' : World) (S' : Nat → Prop) : Prop where
  os : w'.os = w.os
  tape : w'.tape = w.tape
  output : w'.output = w.output
  size : w.heap.size ≤ w'.heap.size
  keep : ∀ b, S b ∨ F b → w'.heap[b]? = w.heap[b]?
  mono : ∀ b, S b → S' b
theorem Ext.refl (w : World) (S F : Nat → Prop) : Ext w S F w S := ⟨rfl, rfl, rfl, Nat.le_refl _, fun _ _ => rfl, fun _ h => h⟩
theorem Ext.trans {w1 w2 w3 : World} {S1 S2 S3 F : Nat → Prop} (a : Ext w1 S1 F w2 S2) (b : Ext w2 S2 F w3 S3) : Ext w1 S1 F w3 S3 :=
  ⟨b.os.trans a.os, b.tape.trans a.tape, b.output.trans a.output, Nat.le_trans a.size b.size,
   fun x hx => (b.keep x (hx.imp (a.mono x) id)).trans (a.keep x hx), fun x hx => b.mono x (a.mono x hx)⟩

/-- The marks that ranges over functions leave among the deferred calls: each names a block without a call. -/
def Marked (w : World) (S : Nat → Prop) : List Deferred → Prop
  | [] => True
  | d :: ds => (∃ D, d.target = .collected D ∧ S D ∧ w.heap[D]? = some (.deferred (some [])) ∧ ∀ d' ∈ ds, d'.target ≠ .collected D) ∧ Marked w S ds
theorem Marked.mono {w w' : World} {S S' : Nat → Prop} (hw : ∀ b, S b → w'.heap[b]? = w.heap[b]?) (hS : ∀ b, S b → S' b) : ∀ {ds : List Deferred}, Marked w S ds → Marked w' S' ds
  | [], _ => trivial
  | d :: ds, h => by
    obtain ⟨⟨D, h1, h2, h3, h4⟩, h5⟩ := h
    exact ⟨⟨D, h1, hS _ h2, (hw _ h2).trans h3, h4⟩, h5.mono hw hS⟩
structure St (s : AS) (a : Act) (w : World) (S F : Nat → Prop) (β : Beta) : Prop where
  inv : Inv w S F β s.σ
  marks : Marked w S a.defers
  nt : a.tmps.size = s.nt
  env : ∀ j, RepV w S β (s.env j) (a.tmps.getD j undef)

end Go.Tt
