import Derived.Test.YtfiahgfjepaiiaaGreatDoorVA4
import Derived.Laws.AppendOwn
import Derived.MapKept
set_option linter.unusedVariables false
set_option linter.unusedSimpArgs false
namespace Go.Tt

section inv
variable {w : World} {S : Nat → Prop} {β : Beta}
theorem RepV.cell {x : C} {v : Value} (h : RepV w S β (.c x) v) : RepC w S β x v := by
  cases h with | u h => cases h with | c h => exact h
theorem RepV.int {k : IntKind} {n : Int} {v : Value} (h : RepV w S β (.c (.i k n)) v) : v = .int k n ∧ (Lit.int k n).wf = true := by
  have := h.cell; cases this with | i _ _ hw => exact ⟨rfl, hw⟩
theorem RepV.bool {x : Bool} {v : Value} (h : RepV w S β (.c (.b x)) v) : v = .bool x := by
  have := h.cell; cases this; rfl
theorem RepV.str {x : ByteArray} {v : Value} (h : RepV w S β (.c (.s x)) v) : v = .string x ∧ x.size ≤ 134217728 := by
  have := h.cell; cases this with | s _ hw => exact ⟨rfl, hw⟩
theorem RepV.agg_ {cs : List C} {v : Value} (h : RepV w S β (.agg cs) v) : ∃ vs, v = .agg vs ∧ All2 (RC w S β) cs vs.toList := by
  cases h with | u h => cases h with | agg h => exact ⟨_, rfl, h⟩
theorem RepV.tup_ {us : List U} {v : Value} (h : RepV w S β (.tup us) v) : ∃ vs, v = .tuple vs ∧ All2 (RepU w S β) us vs.toList := by
  cases h with | tup h => exact ⟨_, rfl, h⟩
theorem RepV.ptr {id off : Nat} {v : Value} (h : RepV w S β (.c (.p id off)) v) : ∃ l b, β id = some l ∧ l.blk = some b ∧ v = .pointer (some ⟨b, off, none⟩) := by
  have := h.cell; cases this with | p _ _ l b hl hb => exact ⟨l, b, hl, hb, rfl⟩
end inv

theorem listAs_eq {τ : ET} {c : C} {x : List τ.T} (h : listAs τ c = some x) : c = .L τ x := by
  cases τ <;> cases c <;> simp only [listAs, reduceCtorEq] at h
  all_goals (rename_i τ' xs; cases τ' <;> simp only [listAs, reduceCtorEq, Option.some.injEq] at h; rw [h])
theorem isSl_eq {τ : ET} {d : TD} (h : isSl τ d = true) : d = .slice τ := by
  cases d <;> simp [isSl] at h
  rename_i τ'
  cases τ <;> cases τ' <;> simp_all
theorem enc_size (τ : ET) (x : τ.T) : (τ.enc x).length = τ.size := by cases τ <;> rfl
theorem size_pos (τ : ET) : 0 < τ.size := by cases τ <;> decide
theorem size_le (τ : ET) : τ.size ≤ 17 := by cases τ <;> decide
theorem enc_pure (τ : ET) (x : τ.T) (q : Nat) (y : C) (h : (τ.enc x)[q]? = some y) : y.pure = true := by
  have : y ∈ τ.enc x := List.mem_of_getElem? h
  cases τ <;> simp [ET.enc, Entry.enc, Change.enc, Copy.enc, Commit.enc, Grant.enc, Session.enc, Shared.enc, Client.enc, Letter.enc, Event.enc, Thing.enc] at this <;> (repeat' (rcases this with this | this)) <;> subst_vars <;> rfl
theorem enc_nobot (τ : ET) (x : τ.T) (q : Nat) (y : C) (h : (τ.enc x)[q]? = some y) : y.isBot = false := by
  have : y ∈ τ.enc x := List.mem_of_getElem? h
  cases τ <;> simp [ET.enc, Entry.enc, Change.enc, Copy.enc, Commit.enc, Grant.enc, Session.enc, Shared.enc, Client.enc, Letter.enc, Event.enc, Thing.enc] at this <;> (repeat' (rcases this with this | this)) <;> subst_vars <;> rfl
theorem rc_one {w : World} {S : Nat → Prop} {β : Beta} {c : C} {v : Value} (h : RepC w S β c v) (hb : c.isBot = false) : v.oneCell' = true := by
  cases h <;> first | rfl | simp [C.isBot] at hb
theorem RepC.anyβ {w : World} {S : Nat → Prop} {β : Beta} {c : C} {v : Value} (h : RepC w S β c v) (hp : c.pure = true) (β' : Beta) : RepC w S β' c v := by
  induction h with
  | bot v => exact .bot v
  | un => exact .un
  | b x => exact .b x
  | i k n h => exact .i k n h
  | s x h => exact .s x h
  | L τ xs A cap b o vals hc hb hn hA hv hr ih => exact .L τ xs A cap b o vals hc hb hn hA hv (fun j q x y hx hy => ih j q x y hx hy (enc_pure τ x q y hy))
  | Lx τ xs A cap _ ih => exact .Lx τ xs A cap (ih rfl)
  | nl => exact .nl
  | zc τ A => exact .zc τ A
  | lp τ x c b o vals hS' hv hr ih => exact .lp τ x c b o vals hS' hv (fun q y hy => ih q y hy (enc_pure τ x q y hy))
  | pn => exact .pn
  | fnil => exact .fnil
  | mn => exact .mn
  | inil => exact .inil
  | row _ _ _ _ => simp [C.pure] at hp
  | p _ _ _ _ _ _ => simp [C.pure] at hp
  | rp _ _ _ _ _ _ _ _ _ _ => simp [C.pure] at hp
  | fn _ _ _ _ _ _ _ => simp [C.pure] at hp
  | m _ _ _ _ _ => simp [C.pure] at hp
theorem All2.getR {α β : Type} {R : α → β → Prop} {xs : List α} {ys : List β} (a : All2 R xs ys) (j : Nat) (y : β) (h : ys[j]? = some y) : ∃ x, xs[j]? = some x ∧ R x y := by
  have hl := a.length
  have hj : j < ys.length := (List.getElem?_eq_some_iff.1 h).1
  have hx : xs[j]? = some xs[j] := List.getElem?_eq_getElem (by omega)
  obtain ⟨y', hy', hr⟩ := a.get j _ hx
  rw [h] at hy'; obtain rfl := Option.some.inj hy'
  exact ⟨_, hx, hr⟩

/-! ### Some of the objects -/
def Sub (a b : Store) : Prop := ∀ id o, a id = some o → b id = some o
theorem Sub.refl (a : Store) : Sub a a := fun _ _ h => h
theorem Sub.restr (σ : Store) (ids : List Nat) : Sub (restr σ ids) σ := fun id o h => by
  unfold Tt.restr at h
  cases hm : mem id ids with
  | true => rw [hm] at h; exact h
  | false => rw [hm] at h; simp at h
theorem Sub.sput {a b : Store} (h : Sub a b) (id : Nat) (o : AObj) : Sub (sput a id o) (sput b id o) := fun j p hj => by
  simp only [Tt.sput] at hj ⊢
  cases hb : Nat.beq j id with
  | true => rw [hb] at hj; exact hj
  | false => rw [hb] at hj; exact h j p hj
theorem Sub.puts {a b : Store} (h : Sub a b) : ∀ (l : List (Nat × AObj)), Sub (puts a l) (puts b l)
  | [] => h
  | (id, o) :: r => by simp only [Tt.puts]; exact Sub.puts (h.sput id o) r
theorem puts_append (σ : Store) (a b : List (Nat × AObj)) : puts σ (a ++ b) = puts (puts σ a) b := by
  induction a generalizing σ with
  | nil => rfl
  | cons p r ih => obtain ⟨id, o⟩ := p; simp only [List.cons_append, puts, ih]

/-! ### Objects that are new, that die, that nobody writes any more -/
theorem Inv.newG {w w' : World} {S F : Nat → Prop} {β : Beta} {σ : Store} (h : Inv w S F β σ) (hz : w.heap.size ≤ w'.heap.size) (kS : ∀ b, S b → w'.heap[b]? = w.heap[b]?)
    (kO : ∀ j o l b, σ j = some o → o.live = true → β j = some l → l.blk = some b → w'.heap[b]? = w.heap[b]?) {id : Nat} (hid : σ id = none) {l : ALoc} {o : AObj}
    (hr : ObjRep w' S F (bput β id l) l o) (hb : ∀ b, l.blk = some b → ∀ j o' l', σ j = some o' → o'.live = true → β j = some l' → l'.blk ≠ some b) : Inv w' S F (bput β id l) (sput σ id o) := by
  have hn := h.dom id hid
  have hm := bput_mono l hn
  refine ⟨fun b hb => Nat.lt_of_lt_of_le (h.sS b hb) hz, fun b hb => ⟨Nat.lt_of_lt_of_le (h.sF b hb).1 hz, (h.sF b hb).2⟩, fun j hj => ?_, fun j o' hj => ?_, fun i1 i2 o1 o2 l1 l2 b h1 h2 v1 v2 e1 e2 b1 b2 => ?_⟩
  · by_cases e : j = id
    · subst e; rw [sput_same] at hj; simp at hj
    · rw [sput_other _ _ _ _ e] at hj; rw [bput_other _ _ _ _ e]; exact h.dom j hj
  · by_cases e : j = id
    · subst e; rw [sput_same] at hj; obtain rfl := Option.some.inj hj; exact ⟨l, bput_same _ _ _, hr⟩
    · rw [sput_other _ _ _ _ e] at hj
      obtain ⟨k, hk, hkr⟩ := h.obj j o' hj
      exact ⟨k, by rw [bput_other _ _ _ _ e]; exact hk, hkr.mono kS (fun _ hb => hb) hm fun b hb hv => ⟨kO j o' k b hj hv hk hb, (hkr.block hv hb).1⟩⟩
  · by_cases c1 : i1 = id
    · by_cases c2 : i2 = id
      · rw [c1, c2]
      · subst c1
        rw [bput_same] at e1; obtain rfl := Option.some.inj e1
        rw [sput_other _ _ _ _ c2] at h2; rw [bput_other _ _ _ _ c2] at e2
        exact (hb b b1 i2 o2 l2 h2 v2 e2 b2).elim
    · by_cases c2 : i2 = id
      · subst c2
        rw [bput_same] at e2; obtain rfl := Option.some.inj e2
        rw [sput_other _ _ _ _ c1] at h1; rw [bput_other _ _ _ _ c1] at e1
        exact (hb b b2 i1 o1 l1 h1 v1 e1 b1).elim
      · rw [sput_other _ _ _ _ c1] at h1; rw [bput_other _ _ _ _ c1] at e1
        rw [sput_other _ _ _ _ c2] at h2; rw [bput_other _ _ _ _ c2] at e2
        exact h.inj i1 i2 o1 o2 l1 l2 b h1 h2 v1 v2 e1 e2 b1 b2
/-- An object is another one that owns nothing. -/
theorem Inv.turn {w : World} {S S' F : Nat → Prop} {β : Beta} {σ : Store} (h : Inv w S F β σ) {id : Nat} {o o' : AObj} (hid : σ id = some o) {l : ALoc} (hl : β id = some l) (hv : o'.live = false)
    (hS : ∀ b, S b → S' b) (hS' : ∀ b, S' b → S b ∨ l.blk = some b ∧ o.live = true) (hr : ObjRep w S' F β l o') : Inv w S' F β (sput σ id o') := by
  obtain ⟨l1, hl1, hr1⟩ := h.obj id o hid
  rw [hl] at hl1; obtain rfl := Option.some.inj hl1
  refine ⟨fun b hb => ?_, fun b hb => ⟨(h.sF b hb).1, fun hs => ?_⟩, fun j hj => ?_, fun j o2 hj => ?_, fun i1 i2 o1 o2 l1 l2 b h1 h2 v1 v2 e1 e2 b1 b2 => ?_⟩
  · rcases hS' b hb with hb | ⟨hb, hv1⟩
    · exact h.sS b hb
    · exact (hr1.block hv1 hb).2.2
  · rcases hS' b hs with hs | ⟨hs, hv1⟩
    · exact (h.sF b hb).2 hs
    · exact (hr1.block hv1 hs).2.1 hb
  · by_cases e : j = id
    · subst e; rw [sput_same] at hj; simp at hj
    · rw [sput_other _ _ _ _ e] at hj; exact h.dom j hj
  · by_cases e : j = id
    · subst e; rw [sput_same] at hj; obtain rfl := Option.some.inj hj; exact ⟨l, hl, hr⟩
    · rw [sput_other _ _ _ _ e] at hj
      obtain ⟨k, hk, hkr⟩ := h.obj j o2 hj
      refine ⟨k, hk, hkr.mono (fun _ _ => rfl) hS (fun _ _ h => h) fun b hb hv2 => ⟨rfl, fun hs => ?_⟩⟩
      rcases hS' b hs with hs | ⟨hs, hv1⟩
      · exact (hkr.block hv2 hb).1 hs
      · exact e (h.inj j id o2 o k l b hj hid hv2 hv1 hk hl hb hs)
  · have : ∀ j o3, sput σ id o' j = some o3 → o3.live = true → σ j = some o3 := by
      intro j o3 hj hv3
      by_cases e : j = id
      · subst e; rw [sput_same] at hj; obtain rfl := Option.some.inj hj; rw [hv] at hv3; simp at hv3
      · rw [sput_other _ _ _ _ e] at hj; exact hj
    exact h.inj i1 i2 o1 o2 l1 l2 b (this _ _ h1 v1) (this _ _ h2 v2) v1 v2 e1 e2 b1 b2

/-! ### Elements that are read -/
structure ReadL (w : World) (S : Nat → Prop) (β : Beta) (τ : ET) (xs : List τ.T) (A : Option Addr) (news : List Value) : Prop where
  big : xs.length ≤ big
  len : news.length = xs.length * τ.size
  addr : 0 < xs.length → ∃ b o, A = some ⟨b, o, none⟩
  cell : ∀ b o, A = some ⟨b, o, none⟩ → ∀ j u, news[j]? = some u → w.cell? ⟨b, o + j, none⟩ = some u
  elems : ∀ j x, xs[j]? = some x → All2 (RC w S β) (τ.enc x) ((news.drop (j * τ.size)).take τ.size)
theorem chunk_lt {n m j q : Nat} (hj : j < n) (hq : q < m) : j * m + q < n * m := by
  have : (j + 1) * m ≤ n * m := Nat.mul_le_mul_right _ hj
  rw [Nat.add_mul] at this; omega
theorem RepC.readL {w : World} {S : Nat → Prop} {β : Beta} {τ : ET} {xs : List τ.T} {v : Value} (h : RepC w S β (.L τ xs) v) : ∃ A cap news, v = .slice A xs.length cap ∧ xs.length ≤ cap ∧ ReadL w S β τ xs A news := by
  cases h with
  | L _ _ A cap b o vals hc hb hn hA hv hr =>
    have hp := size_pos τ
    have hlen : ((List.range (xs.length * τ.size)).map fun p => vals (p / τ.size) (p % τ.size)).length = xs.length * τ.size := by simp
    refine ⟨A, cap, (List.range (xs.length * τ.size)).map fun p => vals (p / τ.size) (p % τ.size), rfl, hc, hb, hlen, fun h0 => ⟨b, o, (hA h0).1⟩, fun b' o' he j u hj => ?_, fun j x hx => ?_⟩
    · simp only [List.getElem?_map, Option.map_eq_some_iff] at hj
      obtain ⟨p, hp', rfl⟩ := hj
      have hlt : j < xs.length * τ.size := by have := (List.getElem?_eq_some_iff.1 hp').1; simpa using this
      rw [List.getElem?_range hlt] at hp'
      obtain rfl := Option.some.inj hp'
      have h1 : j / τ.size < xs.length := Nat.div_lt_of_lt_mul (by rw [Nat.mul_comm]; exact hlt)
      obtain ⟨e, _⟩ := hA (Nat.lt_of_le_of_lt (Nat.zero_le _) h1)
      rw [he] at e; cases e
      have := hv (j / τ.size) (j % τ.size) h1 (Nat.mod_lt _ hp)
      have e : j / τ.size * τ.size + j % τ.size = j := by rw [Nat.mul_comm]; exact Nat.div_add_mod j τ.size
      rw [e] at this; exact this
    · have hj : j < xs.length := (List.getElem?_eq_some_iff.1 hx).1
      have hjm : (j + 1) * τ.size ≤ xs.length * τ.size := Nat.mul_le_mul_right _ hj
      rw [Nat.add_mul] at hjm
      refine All2.of _ _ (by rw [enc_size, List.length_take, List.length_drop, hlen]; omega) (fun q y u hy hu => ?_)
      have hq : q < τ.size := by rw [← enc_size τ x]; exact (List.getElem?_eq_some_iff.1 hy).1
      rw [List.getElem?_take, if_pos hq, List.getElem?_drop, List.getElem?_map, List.getElem?_range (by omega)] at hu
      simp only [Option.map_some, Option.some.injEq] at hu
      have e1 : (j * τ.size + q) / τ.size = j := by rw [Nat.mul_comm, Nat.mul_add_div hp, Nat.div_eq_of_lt hq]; omega
      have e2 : (j * τ.size + q) % τ.size = q := by rw [Nat.mul_comm, Nat.mul_add_mod, Nat.mod_eq_of_lt hq]
      rw [e1, e2] at hu
      subst hu
      exact ⟨hr j q x y hx hy, rc_one (hr j q x y hx hy) (enc_nobot τ x q y hy)⟩
/-- Back: what is read of a block that nobody writes. -/
theorem ReadL.rep {w : World} {S : Nat → Prop} {β : Beta} {τ : ET} {xs : List τ.T} {A : Option Addr} {news : List Value} (h : ReadL w S β τ xs A news) {cap : Nat} (hc : xs.length ≤ cap) (hn : A = none → cap = 0) (hS : ∀ b o, 0 < xs.length → A = some ⟨b, o, none⟩ → S b) :
    RepC w S β (.L τ xs) (.slice A xs.length cap) := by
  rcases Nat.eq_zero_or_pos xs.length with h0 | h0
  · exact .L τ xs A cap 0 0 (fun _ _ => undef) hc h.big hn (fun h => by omega) (fun j q hj => by omega) (fun j q x y hx => by have := (List.getElem?_eq_some_iff.1 hx).1; omega)
  · obtain ⟨b, o, rfl⟩ := h.addr h0
    have hp := size_pos τ
    refine .L τ xs _ cap b o (fun j q => news.getD (j * τ.size + q) undef) hc h.big (fun h => by simp at h) (fun _ => ⟨rfl, hS b o h0 rfl⟩) (fun j q hj hq => ?_) (fun j q x y hx hy => ?_)
    · have hlt : j * τ.size + q < news.length := by rw [h.len]; exact chunk_lt hj hq
      have := h.cell b o rfl (j * τ.size + q) news[j * τ.size + q] (List.getElem?_eq_getElem hlt)
      rw [this, List.getD_eq_getElem?_getD, List.getElem?_eq_getElem hlt]; rfl
    · obtain ⟨z, hz, hr⟩ := (h.elems j x hx).get q y hy
      have hq : q < τ.size := by rw [← enc_size τ x]; exact (List.getElem?_eq_some_iff.1 hy).1
      rw [List.getElem?_take, if_pos hq, List.getElem?_drop] at hz
      rw [List.getD_eq_getElem?_getD, hz]; exact hr.1
theorem ReadL.one {w : World} {S : Nat → Prop} {β : Beta} {τ : ET} {xs : List τ.T} {A : Option Addr} {news : List Value} (h : ReadL w S β τ xs A news) : ∀ u ∈ news, u.oneCell' = true := by
  intro u hu
  obtain ⟨j, hj, rfl⟩ := List.getElem_of_mem hu
  have hp := size_pos τ
  rw [h.len] at hj
  have h1 : j / τ.size < xs.length := Nat.div_lt_of_lt_mul (by rw [Nat.mul_comm]; exact hj)
  have hx : xs[j / τ.size]? = some xs[j / τ.size] := List.getElem?_eq_getElem h1
  have hq := Nat.mod_lt j hp
  have e : j / τ.size * τ.size + j % τ.size = j := by rw [Nat.mul_comm]; exact Nat.div_add_mod j τ.size
  obtain ⟨y, hy, hr⟩ := (h.elems _ _ hx).getR (j % τ.size) news[j] (by rw [List.getElem?_take, if_pos hq, List.getElem?_drop, e]; exact List.getElem?_eq_getElem _)
  exact hr.2
theorem ReadL.nil {w : World} {S : Nat → Prop} {β : Beta} (τ : ET) (A : Option Addr) : ReadL w S β τ [] A [] :=
  ⟨by simp, by simp, fun h => by simp at h, fun _ _ _ j u hj => by simp at hj, fun j x hx => by simp at hx⟩
theorem row_readL {w : World} {S F : Nat → Prop} {β : Beta} {τ : ET} {xs : List τ.T} {l : ALoc} (h : ObjRep w S F β l (.row τ xs)) : ∃ news, ReadL w S β τ xs l.A news ∧ l.n = xs.length ∧ xs.length ≤ l.cap ∧ (0 < xs.length → ∃ b, l.blk = some b ∧ l.A = some ⟨b, 0, none⟩) := by
  cases h with
  | none_ h1 h2 h3 => exact ⟨[], ReadL.nil τ _, h2, by simp, fun h => by simp at h⟩
  | row b c e hl hA h2 h3 h4 h5 h6 h7 h8 hm h9 =>
    have hp := size_pos τ
    have hle : xs.length * τ.size ≤ c.size := by rw [h5]; exact Nat.mul_le_mul_right _ h7
    refine ⟨c.toList.take (xs.length * τ.size), ⟨h8, by simp; omega, fun _ => ⟨b, 0, hA⟩, fun b' o' he j u hj => ?_, fun j x hx => ?_⟩, h6, h7, fun _ => ⟨b, hl, hA⟩⟩
    · rw [hA] at he; cases he
      rw [List.getElem?_take] at hj
      split at hj
      · rw [Nat.zero_add]; simp only [World.cell?, h4]; simpa using hj
      · simp at hj
    · have hj : j < xs.length := (List.getElem?_eq_some_iff.1 hx).1
      have hjm : (j + 1) * τ.size ≤ xs.length * τ.size := Nat.mul_le_mul_right _ hj
      rw [Nat.add_mul] at hjm
      have e : ((c.toList.take (xs.length * τ.size)).drop (j * τ.size)).take τ.size = (c.toList.drop (j * τ.size)).take τ.size := by
        rw [List.drop_take, List.take_take]
        congr 1
        omega
      rw [e]; exact h9 j x hx
theorem row_cap0 {w : World} {S F : Nat → Prop} {β : Beta} {τ : ET} {xs : List τ.T} {l : ALoc} (h : ObjRep w S F β l (.row τ xs)) : l.A = none → l.cap = 0 := by
  cases h with
  | none_ h1 h2 h3 => exact fun _ => h3
  | row b c e hl hA => rw [hA]; intro h; simp at h
theorem froz_rep {w : World} {S F : Nat → Prop} {β : Beta} {τ : ET} {xs : List τ.T} {l : ALoc} (h : ObjRep w S F β l (.froz τ xs)) : l.n = xs.length ∧ RepC w S β (.L τ xs) (.slice l.A l.n l.cap) := by
  cases h with | froz h1 h2 => exact ⟨h1, h2⟩
theorem rdAs_ok {w : World} {S F : Nat → Prop} {β : Beta} {σ σr : Store} (hi : Inv w S F β σ) (hs : Sub σr σ) {τ : ET} {c : C} {xs : List τ.T} (h : rdAs τ σr c = some xs) {v : Value} (hv : RepC w S β c v) :
    ∃ A cap news, v = .slice A xs.length cap ∧ xs.length ≤ cap ∧ ReadL w S β τ xs A news := by
  unfold rdAs at h
  split at h
  · have e := listAs_eq h; cases e; exact hv.readL
  · have e := listAs_eq h; cases e; cases hv with | Lx _ _ A cap hv => exact hv.readL
  · cases h; cases hv; exact ⟨none, 0, [], rfl, Nat.le_refl _, ReadL.nil τ _⟩
  · cases h; cases hv; exact ⟨_, 0, [], rfl, Nat.le_refl _, ReadL.nil τ _⟩
  · rename_i τ0 id
    cases hv with
    | row _ _ l hl =>
      split at h
      · rename_i τ' ys hσ
        have e := listAs_eq h; cases e
        obtain ⟨l', hl', hr⟩ := hi.obj _ _ (hs _ _ hσ)
        rw [hl] at hl'; obtain rfl := Option.some.inj hl'
        obtain ⟨news, h1, h2, h3, _⟩ := row_readL hr
        exact ⟨l.A, l.cap, news, by rw [h2], h3, h1⟩
      · rename_i τ' ys hσ
        have e := listAs_eq h; cases e
        obtain ⟨l', hl', hr⟩ := hi.obj _ _ (hs _ _ hσ)
        rw [hl] at hl'; obtain rfl := Option.some.inj hl'
        obtain ⟨h1, h2⟩ := froz_rep hr
        obtain ⟨A, cap, news, e, h3, h4⟩ := h2.readL
        injection e with e1 e2 e3
        subst e1 e3
        exact ⟨_, _, news, by rw [h1], h3, h4⟩
      · simp at h
  · simp at h
end Go.Tt
