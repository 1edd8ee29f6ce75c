import Derived.Test.YtfiahgfjepaiiaaGreatDoorVD2
set_option linter.unusedVariables false
set_option linter.unusedSimpArgs false
namespace Go.Tt
open Go.Proofs
def L112_2 : LL
  | ⟨21, [(2, .u (.c (.p 64 0))), (4, .u (.c (.s p))), (6, .u (.c (.row .str 0))), (7, .u (.c (.i .i64 x0))), (8, .u (.c (.i .i64 x1))), (13, .u (.c (.fn 181 [] [(65, 0), (66, 0), (67, 0)])))],
      [(0, .row .str x2), (64, .cells [.i .i64 x3]), (65, .cells [.s q5]), (66, .cells [.s q6]), (67, .cells [.i .i64 q7])]⟩ =>
    .ite (band (seq q5 ⟨#[47]⟩) (band (seq q6 p) (ieq q7 0))) (.ite (M.namesOk p)
      (.at (.norm, ⟨21, [(2, .u (.c (.p 64 0))), (4, .u (.c (.s p))), (6, .u (.c (.row .str 0))), (7, .u (.c (.i .i64 x0))), (8, .u (.c (.i .i64 x1)))], [(0, .row .str x2), (64, .cells [.i .i64 x3])]⟩))
      (.at (.ret, ⟨21, [(2, .u (.c (.p 64 0)))], [(0, .row .str x2), (64, .cells [.i .i64 1])]⟩))) .no
  | _ => .no
theorem cells1 {w : World} {S F : Nat → Prop} {β : Beta} {l : ALoc} {c : C} (h : ObjRep w S F β l (.cells [c])) : ∃ b v e, l.blk = some b ∧ w.heap[b]? = some (.cells #[v] e (0, 0)) ∧ RepC w S β c v ∧ ¬ S b ∧ ¬ F b := by
  cases h with
  | cells b cs e h1 h2 h3 h4 h5 =>
    obtain ⟨l⟩ := cs
    cases h5 with | cons p q => cases q with | nil => exact ⟨b, _, e, h1, h4, p.1, h2, h3⟩
theorem cell_arr1 {w : World} {b : Nat} {v : Value} {e : TypeId} (h : w.heap[b]? = some (.cells #[v] e (0, 0))) : w.cell? ⟨b, 0, none⟩ = some v ∧ w.frozen? ⟨b, 0, none⟩ = false := by
  simp [World.cell?, World.frozen?, h]
theorem Marked.targets {w : World} {S : Nat → Prop} : ∀ {ds : List Deferred}, Marked w S ds → ∀ d ∈ ds, ∃ D, d.target = .collected D ∧ S D
  | [], _, d, hd => by simp at hd
  | d0 :: ds, h, d, hd => by
    obtain ⟨⟨D, h1, h2, _⟩, h3⟩ := h
    rcases List.mem_cons.1 hd with rfl | hd
    · exact ⟨D, h1, h2⟩
    · exact h3.targets d hd
theorem L112_2_ok : LLok Tryz.prog 1 (loopAt Tryz.f112 2) L112_2 := by
  intro ns o ns' he
  show CodeOK Tryz.prog 1 (loopAt Tryz.f112 2) ns.as o ns'.as
  unfold L112_2 at he
  split at he
  · rename_i p x0 x1 x2 x3 q5 q6 q7
    obtain ⟨hg, he2⟩ := ifK_none he
    clear he
    simp only [band, Bool.and_eq_true, seq_iff, ieq_iff] at hg
    obtain ⟨rfl, rfl, rfl⟩ := hg
    intro a w S F β Q hs hQ
    have hin := hs.inv
    obtain ⟨l0, hl0, hr0⟩ := hin.obj 0 _ rfl
    obtain ⟨lt, hlt, hrt⟩ := hin.obj 64 _ rfl
    obtain ⟨l5, hl5, hr5⟩ := hin.obj 65 _ rfl
    obtain ⟨l6, hl6, hr6⟩ := hin.obj 66 _ rfl
    obtain ⟨l7, hl7, hr7⟩ := hin.obj 67 _ rfl
    obtain ⟨bt, vt, et, kt1, kt2, kt3, kt4, kt5⟩ := cells1 hrt
    obtain ⟨b5, v5, e5, k51, k52, k53, k54, k55⟩ := cells1 hr5
    obtain ⟨b6, v6, e6, k61, k62, k63, k64, k65⟩ := cells1 hr6
    obtain ⟨b7, v7, e7, k71, k72, k73, k74, k75⟩ := cells1 hr7
    have hp6 : q6.size ≤ 134217728 := by cases k63; assumption
    cases kt3; cases k53; cases k63; cases k73
    have n56 : b5 ≠ b6 := fun e => by subst e; have := hin.inj 65 66 _ _ _ _ _ rfl rfl rfl rfl hl5 hl6 k51 k61; omega
    have n76 : b7 ≠ b6 := fun e => by subst e; have := hin.inj 67 66 _ _ _ _ _ rfl rfl rfl rfl hl7 hl6 k71 k61; omega
    have nt6 : bt ≠ b6 := fun e => by subst e; have := hin.inj 64 66 _ _ _ _ _ rfl rfl rfl rfl hlt hl6 kt1 k61; omega
    have nt5 : bt ≠ b5 := fun e => by subst e; have := hin.inj 64 65 _ _ _ _ _ rfl rfl rfl rfl hlt hl5 kt1 k51; omega
    have nt7 : bt ≠ b7 := fun e => by subst e; have := hin.inj 64 67 _ _ _ _ _ rfl rfl rfl rfl hlt hl7 kt1 k71; omega
    have lb6 : b6 < w.heap.size := (Array.getElem?_eq_some_iff.1 k62).1
    have lbt : bt < w.heap.size := (Array.getElem?_eq_some_iff.1 kt2).1
    have h13 := hs.env 13
    have h2 := hs.env 2
    obtain ⟨⟨tl⟩, ds⟩ := a
    have hlen : tl.length = 21 := hs.nt
    match tl, hlen with
    | [v0, v1, v2, v3, v4, w5, w6, w7, v8, v9, v10, v11, v12, v13, v14, v15, v16, v17, v18, v19, v20], _ =>
    -- the two slots that lead anywhere
    have e2 : v2 = .pointer (some ⟨bt, 0, none⟩) := by
      have h2 : RepV w S β (.u (.c (.p 64 0))) v2 := h2
      have h2 := h2.cell
      cases h2 with
      | p _ _ l b hl hb =>
        rw [hlt] at hl; obtain rfl := Option.some.inj hl
        rw [kt1] at hb; obtain rfl := Option.some.inj hb
        rfl
    have e13 : v13 = .func (.func 181) #[] #[.pointer (some ⟨b5, 0, none⟩), .pointer (some ⟨b6, 0, none⟩), .pointer (some ⟨b7, 0, none⟩)] := by
      have h13 : RepV w S β (.u (.c (.fn 181 [] [(65, 0), (66, 0), (67, 0)]))) v13 := h13
      have h13 := h13.cell
      cases h13 with
      | fn _ _ _ vf vc hf hc =>
        cases vf with
        | cons x xs => simp at hf
        | nil =>
          have hl3 : vc.length = 3 := by simpa using (congrArg List.length hc).symm
          match vc, hl3, hc with
          | [c1, c2, c3], _, hc =>
            simp only [List.map_cons, List.map_nil, ptrV, hl5, hl6, hl7, k51, k61, k71, Option.bind_some, Option.map_some, List.cons.injEq, Option.some.injEq, and_true] at hc
            obtain ⟨rfl, rfl, rfl⟩ := hc
            rfl
    subst e2 e13
    have c6 := cell_arr1 k62
    have ct := cell_arr1 kt2
    -- the state behind it
    have fin : ∀ (W : World) (D : Nat) (x : Int) (hw : (Lit.int .i64 x).wf = true), Keeps w W (fun k => k = b6 ∨ k = bt) → W.heap[bt]? = some (.cells #[.int .i64 x] et (0, 0)) → w.heap.size ≤ D → W.heap[D]? = some (.deferred (some [])) →
        ∃ S', St (⟨21, assoc [(2, .u (.c (.p 64 0))), (4, .u (.c (.s q6))), (6, .u (.c (.row .str 0))), (7, .u (.c (.i .i64 x0))), (8, .u (.c (.i .i64 x1)))], assocO [(0, .row .str x2), (64, .cells [.i .i64 x]), (65, .dead), (66, .dead), (67, .dead)], 1⟩ : AS)
          { tmps := #[v0, v1, .pointer (some ⟨bt, 0, none⟩), v3, v4, w5, w6, w7, v8, v9, v10, v11, v12, .func (.func 181) #[] #[.pointer (some ⟨b5, 0, none⟩), .pointer (some ⟨b6, 0, none⟩), .pointer (some ⟨b7, 0, none⟩)], v14, v15, v16, v17, v18, v19, v20], defers := { target := .collected D, args := #[] } :: ds } W S' F β ∧ Ext w S F W S' := by
      intro W D x hw hk hbt hD hDd
      have lD : D < W.heap.size := (Array.getElem?_eq_some_iff.1 hDd).1
      have keep : ∀ b, S b ∨ F b → W.heap[b]? = w.heap[b]? := fun b hb => by
        have hbs : b < w.heap.size := hb.elim (hin.sS b) (fun h => (hin.sF b h).1)
        refine hk.same b hbs ?_
        rintro (rfl | rfl)
        · exact hb.elim k64 k65
        · exact hb.elim kt4 kt5
      have hw2 : ∀ b, S b → W.heap[b]? = w.heap[b]? := fun b hb => keep b (.inl hb)
      refine ⟨fun b => S b ∨ b = D, ⟨⟨fun b hb => ?_, fun b hb => ⟨?_, ?_⟩, fun id hid => ?_, fun id oo hid => ?_, fun i1 i2 o1 o2 m1 m2 b g1 g2 v1 v2 f1 f2 d1 d2 => ?_⟩, ⟨⟨D, rfl, .inr rfl, hDd, fun d' hd' hdt => ?_⟩, hs.marks.mono hw2 (fun b hb => .inl hb)⟩, rfl, fun j => ?_⟩,
        ⟨hk.os, hk.tape, hk.output, hk.size, keep, fun b hb => .inl hb⟩⟩
      · rcases hb with hb | rfl
        · exact Nat.lt_of_lt_of_le (hin.sS b hb) hk.size
        · exact lD
      · exact Nat.lt_of_lt_of_le (hin.sF b hb).1 hk.size
      · rintro (h | rfl)
        · exact (hin.sF b hb).2 h
        · have := (hin.sF _ hb).1; omega
      · refine hin.dom id ?_
        simp only [assocO] at hid
        show assocO _ id = none
        simp only [assocO]
        cases q0 : Nat.beq id 0 <;> cases q1 : Nat.beq id 64 <;> cases q2 : Nat.beq id 65 <;> cases q3 : Nat.beq id 66 <;> cases q4 : Nat.beq id 67 <;> simp [q0, q1, q2, q3, q4] at hid ⊢
      · simp only [assocO] at hid
        cases q0 : Nat.beq id 0 with
        | true =>
          have := Nat.eq_of_beq_eq_true q0; subst this
          cases (show some (AObj.row .str x2) = some oo from hid)
          refine ⟨l0, hl0, hr0.mono hw2 (fun b hb => .inl hb) (fun _ _ h => h) (fun b hb hv => ?_)⟩
          obtain ⟨m1, m2, m3⟩ := hr0.block hv hb
          refine ⟨hk.same b m3 ?_, ?_⟩
          · rintro (rfl | rfl)
            · have := hin.inj 0 66 _ _ _ _ _ rfl rfl hv rfl hl0 hl6 hb k61; omega
            · have := hin.inj 0 64 _ _ _ _ _ rfl rfl hv rfl hl0 hlt hb kt1; omega
          · rintro (h | rfl)
            · exact m1 h
            · omega
        | false =>
          cases q1 : Nat.beq id 64 with
          | true =>
            have := Nat.eq_of_beq_eq_true q1; subst this
            cases (show some (AObj.cells [.i .i64 x]) = some oo from hid)
            refine ⟨lt, hlt, .cells bt #[.int .i64 x] et kt1 ?_ kt5 hbt (.cons ⟨.i _ _ hw, rfl⟩ .nil)⟩
            rintro (h | rfl)
            · exact kt4 h
            · omega
          | false =>
            cases q2 : Nat.beq id 65 with
            | true =>
              have := Nat.eq_of_beq_eq_true q2; subst this
              cases (show some AObj.dead = some oo from hid)
              exact ⟨l5, hl5, .dead⟩
            | false =>
              cases q3 : Nat.beq id 66 with
              | true =>
                have := Nat.eq_of_beq_eq_true q3; subst this
                cases (show some AObj.dead = some oo from hid)
                exact ⟨l6, hl6, .dead⟩
              | false =>
                cases q4 : Nat.beq id 67 with
                | true =>
                  have := Nat.eq_of_beq_eq_true q4; subst this
                  cases (show some AObj.dead = some oo from hid)
                  exact ⟨l7, hl7, .dead⟩
                | false => simp [q0, q1, q2, q3, q4] at hid
      · have key : ∀ i oo, assocO [(0, .row .str x2), (64, .cells [.i .i64 x]), (65, .dead), (66, .dead), (67, .dead)] i = some oo → oo.live = true → ∃ o', (assocO [(0, .row .str x2), (64, .cells [.i .i64 x3]), (65, .cells [.s ⟨#[47]⟩]), (66, .cells [.s q6]), (67, .cells [.i .i64 0])] i = some o' ∧ o'.live = true) := by
          intro i oo hi hv
          simp only [assocO] at hi ⊢
          cases q0 : Nat.beq i 0 <;> cases q1 : Nat.beq i 64 <;> cases q2 : Nat.beq i 65 <;> cases q3 : Nat.beq i 66 <;> cases q4 : Nat.beq i 67 <;> simp [q0, q1, q2, q3, q4] at hi ⊢ <;> rfl
        obtain ⟨p1, r1, s1⟩ := key i1 o1 g1 v1
        obtain ⟨p2, r2, s2⟩ := key i2 o2 g2 v2
        exact hin.inj i1 i2 p1 p2 m1 m2 b r1 r2 s1 s2 f1 f2 d1 d2
      · obtain ⟨D', h1, h2⟩ := hs.marks.targets d' hd'
        rw [h1] at hdt
        have := hin.sS D' h2
        cases hdt
        omega
      · have hj := (hs.env j).mono (w' := W) (S' := fun b => S b ∨ b = D) hw2 (fun b hb => .inl hb) (fun _ _ h => h)
        have he' : ∀ (j : Nat), assoc [(2, V.u (.c (.p 64 0))), (4, .u (.c (.s q6))), (6, .u (.c (.row .str 0))), (7, .u (.c (.i .i64 x0))), (8, .u (.c (.i .i64 x1)))] j = .bot ∨
            assoc [(2, V.u (.c (.p 64 0))), (4, .u (.c (.s q6))), (6, .u (.c (.row .str 0))), (7, .u (.c (.i .i64 x0))), (8, .u (.c (.i .i64 x1)))] j = assoc [(2, .u (.c (.p 64 0))), (4, .u (.c (.s q6))), (6, .u (.c (.row .str 0))), (7, .u (.c (.i .i64 x0))), (8, .u (.c (.i .i64 x1))), (13, .u (.c (.fn 181 [] [(65, 0), (66, 0), (67, 0)])))] j := by
          intro j
          simp only [assoc]
          cases Nat.beq j 2 <;> cases Nat.beq j 4 <;> cases Nat.beq j 6 <;> cases Nat.beq j 7 <;> cases Nat.beq j 8 <;> simp
        rcases he' j with h | h
        · show RepV W _ β (assoc _ j) _
          rw [h]; exact RepV.bot _ _ _ _
        · show RepV W _ β (assoc _ j) _
          rw [h]; exact hj
    refine rf_wp w bt b5 b6 b7 q6 hp6 x3 ds v0 v1 v3 v4 w5 w6 w7 v8 v9 v10 v11 v12 v14 v15 v16 v17 v18 v19 v20 (cell_arr1 k52).1 c6.1 c6.2 (cell_arr1 k72).1 ct.1 ct.2 n56 n76 nt6 nt5 nt7 (fun hok W D hk hD hDd => ?_) (fun hbad W D hk hbt hD hDd => ?_)
    · rw [hok] at he2
      simp only [val_ite, ifK_t, val_at, Option.some.injEq, Prod.mk.injEq] at he2
      obtain ⟨rfl, rfl⟩ := he2
      have hwf : (Lit.int .i64 x3).wf = true := by assumption
      obtain ⟨S', hst, hx⟩ := fin W D x3 hwf (hk.weak fun k h => .inl h) ((hk.same bt lbt nt6).trans kt2) hD hDd
      obtain ⟨β', hst', hb⟩ := nrm_weak (n := 1) (keep := [2, 4, 6, 7, 8]) (s' := ⟨21, [(2, .u (.c (.p 64 0))), (4, .u (.c (.s q6))), (6, .u (.c (.row .str 0))), (7, .u (.c (.i .i64 x0))), (8, .u (.c (.i .i64 x1)))], [(0, .row .str x2), (64, .cells [.i .i64 x3])]⟩) (by kernel_rfl) _ _ _ _ _ hst
      exact hQ _ W S' β' hst' hx hb
    · rw [hbad] at he2
      simp only [val_ite, ifK_f, val_at, Option.some.injEq, Prod.mk.injEq] at he2
      obtain ⟨rfl, rfl⟩ := he2
      have hbt' : W.heap[bt]? = some (.cells #[.int .i64 1] et (0, 0)) := by
        rw [hbt]
        show (w.heap.modify bt _)[bt]? = _
        rw [Array.getElem?_modify, if_pos rfl, kt2]
        rfl
      obtain ⟨S', hst, hx⟩ := fin W D 1 (by decide) hk hbt' hD hDd
      obtain ⟨β', hst', hb⟩ := nrm_weak (n := 1) (keep := [2]) (s' := ⟨21, [(2, .u (.c (.p 64 0)))], [(0, .row .str x2), (64, .cells [.i .i64 1])]⟩) (by kernel_rfl) _ _ _ _ _ hst
      exact hQ _ W S' β' hst' hx hb
  · simp [val_no] at he
end Go.Tt
