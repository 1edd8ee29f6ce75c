import Derived.Test.YtfiahgfjepaiiaaGreatDoorVA23
set_option linter.unusedVariables false
set_option linter.unusedSimpArgs false
namespace Go.Tt

theorem number_lt : ∀ (l : List Nat) (m : List (Nat × Nat)) (k : Nat), m.length = k → (∀ p ∈ m, p.2 < k) → ∀ p ∈ number l m k, p.2 < (number l m k).length
  | [], m, k, hl, h, p, hp => by simp only [number] at hp ⊢; rw [hl]; exact h p hp
  | x :: r, m, k, hl, h, p, hp => by
    simp only [number] at hp ⊢
    cases hm : mem x (m.map (·.1)) with
    | true => rw [hm] at hp; exact number_lt r m k hl h p hp
    | false =>
      rw [hm] at hp
      refine number_lt r (m ++ [(x, k)]) (k + 1) (by simp [hl]) (fun q hq => ?_) p hp
      rcases List.mem_append.1 hq with hq | hq
      · have := h q hq; omega
      · simp at hq; subst hq; simp
theorem objsL_congr {σ σ2 : Store} {m : List (Nat × Nat)} : ∀ {l : List (Nat × Nat)}, (∀ p ∈ l, σ2 p.1 = σ p.1) → objsL σ2 m l = objsL σ m l
  | [], _ => rfl
  | (a, b) :: r, h => by simp only [objsL, h (a, b) (by simp), objsL_congr (fun p hp => h p (List.mem_cons_of_mem _ hp))]
theorem objsL_keys {σ : Store} {m : List (Nat × Nat)} : ∀ {l : List (Nat × Nat)} {os : List (Nat × AObj)}, objsL σ m l = some os → os.map (·.1) = l.map (·.2)
  | [], os, h => by simp [objsL] at h; subst h; rfl
  | (a, b) :: r, os, h => by
    simp only [objsL] at h
    split at h
    · rename_i o l h1 h2; cases h; simp [objsL_keys h2]
    · simp at h
theorem puts_assoc : ∀ {os : List (Nat × AObj)} {σ : Store}, nodupB (os.map (·.1)) = true → ∀ j, puts σ os j = (match assocO os j with | some o => some o | none => σ j)
  | [], σ, _, j => rfl
  | (id, o) :: r, σ, h, j => by
    simp only [List.map_cons, nodupB, Bool.and_eq_true, Bool.not_eq_true'] at h
    simp only [puts, assocO]
    rw [puts_assoc h.2 j]
    cases hb : Nat.beq j id with
    | true =>
      have e := Nat.eq_of_beq_eq_true hb
      subst e
      have : assocO r j = none := by
        cases ha : assocO r j with
        | none => rfl
        | some o' =>
          have : ∀ (l : List (Nat × AObj)) (o' : AObj), assocO l j = some o' → j ∈ l.map (·.1) := by
            intro l
            induction l with
            | nil => intro o' h; simp [assocO] at h
            | cons p l ih =>
              intro o' h
              simp only [assocO] at h
              cases hb : Nat.beq j p.1 with
              | true => simp only [List.map_cons, List.mem_cons]; exact .inl (Nat.eq_of_beq_eq_true hb)
              | false => rw [hb] at h; exact List.mem_cons_of_mem _ (ih o' h)
          rw [mem_iff.2 (this r o' ha)] at h; simp at h
      simp [this, sput_same]
    | false =>
      simp only [cond_false]
      rw [sput_other _ _ _ _ (fun e => by subst e; rw [Nat.beq_refl] at hb; simp at hb)]
theorem ObjRep.toF {w : World} {S F F' : Nat → Prop} {β : Beta} {l : ALoc} {o : AObj} (h : ObjRep w S F β l o) (hF : ∀ b, l.blk = some b → o.live = true → ¬ F' b) : ObjRep w S F' β l o := by
  cases h with
  | cells b c e h1 h2 h3 h4 h5 => exact .cells b c e h1 h2 (hF b h1 rfl) h4 h5
  | none_ h1 h2 h3 => exact .none_ h1 h2 h3
  | row b c e h1 hA h2 h3 h4 h5 h6 h7 h8 hm h9 => exact .row b c e h1 hA h2 (hF b h1 rfl) h4 h5 h6 h7 h8 hm h9
  | froz h1 h2 => exact .froz h1 h2
  | dead => exact .dead
  | mp b arr clk h1 h2 h3 h4 hb h5 => exact .mp b arr clk h1 h2 (hF b h1 rfl) h4 hb h5
  | iter b h1 h2 h3 h4 h5 h6 h7 => exact .iter b h1 h2 (hF b h1 rfl) h4 h5 h6 h7
theorem backP_none {m : List (Nat × Nat)} {j : Nat} (h : backP m j = none) : ∀ a, (a, j) ∉ m := by
  intro a ha
  obtain ⟨x, hx⟩ := backP_tot ⟨a, ha⟩
  rw [h] at hx; simp at hx
theorem inlK_ok {R : Type} {P : Program} {g : FuncId} (he : EntersOK P g) {run : Nat → List V → List (Nat × AObj) → (V → Store → Option R) → Option R} (hrun : ∀ a os k r, run os.length a os k = some r → ∃ v σ1, FnOK P os.length g a (assocO os) v σ1 ∧ k v σ1 = some r)
    {id : Nat} {args : List V} {σ : Store} {k : V → List (Nat × AObj) → List Nat → Option R} {r : R} (h : inlK run id args σ k = some r) : ∃ v ws rd, CallEff P g args σ v ws rd ∧ k v ws rd = some r := by
  unfold inlK at h
  simp only at h
  have hmlt : ∀ p ∈ enterM σ args, p.2 < (enterM σ args).length := number_lt _ [] 0 rfl (fun p hp => by simp at hp)
  generalize hm : enterM σ args = m at h hmlt
  split at h
  · rename_i os hok hos
    obtain ⟨v, σ1, hfn, h⟩ := hrun _ _ _ _ h
    have hlen : m.length = os.length := by have := congrArg List.length (objsL_keys hos); simpa using this.symm
    rw [← hlen] at hfn
    have hpre : ∀ p ∈ m, (p.2, p.1) ∈ leaveM m id v σ1 := fun p hp => number_mem _ _ _ _ (List.mem_map.2 ⟨p, hp, rfl⟩)
    generalize hm1 : leaveM m id v σ1 = m1 at h hpre
    split at h
    · rename_i os1 hok1 hos1
      simp only [Bool.and_eq_true] at hok1
      obtain ⟨hok1, hfresh⟩ := hok1
      have hos1' : os1.map (fun p => (p.1, p.2)) = os1 := by simp
      rw [hos1'] at h
      refine ⟨_, _, _, .inl ⟨he, fun σ2 hag w S F β vals hi hv => ?_⟩, h⟩
      have ag1 : ∀ p ∈ m, σ2 p.1 = σ p.1 := fun p hp => hag _ (List.mem_append_left _ (List.mem_map.2 ⟨p, hp, rfl⟩))
      have hos2 : objsL σ2 m m = some os := (objsL_congr ag1).trans hos
      -- what is the callers' alone
      let F0 : Nat → Prop := fun b => F b ∨ ∃ j o l, σ2 j = some o ∧ o.live = true ∧ β j = some l ∧ l.blk = some b ∧ j ∉ m.map (·.1)
      have hi0 := hi.ren hok hos2
      have hiF : Inv w S F0 (bren β m) (assocO os) := by
        refine ⟨hi0.sS, fun b hb => ?_, hi0.dom, fun j o hj => ?_, hi0.inj⟩
        · rcases hb with hb | ⟨j, o, l, a1, a2, a3, a4, _⟩
          · exact hi0.sF b hb
          · obtain ⟨l', hl', hr⟩ := hi.obj _ _ a1
            rw [a3] at hl'; obtain rfl := Option.some.inj hl'
            exact ⟨(hr.block a2 a4).2.2, (hr.block a2 a4).1⟩
        · obtain ⟨l, hl, hr⟩ := hi0.obj j o hj
          refine ⟨l, hl, hr.toF (fun b hb hvl => ?_)⟩
          rintro (hb2 | ⟨j2, o2, l2, a1, a2, a3, a4, a5⟩)
          · exact (hr.block hvl hb).2.1 hb2
          · obtain ⟨a, o', m1', m2, m3, rfl⟩ := (objsL_some hos2 j).1 o hj
            rw [live_ren] at hvl
            have e1 : β a = some l := by simpa [bren, m2] using hl
            have := hi.inj a j2 o' o2 l l2 b m3 a1 hvl a2 e1 a3 hb a4
            subst this
            exact a5 (List.mem_map.2 ⟨_, m1', rfl⟩)
      have hv0 : All2 (RepV w S (bren β m)) (args.map (renV m)) vals := by
        have : ∀ (as : List V) (vs : List Value), All2 (RepV w S β) as vs → All2 (RepV w S (bren β m)) (as.map (renV m)) vs := by
          intro as vs h
          induction h with
          | nil => exact .nil
          | cons p _ ih => exact .cons (renV_ok hok p) ih
        exact this _ _ hv
      refine (hfn w S F0 _ vals hiF hv0).mono ?_
      rintro e w' ⟨x, S1, β1, rfl, hi1, hx1, hb1, hr1⟩
      let β' : Beta := fun j => match backP m1 j with | some i => β1 i | none => β j
      have hβ1 : ∀ j l, bren β1 m1 j = some l → β' j = some l := by
        intro j l hj
        simp only [bren, Option.bind_eq_some_iff] at hj
        obtain ⟨i, h1, h2⟩ := hj
        simp only [β', h1]; exact h2
      have hβ : ∀ j l, β j = some l → β' j = some l := by
        intro j l hj
        simp only [β']
        cases hb : backP m1 j with
        | none => exact hj
        | some i =>
          simp only
          have hmem := backP_some hb
          by_cases hin : j ∈ m.map (·.1)
          · obtain ⟨p, hp, rfl⟩ := List.mem_map.1 hin
            have : i = p.2 := by
              have h1 := backP_of hok1 (hpre p hp)
              rw [hb] at h1; exact Option.some.inj h1
            subst this
            refine hb1 _ _ (hmlt p hp) ?_
            simp only [bren, backP_of hok hp, Option.bind_some]; exact hj
          · exfalso
            have hnew : j ∈ newOnes m m1 := by
              refine List.mem_filter.2 ⟨List.mem_map.2 ⟨_, hmem, rfl⟩, ?_⟩
              cases hmm : mem j (m.map (·.1)) with
              | false => rfl
              | true => exact (hin (mem_iff.1 hmm)).elim
            have h1 := List.all_eq_true.1 hfresh j hnew
            have h2 := hag j (List.mem_append_right _ hnew)
            have : σ2 j = none := by
              rw [h2]
              cases hσ : σ j with
              | none => rfl
              | some o => rw [hσ] at h1; simp at h1
            rw [hi.dom _ this] at hj; simp at hj
      have hkeys : nodupB (os1.map (·.1)) = true := by
        rw [objsL_keys hos1]
        simp only [okM, Bool.and_eq_true] at hok1
        exact hok1.2
      have hput := puts_assoc (σ := σ2) hkeys
      -- the two kinds of objects
      have kind : ∀ j o, puts σ2 os1 j = some o → (∃ i o', backP m1 j = some i ∧ σ1 i = some o' ∧ o = renO m1 o') ∨ (backP m1 j = none ∧ σ2 j = some o) := by
        intro j o hj
        rw [hput] at hj
        cases ha : assocO os1 j with
        | some o2 =>
          rw [ha] at hj
          simp only [Option.some.injEq] at hj
          subst hj
          obtain ⟨i, o', _, h2, h3, h4⟩ := (objsL_some hos1 j).1 o2 ha
          exact .inl ⟨i, o', h2, h3, h4⟩
        | none =>
          rw [ha] at hj
          exact .inr ⟨(objsL_some hos1 j).2 ha, hj⟩
      have notm : ∀ j, backP m1 j = none → j ∉ m.map (·.1) := by
        intro j hj hin
        obtain ⟨p, hp, rfl⟩ := List.mem_map.1 hin
        exact backP_none hj _ (hpre p hp)
      refine ⟨x, S1, β', rfl, ⟨hi1.sS, fun b hb => hi1.sF b (.inl hb), fun j hj => ?_, fun j o hj => ?_, fun j1 j2 o1 o2 l1 l2 b h1 h2 v1 v2 e1 e2 b1 b2 => ?_⟩, ⟨hx1.os, hx1.tape, hx1.output, hx1.size, fun b hb => hx1.keep b (hb.imp (fun h => h) .inl), hx1.mono⟩, hβ, (renV_ok hok1 hr1).mono (fun _ _ => rfl) (fun _ h => h) hβ1⟩
      · rw [hput] at hj
        cases ha : assocO os1 j with
        | some o2 => rw [ha] at hj; simp at hj
        | none =>
          rw [ha] at hj
          simp only [β', (objsL_some hos1 j).2 ha]
          exact hi.dom j hj
      · rcases kind j o hj with ⟨i, o', h1, h2, rfl⟩ | ⟨h1, h2⟩
        · obtain ⟨l, hl, hr⟩ := hi1.obj i o' h2
          refine ⟨l, by simp only [β', h1]; exact hl, ?_⟩
          have hr2 := (renO_ok hok1 hr).toF (F' := F) (fun b hb hvl hF => by rw [live_ren] at hvl; exact (hr.block hvl hb).2.1 (.inl hF))
          exact hr2.mono (fun _ _ => rfl) (fun _ h => h) hβ1 (fun b hb hvl => ⟨rfl, by rw [live_ren] at hvl; exact (hr.block hvl hb).1⟩)
        · obtain ⟨l, hl, hr⟩ := hi.obj j o h2
          refine ⟨l, hβ _ _ hl, hr.mono (fun b hb => hx1.keep b (.inl hb)) hx1.mono hβ (fun b hb hvl => ?_)⟩
          have hF0 : F0 b := .inr ⟨j, o, l, h2, hvl, hl, hb, notm j h1⟩
          exact ⟨hx1.keep b (.inr hF0), (hi1.sF b hF0).2⟩
      · rcases kind j1 o1 h1 with ⟨i1, p1, q1, r1, rfl⟩ | ⟨q1, r1⟩ <;> rcases kind j2 o2 h2 with ⟨i2, p2, q2, r2, rfl⟩ | ⟨q2, r2⟩
        · rw [live_ren] at v1 v2
          have e1' : β1 i1 = some l1 := by simpa [β', q1] using e1
          have e2' : β1 i2 = some l2 := by simpa [β', q2] using e2
          have := hi1.inj i1 i2 p1 p2 l1 l2 b r1 r2 v1 v2 e1' e2' b1 b2
          subst this
          exact backP_inj hok1 q1 q2
        · exfalso
          rw [live_ren] at v1
          have e1' : β1 i1 = some l1 := by simpa [β', q1] using e1
          have e2' : β j2 = some l2 := by simpa [β', q2] using e2
          obtain ⟨l', hl', hr⟩ := hi1.obj _ _ r1
          rw [e1'] at hl'; obtain rfl := Option.some.inj hl'
          exact (hr.block v1 b1).2.1 (.inr ⟨j2, o2, l2, r2, v2, e2', b2, notm j2 q2⟩)
        · exfalso
          rw [live_ren] at v2
          have e2' : β1 i2 = some l2 := by simpa [β', q2] using e2
          have e1' : β j1 = some l1 := by simpa [β', q1] using e1
          obtain ⟨l', hl', hr⟩ := hi1.obj _ _ r2
          rw [e2'] at hl'; obtain rfl := Option.some.inj hl'
          exact (hr.block v2 b2).2.1 (.inr ⟨j1, o1, l1, r1, v1, e1', b1, notm j1 q1⟩)
        · have e1' : β j1 = some l1 := by simpa [β', q1] using e1
          have e2' : β j2 = some l2 := by simpa [β', q2] using e2
          exact hi.inj j1 j2 o1 o2 l1 l2 b r1 r2 v1 v2 e1' e2' b1 b2
    · simp at h
  · simp at h
end Go.Tt
