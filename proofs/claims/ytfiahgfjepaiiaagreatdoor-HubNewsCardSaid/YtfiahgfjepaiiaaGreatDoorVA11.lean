import Derived.Test.YtfiahgfjepaiiaaGreatDoorVA10
import Derived.Laws.Slices
set_option linter.unusedVariables false
set_option linter.unusedSimpArgs false
namespace Go.Tt

theorem intV_ok {v : V} {n : Int} (h : intV v = some n) {w : World} {S : Nat → Prop} {β : Beta} {x : Value} (hv : RepV w S β v x) : ∃ k, x = .int k n := by
  unfold intV at h
  split at h
  · cases h; exact ⟨_, hv.int.1⟩
  · simp at h
theorem bounds_ok {n : Int} {lo hi : Option Value} {vs : List V} {r : Int × Int} (h : bounds n lo.isSome hi.isSome vs = some r) {w : World} {S : Nat → Prop} {β : Beta} (hv : All2 (RepV w S β) vs (lo.toList ++ hi.toList)) :
    (lo = none ∧ r.1 = 0 ∨ ∃ k, lo = some (.int k r.1)) ∧ (hi = none ∧ r.2 = n ∨ ∃ k, hi = some (.int k r.2)) := by
  cases lo with
  | none => cases hi with
    | none => cases hv; simp [bounds] at h; subst h; exact ⟨.inl ⟨rfl, rfl⟩, .inl ⟨rfl, rfl⟩⟩
    | some hv' =>
      cases hv with
      | cons a b =>
        cases b
        simp only [bounds, Option.isSome_none, Option.isSome_some, Option.map_eq_some_iff] at h
        obtain ⟨m, hm, rfl⟩ := h
        obtain ⟨k, rfl⟩ := intV_ok hm a
        exact ⟨.inl ⟨rfl, rfl⟩, .inr ⟨k, rfl⟩⟩
  | some lv => cases hi with
    | none =>
      cases hv with
      | cons a b =>
        cases b
        simp only [bounds, Option.isSome_none, Option.isSome_some, Option.map_eq_some_iff] at h
        obtain ⟨m, hm, rfl⟩ := h
        obtain ⟨k, rfl⟩ := intV_ok hm a
        exact ⟨.inr ⟨k, rfl⟩, .inl ⟨rfl, rfl⟩⟩
    | some hv' =>
      cases hv with
      | cons a b =>
        cases b with
        | cons b c =>
          cases c
          simp only [bounds, Option.isSome_some] at h
          split at h
          · rename_i l m hl hm
            cases h
            obtain ⟨k, rfl⟩ := intV_ok hl a
            obtain ⟨k', rfl⟩ := intV_ok hm b
            exact ⟨.inr ⟨k, rfl⟩, .inr ⟨k', rfl⟩⟩
          · simp at h
theorem run_bounds {P : Program} {w : World} {isS : Bool} {len cap : Nat} {lo hi : Option Value} {l h : Int} (hl : lo = none ∧ l = 0 ∨ ∃ k, lo = some (.int k l)) (hh : hi = none ∧ h = len ∨ ∃ k, hi = some (.int k h))
    (b : bnd l h len = true) (hc : len ≤ cap) : (Instr.sliceBounds isS len cap lo hi none).run P w = .ok (l.toNat, h.toNat, cap) w := by
  obtain ⟨b0, b1, b2⟩ : 0 ≤ l ∧ l ≤ h ∧ h ≤ (len : Int) := of_decide_eq_true b
  have h1 : 0 ≤ h := Int.le_trans b0 b1
  have h2 : h ≤ (cap : Int) := by omega
  have h3 : l ≤ (h.toNat : Int) := by omega
  rcases hl with ⟨rfl, rfl⟩ | ⟨k, rfl⟩ <;> rcases hh with ⟨rfl, rfl⟩ | ⟨k', rfl⟩
  · simp [Instr.sliceBounds]
  · simp [Instr.sliceBounds, run_sliceBound (P := P) w k' h cap _ h1 h2]
  · simp [Instr.sliceBounds, run_sliceBound (P := P) w k l len _ b0 b1]
  · simp [Instr.sliceBounds, run_sliceBound (P := P) w k' h cap _ h1 h2, run_sliceBound (P := P) w k l h.toNat _ b0 h3]
theorem L_cut {w : World} {S : Nat → Prop} {β : Beta} {τ : ET} {xs : List τ.T} {A : Option Addr} {n cap : Nat} (hx : RepC w S β (.L τ xs) (.slice A n cap)) {l h : Int} (b : bnd l h (llen xs) = true) :
    RepC w S β (.L τ (lcut xs l h)) (.slice (if cap = l.toNat then A else A.map (·.add (l.toNat * τ.size))) (h.toNat - l.toNat) (cap - l.toNat)) := by
  obtain ⟨b0, b1, b2⟩ : 0 ≤ l ∧ l ≤ h ∧ h ≤ (xs.length : Int) := by rw [llen_eq] at b; exact of_decide_eq_true b
  have hlen : (lcut xs l h).length = h.toNat - l.toNat := by simp [lcut]; omega
  generalize hv : Value.slice A n cap = v at hx
  cases hx with
  | L _ _ A cap bb o vals hc hbig hn0 hA hcell hrep =>
    cases hv
    rw [← hlen]
    have hadd : ∀ q, (⟨bb, o, none⟩ : Addr).add q = ⟨bb, o + q, none⟩ := fun q => by unfold Addr.add; split <;> simp_all
    refine .L τ _ _ _ bb (o + l.toNat * τ.size) (fun j q => vals (l.toNat + j) q) (by rw [hlen]; omega) (by rw [hlen]; omega) (fun h0 => by
      have : A = none := by
        split at h0
        · exact h0
        · simpa using h0
      have := hn0 this
      omega) (fun h0 => ?_) (fun j q hj hq => ?_) (fun j q x y hx hy => ?_)
    · rw [hlen] at h0
      obtain ⟨rfl, hS⟩ := hA (by omega)
      rw [if_neg (by omega)]
      exact ⟨by simp [hadd], hS⟩
    · rw [hlen] at hj
      have := hcell (l.toNat + j) q (by omega) hq
      rw [← this, Nat.add_mul]
      congr 2; omega
    · refine hrep (l.toNat + j) q x y ?_ hy
      have : (lcut xs l h)[j]? = some x := hx
      unfold lcut at this
      rw [List.getElem?_drop, List.getElem?_take] at this
      split at this
      · exact this
      · simp at this
theorem run_slice_s {P : Program} {w : World} {t e : TypeId} {i : TypeInfo} (hu : P.underlying t = some (.slice e)) (he : P.info? e = some i) {A : Option Addr} {len cap : Nat} {lo hi : Option Value} {l h : Int} (hl : lo = none ∧ l = 0 ∨ ∃ k, lo = some (.int k l)) (hh : hi = none ∧ h = len ∨ ∃ k, hi = some (.int k h))
    (b : bnd l h len = true) (hc : len ≤ cap) : (Instr.sliceAt t (.slice A len cap) lo hi none).run P w = .ok (.slice (if cap = l.toNat then A else A.map (·.add (l.toNat * i.size))) (h.toNat - l.toNat) (cap - l.toNat)) w := by
  simp [Instr.sliceAt, run_underlying hu, Instr.slice, run_bounds hl hh b hc, run_sizeOf_of he]
theorem sliceG_ok {P : Program} {T : Nat → TD} (hT : TOK P T) {t : Nat} {σ σr : Store} {w : World} {S F : Nat → Prop} {β : Beta} (hi : Inv w S F β σ) (hs : Sub σr σ) {id0 : Nat} {lo hi' : Option Value} {v : V} {vs : List V} {e : Eff} (h : sliceG (T t) σr id0 lo.isSome hi'.isSome v vs = some e) (hg : e.g = true)
    {x : Value} (hv : RepV w S β v x) (hvs : All2 (RepV w S β) vs (lo.toList ++ hi'.toList)) :
    ∃ y S', (Instr.sliceAt t x lo hi' none).run P w = .ok y w ∧ Inv w S' F β (puts σ e.w) ∧ (∀ b, S b → S' b) ∧ RepV w S' β e.v y := by
  have key : ∀ {τ : ET} {xs : List τ.T} {A n cap} {r : Int × Int}, isSl τ (T t) = true → RepC w S β (.L τ xs) (.slice A n cap) → n = xs.length → n ≤ cap → bounds (llen xs) lo.isSome hi'.isSome vs = some r → bnd r.1 r.2 (llen xs) = true →
      ∃ y, (Instr.sliceAt t (.slice A n cap) lo hi' none).run P w = .ok y w ∧ RepC w S β (.L τ (lcut xs r.1 r.2)) y := by
    intro τ xs A n cap r hd hx hn hc hb hbn
    obtain ⟨b1, b2⟩ := bounds_ok hb hvs
    have ht := isSl_eq hd
    have c := hT t
    rw [ht] at c
    obtain ⟨i, e, j, v, h1', h2, h3, h4, h5, h6, h7, h8, h9⟩ := chk_slice c
    subst hn
    have hbn' := hbn
    rw [llen_eq] at b2 hbn'
    exact ⟨_, run_slice_s h2 h6 b1 b2 hbn' hc, by rw [h7]; exact L_cut hx hbn⟩
  unfold sliceG at h
  split at h
  · cases hd : isSlc (T t) with
    | false => rw [hd] at h; simp at h
    | true =>
      rw [hd] at h
      simp only [cond_true, Option.map_eq_some_iff] at h
      obtain ⟨r, hr, rfl⟩ := h
      have hvc := hv.cell
      cases hvc
      obtain ⟨b1, b2⟩ := bounds_ok hr hvs
      have hb : 0 ≤ r.1 ∧ r.1 ≤ r.2 ∧ r.2 ≤ 0 := of_decide_eq_true hg
      have ht : ∃ τ, T t = .slice τ := by
        cases hq : T t <;> rw [hq] at hd <;> simp [isSlc] at hd
        exact ⟨_, rfl⟩
      obtain ⟨τ, ht⟩ := ht
      have c := hT t
      rw [ht] at c
      obtain ⟨i, e, j, v, h1', h2, h3, h4, h5, h6, h7, h8, h9⟩ := chk_slice c
      refine ⟨_, S, run_slice_s (len := 0) (cap := 0) h2 h6 b1 b2 hg (Nat.le_refl _), hi, fun _ h => h, .u (.c ?_)⟩
      have e1 : r.1.toNat = 0 := by omega
      have e2 : r.2.toNat = 0 := by omega
      rw [e1, e2]
      exact .nl
  · rename_i s
    cases hd : isStr (T t) with
    | false => rw [hd] at h; simp at h
    | true =>
      rw [hd] at h
      simp only [cond_true, Option.map_eq_some_iff] at h
      obtain ⟨r, hr, rfl⟩ := h
      obtain ⟨rfl, hsz⟩ := hv.str
      obtain ⟨b1, b2⟩ := bounds_ok hr hvs
      have hrun : (Instr.sliceAt t (.string s) lo hi' none).run P w = .ok (.string (s.extract r.1.toNat r.2.toNat)) w := by
        have := run_bounds (P := P) (w := w) (isS := false) (len := s.size) (cap := s.size) b1 b2 hg (Nat.le_refl _)
        simp [Instr.sliceAt, run_underlying (isStr_under hT hd), Instr.slice, this]
      exact ⟨_, S, hrun, hi, fun _ h => h, .u (.c (.s _ (by simp [scut]; omega)))⟩
  · rename_i τ xs
    cases hd : isSl τ (T t) with
    | false => rw [hd] at h; simp at h
    | true =>
      rw [hd] at h
      simp only [cond_true, Option.map_eq_some_iff] at h
      obtain ⟨r, hr, rfl⟩ := h
      obtain ⟨A, cap, news, rfl, hc, _⟩ := hv.cell.readL
      obtain ⟨y, hy, hyr⟩ := key hd hv.cell rfl hc hr hg
      exact ⟨y, S, hy, hi, fun _ h => h, .u (.c hyr)⟩
  · rename_i τ0 id
    have hvc := hv.cell
    cases hvc with
    | row _ _ l hl =>
      split at h
      · rename_i τ xs hσ
        cases hd : isSl τ (T t) with
        | false => rw [hd] at h; simp at h
        | true =>
          rw [hd] at h
          simp only [cond_true, Option.map_eq_some_iff] at h
          obtain ⟨r, hr, rfl⟩ := h
          obtain ⟨S1, hi1, m1, r1, _⟩ := frzC_ok hi hs (c := .row τ0 id) (c' := .L τ xs) (ws := [(id, .froz τ xs)]) (by simp [frzC, hσ]) hv.cell
          obtain ⟨l', hl', hr'⟩ := hi.obj _ _ (hs _ _ hσ)
          rw [hl] at hl'; obtain rfl := Option.some.inj hl'
          obtain ⟨news, _, h2, h3, _⟩ := row_readL hr'
          obtain ⟨b1, b2⟩ := bounds_ok hr hvs
          have ht := isSl_eq hd
          have c := hT t
          rw [ht] at c
          obtain ⟨i, e, j, v, h1', h2', h3', h4', h5', h6', h7', h8', h9'⟩ := chk_slice c
          refine ⟨_, S1, run_slice_s h2' h6' b1 (by rw [h2, ← llen_eq]; exact b2) (by rw [h2, ← llen_eq]; exact hg) (by rw [h2]; exact h3), hi1, m1, .u (.c ?_)⟩
          rw [h7']
          exact L_cut r1 hg
      · rename_i τ xs hσ
        cases hd : isSl τ (T t) with
        | false => rw [hd] at h; simp at h
        | true =>
          rw [hd] at h
          simp only [cond_true, Option.map_eq_some_iff] at h
          obtain ⟨r, hr, rfl⟩ := h
          obtain ⟨l', hl', hr'⟩ := hi.obj _ _ (hs _ _ hσ)
          rw [hl] at hl'; obtain rfl := Option.some.inj hl'
          obtain ⟨hn, hfr⟩ := froz_rep hr'
          obtain ⟨A, cap, news, e1, hc, _⟩ := hfr.readL
          injection e1 with e1 e2 e3
          obtain ⟨y, hy, hyr⟩ := key hd hfr hn (by omega) hr hg
          exact ⟨y, S, hy, hi, fun _ h => h, .u (.c hyr)⟩
      · simp at h
  · simp at h
end Go.Tt
