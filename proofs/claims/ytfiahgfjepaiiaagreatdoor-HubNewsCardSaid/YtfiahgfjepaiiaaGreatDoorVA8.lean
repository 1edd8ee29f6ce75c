import Derived.Test.YtfiahgfjepaiiaaGreatDoorVA7
set_option linter.unusedVariables false
set_option linter.unusedSimpArgs false
namespace Go.Tt

theorem run_getObj_mp {P : Program} {w : World} {r : Nat} {a : Array MapEntry} {c : Nat} (h : w.heap[r]? = some (.map a c)) : (getObj r).run P w = .ok (.map a c) w := by simp [getObj, Sem.run, h]
theorem run_getObj_iter {P : Program} {w : World} {r : Nat} {a : ByteArray} {c : Nat} (h : w.heap[r]? = some (.stringIter a c)) : (getObj r).run P w = .ok (.stringIter a c) w := by simp [getObj, Sem.run, h]
theorem run_setObj_mp {P : Program} {w : World} {r : Nat} {a a' : Array MapEntry} {c c' : Nat} (h : w.heap[r]? = some (.map a c)) : (setObj r (.map a' c')).run P w = .ok () { w with heap := w.heap.setIfInBounds r (.map a' c') } := by simp [setObj, Sem.run, h]
theorem run_setObj_iter {P : Program} {w : World} {r : Nat} {a a' : ByteArray} {c c' : Nat} (h : w.heap[r]? = some (.stringIter a c)) : (setObj r (.stringIter a' c')).run P w = .ok () { w with heap := w.heap.setIfInBounds r (.stringIter a' c') } := by simp [setObj, Sem.run, h]
theorem fieldG_ok {P : Program} {T : Nat → TD} (hT : TOK P T) {t f : Nat} (w : World) {S : Nat → Prop} {β : Beta} {v : V} {r : C} {x : Value} (hv : RepV w S β v x) (h : fieldG T t f v = some r) :
    ∃ y, (Instr.fieldAt t x f).run P w = .ok y w ∧ RepC w S β r y := by
  have key : ∀ offs z, T t = .struct offs z → ∀ k, offs[f]? = some k → ∀ b o, (Instr.fieldAt t (.pointer (some ⟨b, o, none⟩)) f).run P w = .ok (.pointer (some ⟨b, o + k, none⟩)) w := by
    intro offs z ht k hk b o
    have c := hT t
    rw [ht] at c
    obtain ⟨i, fs, vs, h1, h2, h3, h4, h5, h6, h7, _⟩ := chk_struct c
    rw [h6] at hk
    simp only [List.getElem?_map, Option.map_eq_some_iff] at hk
    obtain ⟨fd, hf, rfl⟩ := hk
    obtain ⟨j, hj, hj0⟩ := h7 fd (List.mem_of_getElem? hf)
    have hf' : fs[f]? = some fd := by simpa using hf
    have hadd : ∀ q, (⟨b, o, none⟩ : Addr).add q = ⟨b, o + q, none⟩ := fun q => by unfold Addr.add; split <;> simp_all
    simp [Instr.fieldAt, run_underlying h2, hf', Instr.sureAddr, fieldPlace, run_sizeOf_of hj, hj0, hadd]
  unfold fieldG at h
  split at h
  · rename_i id off
    split at h
    · rename_i offs z ht
      split at h
      · rename_i k hk
        cases h
        obtain ⟨l, b, hl, hb, rfl⟩ := hv.ptr
        exact ⟨_, key _ _ ht _ hk b off, .p id _ l b hl hb⟩
      · simp at h
    · simp at h
  · rename_i τ x' c
    split at h
    · rename_i offs z ht
      split at h
      · rename_i k hk
        cases h
        have := hv.cell
        cases this with
        | lp _ _ _ b o vals hS hcell hrep =>
          exact ⟨_, key _ _ ht _ hk b (o + c), by rw [Nat.add_assoc]; exact .lp τ x' (c + k) b o vals hS hcell hrep⟩
      · simp at h
    · simp at h
  · rename_i τ id i c
    split at h
    · rename_i offs z ht
      split at h
      · rename_i k hk
        cases h
        have := hv.cell
        cases this with
        | rp _ _ _ _ l b hl hb h0 h1 => exact ⟨_, key _ _ ht _ hk b _, by rw [Nat.add_assoc]; exact .rp τ id i (c + k) l b hl hb h0 h1⟩
      · simp at h
    · simp at h
  · simp at h

theorem L_lp {w : World} {S : Nat → Prop} {β : Beta} {τ : ET} {xs : List τ.T} {A : Option Addr} {n cap : Nat} (hx : RepC w S β (.L τ xs) (.slice A n cap)) {i : Int} (h : inb i (llen xs) = true) :
    n = xs.length ∧ ∃ b o, A = some ⟨b, o, none⟩ ∧ RepC w S β (.lp τ (lget τ xs i) 0) (.pointer (some ⟨b, o + i.toNat * τ.size, none⟩)) := by
  replace h := inb_of h
  simp only [llen_eq] at h
  generalize hv : Value.slice A n cap = v at hx
  cases hx with
  | L _ _ A cap b o vals hc hbig hn0 hA hcell hrep =>
    cases hv
    obtain ⟨rfl, hS⟩ := hA (by omega)
    have hn : i.toNat < xs.length := by omega
    refine ⟨rfl, b, o, rfl, ?_⟩
    have := RepC.lp (w := w) (S := S) (β := β) τ (lget τ xs i) 0 b (o + i.toNat * τ.size) (fun q => vals i.toNat q) hS (fun q hq => by rw [Nat.add_assoc]; exact hcell _ _ hn hq)
      (fun q y hy => hrep i.toNat q (lget τ xs i) y (lget_at h.1 h.2) hy)
    simpa using this
theorem indexG_ok {P : Program} {T : Nat → TD} (hT : TOK P T) {t : Nat} {σ σr : Store} {w : World} {S F : Nat → Prop} {β : Beta} (hi : Inv w S F β σ) (hs : Sub σr σ) {v i : V} {r : C} {x y : Value} (hv : RepV w S β v x) (hy : RepV w S β i y) (h : indexG T t σr v i = some (true, r)) :
    ∃ z, (Instr.indexAt t x y).run P w = .ok z w ∧ RepC w S β r z := by
  have key : ∀ {τ : ET}, isSl τ (T t) = true → ∀ (n : Int) k b o (len cap : Nat), 0 ≤ n → n < (len : Int) → (Instr.indexAt t (.slice (some ⟨b, o, none⟩) len cap) (.int k n)).run P w = .ok (.pointer (some ⟨b, o + n.toNat * τ.size, none⟩)) w := by
    intro τ hg n k b o len cap h0 h1
    have ht := isSl_eq hg
    have c := hT t
    rw [ht] at c
    obtain ⟨i, e, j, v, h1', h2, h3, h4, h5, h6, h7, h8, h9⟩ := chk_slice c
    have hadd : ∀ q, (⟨b, o, none⟩ : Addr).add q = ⟨b, o + q, none⟩ := fun q => by unfold Addr.add; split <;> simp_all
    simp [Instr.indexAt, asIntOf, run_underlying h2, run_sizeOf_of h6, h7, hadd, h0, h1]
  unfold indexG at h
  split at h
  · rename_i τ xs k n
    cases hg : isSl τ (T t) with
    | false => rw [hg] at h; simp at h
    | true =>
      rw [hg] at h
      simp only [cond_true, Option.some.injEq, Prod.mk.injEq] at h
      obtain ⟨hb, rfl⟩ := h
      obtain ⟨rfl, hwf⟩ := hy.int
      obtain ⟨A, cap, news, rfl, _, _⟩ := hv.cell.readL
      obtain ⟨_, b, o, rfl, hlp⟩ := L_lp hv.cell hb
      exact ⟨_, key hg n k b o _ _ (inb_of hb).1 (llen_eq xs ▸ (inb_of hb).2), hlp⟩
  · rename_i τ0 id k n
    obtain ⟨rfl, hwf⟩ := hy.int
    have hvc := hv.cell
    split at h
    · rename_i τ xs hσ
      cases hg : isSl τ (T t) with
      | false => rw [hg] at h; simp at h
      | true =>
        rw [hg] at h
        simp only [cond_true, Option.some.injEq, Prod.mk.injEq] at h
        obtain ⟨hb, rfl⟩ := h
        replace hb := inb_of hb
        simp only [llen_eq] at hb
        cases hvc with
        | row _ _ l hl =>
          obtain ⟨l', hl', hr⟩ := hi.obj _ _ (hs _ _ hσ)
          rw [hl] at hl'; obtain rfl := Option.some.inj hl'
          obtain ⟨news, h1, h2, h3, h4⟩ := row_readL hr
          obtain ⟨b, e1, e2⟩ := h4 (by omega)
          rw [e2, h2]
          refine ⟨_, key hg n k b 0 _ _ hb.1 hb.2, ?_⟩
          have := RepC.rp (w := w) (S := S) (β := β) τ id n 0 l b hl e1 hb.1 (by rw [h2]; exact hb.2)
          simpa using this
    · rename_i τ xs hσ
      cases hg : isSl τ (T t) with
      | false => rw [hg] at h; simp at h
      | true =>
        rw [hg] at h
        simp only [cond_true, Option.some.injEq, Prod.mk.injEq] at h
        obtain ⟨hb, rfl⟩ := h
        cases hvc with
        | row _ _ l hl =>
          obtain ⟨l', hl', hr⟩ := hi.obj _ _ (hs _ _ hσ)
          rw [hl] at hl'; obtain rfl := Option.some.inj hl'
          obtain ⟨hn, hfr⟩ := froz_rep hr
          obtain ⟨_, b, o, e1, hlp⟩ := L_lp hfr hb
          rw [e1, hn]
          exact ⟨_, key hg n k b o _ _ (inb_of hb).1 (llen_eq xs ▸ (inb_of hb).2), hlp⟩
    · simp at h
  · simp at h
theorem size_wf {n : Nat} (h : n ≤ 9223372036854775807) : (Lit.int .i64 (n : Int)).wf = true := by
  simp [Lit.wf, IntKind.min, IntKind.max, IntKind.signed, IntKind.bits]; omega
theorem isStr_under {P : Program} {T : Nat → TD} (hT : TOK P T) {t : Nat} (h : isStr (T t) = true) : P.underlying t = some .string := by
  cases hd : T t <;> rw [hd] at h <;> simp [isStr] at h
  rename_i z
  cases z <;> simp at h
  have c := hT t
  rw [hd] at c
  obtain ⟨i, d, v, h1, h2, h3, h4, h5, h6, h7⟩ := chk_scalar c
  rw [h2]; cases d <;> simp [kindOk] at h7 ⊢
theorem isSlc_under {P : Program} {T : Nat → TD} (hT : TOK P T) {t : Nat} (h : isSlc (T t) = true) : ∃ e, P.underlying t = some (.slice e) := by
  cases hd : T t <;> rw [hd] at h <;> simp [isSlc] at h
  have c := hT t
  rw [hd] at c
  obtain ⟨i, e, j, v, h1, h2, _⟩ := chk_slice c
  exact ⟨e, h2⟩
theorem isMp_under {P : Program} {T : Nat → TD} (hT : TOK P T) {t : Nat} (h : isMp (T t) = true) : ∃ τ k e j z, T t = .map τ ∧ P.underlying t = some (.map k e) ∧ P.underlying k = some .string ∧ P.info? e = some j ∧ j.zero = some z ∧ zokU z (encU τ τ.zero) = true := by
  cases hd : T t <;> rw [hd] at h <;> simp [isMp] at h
  rename_i τ
  have c := hT t
  rw [hd] at c
  obtain ⟨i, k, e, j, v, z, h1, h2, h3, h4, h5, h6, h7, h8, h9⟩ := chk_map c
  exact ⟨τ, k, e, j, z, rfl, h2, h6, h7, h8, h9⟩
theorem lenG_ok {P : Program} {T : Nat → TD} (hT : TOK P T) {σ σr : Store} {w : World} {S F : Nat → Prop} {β : Beta} (hi : Inv w S F β σ) (hs : Sub σr σ) {v : V} {r : Int} {x : Value} (hv : RepV w S β v x) {t t' : TypeId} (h : lenG (T t) σr v = some r) :
    ∃ z, (Builtin.len_ #[t] t' #[x]).run P w = .ok z w ∧ RepC w S β (.i .i64 r) z := by
  have sl : ∀ A n cap, isSlc (T t) = true → n ≤ big → ∃ z, (Builtin.len_ #[t] t' #[.slice A n cap]).run P w = .ok z w ∧ RepC w S β (.i .i64 (n : Nat)) z := by
    intro A n cap ht hn
    obtain ⟨e, h2⟩ := isSlc_under hT ht
    exact ⟨.int .i64 n, by simp [Builtin.len_, run_underlying h2, goInt], .i _ _ (size_wf (by simp only [big] at hn; omega))⟩
  unfold lenG at h
  split at h
  · rename_i y
    cases hs' : isStr (T t) with
    | false => rw [hs'] at h; simp at h
    | true =>
      rw [hs'] at h; simp only [cond_true, Option.some.injEq] at h; subst h
      obtain ⟨rfl, hsz⟩ := hv.str
      exact ⟨.int .i64 y.size, by simp [Builtin.len_, run_underlying (isStr_under hT hs'), goInt], .i _ _ (size_wf (by omega))⟩
  · rename_i τ xs
    cases hs' : isSlc (T t) with
    | false => rw [hs'] at h; simp at h
    | true =>
      rw [hs'] at h; simp only [cond_true, Option.some.injEq] at h; subst h
      obtain ⟨A, cap, news, rfl, _, hr⟩ := hv.cell.readL
      rw [llen_eq]; exact sl _ _ _ hs' hr.big
  · rename_i τ xs
    cases hs' : isSlc (T t) with
    | false => rw [hs'] at h; simp at h
    | true =>
      rw [hs'] at h; simp only [cond_true, Option.some.injEq] at h; subst h
      have hx := hv.cell
      cases hx with
      | Lx _ _ A cap hx =>
        obtain ⟨A, cap, news, e, _, hr⟩ := hx.readL
        rw [llen_eq]; exact sl _ _ _ hs' hr.big
  · cases hs' : isSlc (T t) with
    | false => rw [hs'] at h; simp at h
    | true =>
      rw [hs'] at h; simp only [cond_true, Option.some.injEq] at h; subst h
      have hx := hv.cell
      cases hx
      exact sl _ 0 _ hs' (by simp)
  · cases hs' : isSlc (T t) with
    | false => rw [hs'] at h; simp at h
    | true =>
      rw [hs'] at h; simp only [cond_true, Option.some.injEq] at h; subst h
      have hx := hv.cell
      cases hx
      exact sl _ 0 _ hs' (by simp)
  · rename_i τ id
    cases hs' : isSlc (T t) with
    | false => rw [hs'] at h; simp at h
    | true =>
      rw [hs'] at h; simp only [cond_true] at h
      have hx := hv.cell
      cases hx with
      | row _ _ l hl =>
        split at h
        · rename_i τ' xs hσ
          cases h
          obtain ⟨l', hl', hr⟩ := hi.obj _ _ (hs _ _ hσ)
          rw [hl] at hl'; obtain rfl := Option.some.inj hl'
          obtain ⟨news, h1, h2, h3, h4⟩ := row_readL hr
          rw [h2, llen_eq]; exact sl _ _ _ hs' h1.big
        · rename_i τ' xs hσ
          cases h
          obtain ⟨l', hl', hr⟩ := hi.obj _ _ (hs _ _ hσ)
          rw [hl] at hl'; obtain rfl := Option.some.inj hl'
          obtain ⟨hn, hfr⟩ := froz_rep hr
          obtain ⟨A, cap, news, e, _, hr⟩ := hfr.readL
          rw [hn, llen_eq]; exact sl _ _ _ hs' hr.big
        · simp at h
  · rename_i id
    cases hs' : isMp (T t) with
    | false => rw [hs'] at h; simp at h
    | true =>
      rw [hs'] at h; simp only [cond_true] at h
      have hx := hv.cell
      cases hx with
      | m _ l b hl hb =>
        split at h
        · rename_i τ' es hσ
          cases h
          obtain ⟨l', hl', hr⟩ := hi.obj _ _ (hs _ _ hσ)
          rw [hl] at hl'; obtain rfl := Option.some.inj hl'
          obtain ⟨τ, k, e, j, z, _, hu, _⟩ := isMp_under hT hs'
          cases hr with
          | mp b' arr clk h1 h2 h3 h4 hbb h5 =>
            rw [h1] at hb; obtain rfl := Option.some.inj hb
            have hlen := h5.length
            simp at hlen
            exact ⟨.int .i64 arr.size, by simp [Builtin.len_, run_underlying hu, run_getObj_mp h4, goInt], by rw [llen_eq, ← hlen]; exact .i _ _ (size_wf (by simp only [big] at hbb; omega))⟩
        · simp at h
  · simp at h
end Go.Tt
