import Derived.Test.YtfiahgfjepaiiaaGreatDoorVA6
set_option linter.unusedVariables false
set_option linter.unusedSimpArgs false
namespace Go.Tt

theorem heap_new (w : World) (o : Obj) : (w.alloc o).heap[w.heap.size]? = some o := by show (w.heap.push o)[w.heap.size]? = _; simp
theorem asV_some {g : Bool} {n : Nat} {cs : List C} {v : V} (h : asV g n cs = some v) : cs.length = n ∧ ((g = true ∧ v = .agg cs) ∨ (g = false ∧ ∃ x, cs = [x] ∧ v = .c x)) := by
  unfold asV at h
  cases hn : Nat.beq cs.length n with
  | false => rw [hn] at h; simp at h
  | true =>
    rw [hn] at h
    simp only [cond_true] at h
    refine ⟨Nat.eq_of_beq_eq_true hn, ?_⟩
    split at h
    · cases h; exact .inl ⟨rfl, rfl⟩
    · cases h; exact .inr ⟨rfl, _, rfl, rfl⟩
    · simp at h
theorem zero_ne {T : Nat → TD} {t : Nat} (h : (T t).zero = none) : T t = .none := by
  cases hd : T t <;> rw [hd] at h <;> simp [TD.zero] at h
/-- Cells that are read as a variable. -/
theorem read_ok {P : Program} {T : Nat → TD} (hT : TOK P T) {t : Nat} {w : World} {S : Nat → Prop} {β : Beta} {b o : Nat} {cs : List C} {vs : List Value} (ha : All2 (RC w S β) cs vs)
    (hc : ∀ q v, vs[q]? = some v → w.cell? ⟨b, o + q, none⟩ = some v) {r : V} (hr : asV (T t).isAgg (T t).size cs = some r) :
    ∃ y, (loadVar t ⟨b, o, none⟩).run P w = .ok y w ∧ RepV w S β r y := by
  have hz : T t ≠ .none := by
    intro e
    rw [e] at hr
    obtain ⟨h1, h2 | ⟨h2, y, rfl, _⟩⟩ := asV_some hr
    · simp [TD.isAgg] at h2
    · simp [TD.size] at h1
  have hd := hT.var (t := t) (fun e => hz (zero_ne e))
  obtain ⟨h1, h2⟩ := asV_some hr
  have hrun := run_loadVar_of hd (fun e => by cases hh : T t <;> rw [hh] at e <;> simp_all [TD.isAgg, TD.size]) (vs := vs) (ha.length.symm.trans h1) hc
  refine ⟨_, hrun, ?_⟩
  rcases h2 with ⟨h3, rfl⟩ | ⟨h3, x, rfl, rfl⟩
  · rw [h3]; simp only [if_true]; exact .u (.agg (by simpa using ha))
  · rw [h3]; cases ha with | cons p q => cases q; exact .u (.c p.1)
theorem cell_row {w : World} {b : Nat} {c : Array Value} {e : TypeId} (h : w.heap[b]? = some (.cells c e (0, 0))) (k : Nat) : w.cell? ⟨b, k, none⟩ = c[k]? := by
  simp [World.cell?, h]
theorem inb_of {n m : Int} (h : inb n m = true) : 0 ≤ n ∧ n < m := of_decide_eq_true h
theorem lget_at {τ : ET} {xs : List τ.T} {i : Int} (h0 : 0 ≤ i) (h : i < xs.length) : xs[i.toNat]? = some (lget τ xs i) := by
  have : i.toNat < xs.length := by omega
  simp [lget, List.getD_eq_getElem?_getD, List.getElem?_eq_getElem this]

theorem loadG_ok {P : Program} {T : Nat → TD} (hT : TOK P T) {t : Nat} {σ σr : Store} {w : World} {S F : Nat → Prop} {β : Beta} (hi : Inv w S F β σ) (hs : Sub σr σ) {v r : V} {x : Value} (hv : RepV w S β v x) (h : loadG T t σr v = some r) :
    ∃ y, (Instr.loadAt t x).run P w = .ok y w ∧ RepV w S β r y := by
  unfold loadG at h
  split at h
  · rename_i id off
    split at h
    · rename_i cs hσ
      obtain ⟨l, hl, hr⟩ := hi.obj _ _ (hs _ _ hσ)
      obtain ⟨l', b, hl', hb, rfl⟩ := hv.ptr
      rw [hl] at hl'; obtain rfl := Option.some.inj hl'
      cases hr with
      | cells b' c e h1 h2 h3 h4 h5 =>
        rw [h1] at hb; obtain rfl := Option.some.inj hb
        have h6 : All2 (RC w S β) (cellsAt cs off (T t).size) ((c.toList.drop off).take (T t).size) := (h5.drop off).take _
        obtain ⟨y, hy, hy2⟩ := read_ok hT h6 (b := b') (o := off) (fun q v hq => by
          rw [List.getElem?_take] at hq
          split at hq
          · rw [List.getElem?_drop] at hq
            rw [cell_row h4]
            simpa using hq
          · simp at hq) h
        exact ⟨y, by simpa [Instr.loadAt, Instr.sureAddr] using hy, hy2⟩
    · simp at h
  · rename_i τ x' c
    have := hv.cell
    cases this with
    | lp _ _ _ b o vals hS hcell hrep =>
      have hsz := enc_size τ x'
      have hl : (cellsAt (τ.enc x') c (T t).size).length = (T t).size := (asV_some h).1
      have hle : c + (T t).size ≤ τ.size ∨ (T t).size = 0 := by
        unfold cellsAt at hl
        simp only [List.length_take, List.length_drop, hsz] at hl
        omega
      have h6 : All2 (RC w S β) (cellsAt (τ.enc x') c (T t).size) ((List.range (T t).size).map fun q => vals (c + q)) := by
        refine All2.of _ _ (by simpa using hl) (fun j y v hy hv => ?_)
        unfold cellsAt at hy
        rw [List.getElem?_take] at hy
        split at hy
        · rename_i hj
          rw [List.getElem?_drop] at hy
          simp only [List.getElem?_map, List.getElem?_range hj, Option.map_some, Option.some.injEq] at hv
          subst hv
          have hq : c + j < τ.size := by omega
          exact ⟨hrep _ _ hy, rc_one (hrep _ _ hy) (enc_nobot τ x' _ _ hy)⟩
        · simp at hy
      obtain ⟨y, hy, hy2⟩ := read_ok hT h6 (b := b) (o := o + c) (fun q v hq => by
        simp only [List.getElem?_map, Option.map_eq_some_iff] at hq
        obtain ⟨q', hq', rfl⟩ := hq
        have hlt : q < (T t).size := by have := (List.getElem?_eq_some_iff.1 hq').1; simpa using this
        rw [List.getElem?_range hlt] at hq'
        obtain rfl := Option.some.inj hq'
        rw [Nat.add_assoc]
        exact hcell _ (by omega)) h
      exact ⟨y, by simpa [Instr.loadAt, Instr.sureAddr] using hy, hy2⟩
  · rename_i τ id i c
    split at h
    · rename_i τ' ys hσ
      split at h
      · rename_i xs hx
        have e := listAs_eq hx; cases e
        have := hv.cell
        cases this with
        | rp _ _ _ _ l b hl hb h0 h1 =>
          obtain ⟨l', hl', hr⟩ := hi.obj _ _ (hs _ _ hσ)
          rw [hl] at hl'; obtain rfl := Option.some.inj hl'
          cases hr with
          | none_ k1 k2 k3 => rw [k1] at hb; simp at hb
          | row b' cc e k1 hA k2 k3 k4 k5 k6 k7 k8 hm k9 =>
            rw [k1] at hb; obtain rfl := Option.some.inj hb
            have hlt : i < (xs.length : Int) := by rw [k6] at h1; exact h1
            have h5 := k9 i.toNat _ (lget_at h0 hlt)
            have h6 : All2 (RC w S β) (cellsAt (τ.enc (lget τ xs i)) c (T t).size) ((((cc.toList.drop (i.toNat * τ.size)).take τ.size).drop c).take (T t).size) := (h5.drop c).take _
            obtain ⟨y, hy, hy2⟩ := read_ok hT h6 (b := b') (o := i.toNat * τ.size + c) (fun q v hq => by
              rw [List.getElem?_take] at hq
              split at hq
              · rw [List.getElem?_drop, List.getElem?_take] at hq
                split at hq
                · rw [List.getElem?_drop] at hq
                  rw [cell_row k4, Nat.add_assoc]
                  simpa using hq
                · simp at hq
              · simp at hq) h
            exact ⟨y, by simpa [Instr.loadAt, Instr.sureAddr] using hy, hy2⟩
      · simp at h
    · simp at h
  · simp at h

theorem cells_ok {w : World} {S : Nat → Prop} {β : Beta} {v : V} {x : Value} {cs : List C} (hv : RepV w S β v x) (h : v.cells = some cs) (hb : nobot cs = true) : All2 (RC w S β) cs x.cells.toList := by
  unfold V.cells at h
  split at h
  · cases h
    have r := hv.cell
    have o := rc_one r (by simpa [nobot] using hb)
    have e : x.cells = #[x] := by cases x <;> simp_all [Value.cells, Value.oneCell']
    rw [e]; exact .cons ⟨r, o⟩ .nil
  · cases h
    obtain ⟨vs, rfl, h2⟩ := hv.agg_
    exact h2
  · simp at h
  · simp at h
theorem frz_nobot {σ : Store} : ∀ {cs cs' : List C} {ws : List (Nat × AObj)}, frzCs σ cs = some (cs', ws) → cs'.length = cs.length ∧ (nobot cs' = true → nobot cs = true)
  | [], cs', ws, h => by simp [frzCs] at h; obtain ⟨rfl, rfl⟩ := h; simp
  | c :: r, cs', ws, h => by
    simp only [frzCs] at h
    split at h
    · rename_i c1 w1 h1
      split at h
      · rename_i cs2 w2 h2
        cases h
        obtain ⟨l, _⟩ := frz_nobot h2
        refine ⟨by simp [l], fun hn => ?_⟩
        cases r with
        | nil =>
          cases cs2 with
          | nil =>
            simp only [nobot] at hn ⊢
            unfold frzC at h1
            split at h1
            · simp [C.isBot]
            · cases h1; exact hn
          | cons _ _ => simp at l
        | cons _ _ => simp [nobot]
      · simp at h
    · simp at h
theorem setCells_all2 {w : World} {S : Nat → Prop} {β : Beta} {cs vs : List C} {c v : List Value} (h : All2 (RC w S β) cs c) (hv : All2 (RC w S β) vs v) (o : Nat) :
    All2 (RC w S β) (setCells cs o vs) (c.take o ++ v ++ c.drop (o + v.length)) := by
  unfold setCells
  rw [← hv.length]; exact ((h.take o).append hv).append (h.drop _)
theorem storeG_ok {P : Program} {T : Nat → TD} (hT : TOK P T) {t : Nat} {σ σr : Store} {w : World} {S F : Nat → Prop} {β : Beta} (hi : Inv w S F β σ) (hs : Sub σr σ) {p v : V} {ws : List (Nat × AObj)} {x y : Value} (hp : RepV w S β p x) (hv : RepV w S β v y) (h : storeG T t σr p v = some ws) :
    ∃ w' S', (Instr.storeAt t x y).run P w = .ok () w' ∧ Inv w' S' F β (puts σ ws) ∧ Ext w S F w' S' := by
  unfold storeG at h
  split at h
  · rename_i _ id off
    split at h
    · rename_i cs vs z hσ hvs hz
      have hd := hT.var (t := t) (by rw [hz]; simp)
      cases hg : Nat.beq vs.length (T t).size && Nat.ble (off + vs.length) cs.length && nobot vs with
      | false => rw [hg] at h; simp at h
      | true =>
        rw [hg] at h; simp only [cond_true, Option.some.injEq] at h; subst h
        simp only [Bool.and_eq_true] at hg
        have g1 := Nat.eq_of_beq_eq_true hg.1.1
        have g2 := Nat.le_of_ble_eq_true hg.1.2
        have hid := hs _ _ hσ
        obtain ⟨l, hl, hr⟩ := hi.obj _ _ hid
        obtain ⟨l', b, hl', hb, rfl⟩ := hp.ptr
        rw [hl] at hl'; obtain rfl := Option.some.inj hl'
        have hvc : All2 (RC w S β) vs y.cells.toList := cells_ok hv hvs hg.2
        cases hr with
        | cells b' c e h1 h2 h3 h4 h5 =>
          rw [h1] at hb; obtain rfl := Option.some.inj hb
          have hlen := h5.length
          have hlv := hvc.length
          have hrun := run_storeVar_of hd h4 (v := y) (o := off) (by rw [← g1, hlv]; simp) (by simp at hlen hlv; omega) (hvc.right fun _ _ h => h.2)
          have gw := Wrote.setRow w b' (c.toList.take off ++ y.cells.toList ++ c.toList.drop (off + y.cells.toList.length)).toArray
          have kS : ∀ k, S k → (w.setRow b' (c.toList.take off ++ y.cells.toList ++ c.toList.drop (off + y.cells.toList.length)).toArray).heap[k]? = w.heap[k]? := fun k hk => gw.keep k (fun e => h2 (e ▸ hk))
          refine ⟨_, S, by simpa [Instr.storeAt, Instr.sureAddr] using hrun, ?_, Ext.wrote h2 h3 gw⟩
          exact hi.wrote hid rfl rfl hl h1 gw (.cells b' _ e h1 h2 h3 (setRow_heap w b' c _ e (0, 0) h4) (by
            exact ((setCells_all2 h5 hvc off).imp fun _ _ h => h.mono kS (fun _ h => h) (fun _ _ h => h))))
    · simp at h
  · rename_i _ τ id i c
    split at h
    · rename_i vs w1 z hb1 hz
      have hd := hT.var (t := t) (by rw [hz]; simp)
      simp only [Option.bind_eq_some_iff] at hb1
      obtain ⟨vs0, hvs, hfr⟩ := hb1
      split at h
      · rename_i xs hxs
        simp only [Option.bind_eq_some_iff] at hxs
        obtain ⟨o, hσ, hro⟩ := hxs
        cases hg : Nat.beq vs.length (T t).size && Nat.ble (c + vs.length) τ.size && nobot vs with
        | false => rw [hg] at h; simp at h
        | true =>
          rw [hg] at h; simp only [cond_true] at h
          split at h
          · rename_i yy hdec
            cases h
            simp only [Bool.and_eq_true] at hg
            have g1 := Nat.eq_of_beq_eq_true hg.1.1
            have g2 := Nat.le_of_ble_eq_true hg.1.2
            obtain ⟨g3, g4⟩ := frz_nobot hfr
            have hvc0 : All2 (RC w S β) vs0 y.cells.toList := cells_ok hv hvs (g4 hg.2)
            obtain ⟨S1, hi1, m1, hvc⟩ := frzCs_ok hi hs hfr hvc0
            have hid := hs.puts w1 _ _ hσ
            obtain ⟨τ', xs', rfl⟩ : ∃ τ' xs', o = AObj.row τ' xs' := by unfold rowAs at hro; split at hro; exact ⟨_, _, rfl⟩; simp at hro
            have e := listAs_eq hro; cases e
            obtain ⟨l, hl, hr⟩ := hi1.obj _ _ hid
            have hpp := hp.cell
            cases hpp with
            | rp _ _ _ _ l' b hl' hb h0 h1 =>
              rw [hl] at hl'; obtain rfl := Option.some.inj hl'
              cases hr with
              | none_ k1 k2 k3 => rw [k1] at hb; simp at hb
              | row b' cc e k1 hA k2 k3 k4 k5 k6 k7 k8 hm k9 =>
                rw [k1] at hb; obtain rfl := Option.some.inj hb
                have hlt : i < (xs.length : Int) := by rw [k6] at h1; exact h1
                have hltn : i.toNat < xs.length := by omega
                have h5 := k9 i.toNat _ (lget_at h0 hlt)
                have hlv := hvc.length
                have hcs : (i.toNat + 1) * τ.size ≤ cc.size := by rw [k5]; exact Nat.mul_le_mul_right _ (by omega)
                rw [Nat.add_mul] at hcs
                have hly : y.cells.toList.length = (T t).size := by rw [← hlv]; exact g1
                have hrun := run_storeVar_of hd k4 (v := y) (o := i.toNat * τ.size + c) (by simpa using hly) (by omega) (hvc.right fun _ _ h => h.2)
                generalize hnew : (cc.toList.take (i.toNat * τ.size + c) ++ y.cells.toList ++ cc.toList.drop (i.toNat * τ.size + c + y.cells.toList.length)) = new at hrun
                have gw := Wrote.setRow w b' new.toArray
                have kS : ∀ k, S1 k → (w.setRow b' new.toArray).heap[k]? = w.heap[k]? := fun k hk => gw.keep k (fun e => k2 (e ▸ hk))
                refine ⟨_, S1, by simpa [Instr.storeAt, Instr.sureAddr] using hrun, ?_, ?_⟩
                · rw [puts_append]
                  have hnl : new.length = cc.size := by rw [← hnew]; simp; simp at hly; omega
                  refine hi1.wrote hid rfl rfl hl k1 gw (.row b' _ e k1 hA k2 k3 (setRow_heap w b' cc _ e (0, 0) k4) (by simp [hnl, k5]) (by simp [k6]) (by simp; omega) (by simp; exact k8) hm (fun j z hz => ?_))
                  have hj : j < xs.length := by have := (List.getElem?_eq_some_iff.1 hz).1; simpa using this
                  have hcj : (j + 1) * τ.size ≤ cc.size := by rw [k5]; exact Nat.mul_le_mul_right _ (by omega)
                  rw [Nat.add_mul] at hcj
                  by_cases e : j = i.toNat
                  · subst e
                    rw [List.getElem?_set_self hltn] at hz
                    cases hz
                    have h7 := dec_rep hdec (setCells_all2 h5 hvc c)
                    have e2 : (new.drop (i.toNat * τ.size)).take τ.size = (List.take c ((cc.toList.drop (i.toNat * τ.size)).take τ.size) ++ y.cells.toList ++ ((cc.toList.drop (i.toNat * τ.size)).take τ.size).drop (c + y.cells.toList.length)) := by
                      apply List.ext_getElem?
                      intro q
                      rw [← hnew]
                      simp only [List.getElem?_take, List.getElem?_drop, List.getElem?_append, List.length_append, List.length_take, List.length_drop, Array.length_toList]
                      simp only [Array.length_toList] at hly
                      by_cases q1 : q < c
                      · have : q < τ.size := by omega
                        simp (disch := omega) only [if_pos, if_neg]
                      · by_cases q2 : q < c + y.cells.size
                        · by_cases q3 : q < τ.size
                          · simp (disch := omega) only [if_pos, if_neg]
                            congr 1; omega
                          · omega
                        · by_cases q3 : q < τ.size
                          · simp (disch := omega) only [if_pos, if_neg]
                            congr 1; omega
                          · simp (disch := omega) only [if_pos, if_neg]
                    simp only []
                    rw [e2]
                    exact h7.imp fun _ _ h => h.mono kS (fun _ h => h) (fun _ _ h => h)
                  · rw [List.getElem?_set_ne (fun h => e h.symm)] at hz
                    have h7 := k9 j z hz
                    have e2 : (new.drop (j * τ.size)).take τ.size = (cc.toList.drop (j * τ.size)).take τ.size := by
                      apply List.ext_getElem?
                      intro q
                      rw [← hnew]
                      simp only [List.getElem?_take, List.getElem?_drop]
                      split
                      · rename_i hq
                        simp only [List.getElem?_append, List.length_append, List.length_take, List.length_drop, Array.length_toList]
                        simp only [Array.length_toList] at hly
                        rcases Nat.lt_or_gt_of_ne e with hlt2 | hgt2
                        · have : (j + 1) * τ.size ≤ i.toNat * τ.size := Nat.mul_le_mul_right _ hlt2
                          rw [Nat.add_mul] at this
                          simp (disch := omega) only [if_pos, if_neg, List.getElem?_take]
                        · have : (i.toNat + 1) * τ.size ≤ j * τ.size := Nat.mul_le_mul_right _ hgt2
                          rw [Nat.add_mul] at this
                          simp (disch := omega) only [if_pos, if_neg, List.getElem?_drop]
                          congr 1; omega
                      · rfl
                    simp only []
                    rw [e2]
                    exact h7.imp fun _ _ h => h.mono kS (fun _ h => h) (fun _ _ h => h)
                · have hx := Ext.wrote k2 k3 gw
                  exact ⟨hx.os, hx.tape, hx.output, hx.size, fun b hb => hx.keep b (hb.imp (m1 b) fun h => h), fun b hb => m1 b hb⟩
          · simp at h
      · simp at h
    · simp at h
  · simp at h
end Go.Tt
