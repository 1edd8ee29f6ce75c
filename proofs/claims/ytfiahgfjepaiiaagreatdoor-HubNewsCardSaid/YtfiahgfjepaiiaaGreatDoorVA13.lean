import Derived.Test.YtfiahgfjepaiiaaGreatDoorVA12
set_option linter.unusedVariables false
set_option linter.unusedSimpArgs false
namespace Go.Tt

section
variable {P : Program} (w : World)
theorem run_append_none (t ty e : TypeId) (i : TypeInfo) (ht : P.underlying t = some (.slice e)) (hi : P.info? e = some i) (base A : Option Addr) (n cap c : Nat) (hn : n ≤ cap) :
    (Builtin.append_ #[t, t] ty #[.slice base n cap, .slice A 0 c]).run P w = .ok (.slice base n cap) w := by
  cases base <;> cases A <;> simp [Builtin.append_, run_underlying ht, sizeOf, typeInfo, hi, Builtin.lenOf, Builtin.firstCells, loadCells, loadCellsFrom, hn, storeCells]
theorem run_append_room' (t ty e e' : TypeId) (i : TypeInfo) (ht : P.underlying t = some (.slice e)) (hi : P.info? e = some i)
    (g sLen sCap : Nat) (cur : Array Value) (hg : w.heap[g]? = some (.cells cur e' (0, 0)))
    (a : Addr) (m c : Nat) (news : List Value) (hl : news.length = m * i.size) (hnews : ∀ j u, news[j]? = some u → w.cell? (a.add j) = some u) (h1 : ∀ u ∈ news, u.oneCell' = true)
    (hroom : sLen + m ≤ sCap) (hfit : sLen * i.size + news.length ≤ cur.size) :
    (Builtin.append_ #[t, t] ty #[.slice (some ⟨g, 0, none⟩) sLen sCap, .slice (some a) m c]).run P w =
      .ok (.slice (some ⟨g, 0, none⟩) (sLen + m) sCap) (w.setRow g (cur.toList.take (sLen * i.size) ++ news ++ cur.toList.drop (sLen * i.size + news.length)).toArray) := by
  have hf := run_firstCells_some (P := P) w i.size m a m c news hl hnews
  have hst := run_storeCells_at P g (sLen * i.size) e' news 0 cur w hg (by simpa using hfit) h1
  simp only [Nat.add_zero] at hst
  simp [Builtin.append_, run_underlying ht, sizeOf, typeInfo, hi, Builtin.lenOf, hroom, hf, Addr.add_lit, hst]
end
theorem chunks {s n m : Nat} {olds news rest : List Value} (ho : olds.length = n * s) (hn : news.length = m * s) :
    (∀ j, j < n → ((olds ++ news ++ rest).drop (j * s)).take s = (olds.drop (j * s)).take s) ∧ (∀ j, j < m → ((olds ++ news ++ rest).drop ((n + j) * s)).take s = (news.drop (j * s)).take s) := by
  constructor
  · intro j hj
    have : (j + 1) * s ≤ n * s := Nat.mul_le_mul_right _ hj
    rw [Nat.add_mul] at this
    rw [List.append_assoc, List.drop_append_of_le_length (by omega), List.take_append_of_le_length (by simp; omega)]
  · intro j hj
    have : (j + 1) * s ≤ m * s := Nat.mul_le_mul_right _ hj
    rw [Nat.add_mul] at this
    rw [List.append_assoc, List.drop_append, List.drop_eq_nil_of_le (by rw [ho, Nat.add_mul]; omega), List.nil_append, ho, Nat.add_mul, Nat.add_sub_cancel_left, List.drop_append_of_le_length (by omega), List.take_append_of_le_length (by simp; omega)]
theorem getElem?_append_cases {α : Type} {xs ys : List α} {j : Nat} {x : α} (h : (xs ++ ys)[j]? = some x) : (j < xs.length ∧ xs[j]? = some x) ∨ ∃ k, j = xs.length + k ∧ k < ys.length ∧ ys[k]? = some x := by
  rw [List.getElem?_append] at h
  split at h
  · exact .inl ⟨by assumption, h⟩
  · exact .inr ⟨j - xs.length, by omega, (List.getElem?_eq_some_iff.1 h).1, h⟩

/-- A row, or nothing, that grows into new memory. -/
theorem grow_ok {w : World} {S F : Nat → Prop} {β : Beta} {σ : Store} (hi : Inv w S F β σ) {id0 : Nat} (h0 : σ id0 = none) {τ : ET} {xs ys : List τ.T} {olds news : List Value} (e : TypeId) {cap : Nat} {z : Array Value} (hz : z.size = τ.size)
    (ho : olds.length = xs.length * τ.size) (hxo : ∀ j x, xs[j]? = some x → All2 (RC w S β) (τ.enc x) ((olds.drop (j * τ.size)).take τ.size)) (hn : news.length = ys.length * τ.size) (hyn : ∀ j x, ys[j]? = some x → All2 (RC w S β) (τ.enc x) ((news.drop (j * τ.size)).take τ.size))
    (hc : xs.length + ys.length ≤ cap) (hm : cap ≤ maxLen) (hb : xs.length + ys.length ≤ big) :
    Inv (w.drew.alloc (.cells (olds.toArray ++ news.toArray ++ Builtin.zeroCells z (cap - (xs.length + ys.length))) e)) S F (bput β id0 ⟨some w.heap.size, some ⟨w.heap.size, 0, none⟩, xs.length + ys.length, cap⟩) (sput σ id0 (.row τ (xs ++ ys))) := by
  have hd : Inv w.drew S F β σ := hi.grew (Grew.drawn w)
  have hl : (xs ++ ys).length = xs.length + ys.length := by simp
  have := hd.newRow h0 (xs := xs ++ ys) (c := olds.toArray ++ news.toArray ++ Builtin.zeroCells z (cap - (xs.length + ys.length))) e (cap := cap) (by
    simp only [Array.size_append, List.size_toArray, size_zeroCells, hz, ho, hn, ← Nat.add_mul]; congr 1; omega) (by omega) (by omega) hm (fun j x hx => by
    have ck := chunks (rest := (Builtin.zeroCells z (cap - (xs.length + ys.length))).toList) ho hn
    have e1 : (olds.toArray ++ news.toArray ++ Builtin.zeroCells z (cap - (xs.length + ys.length))).toList = olds ++ news ++ (Builtin.zeroCells z (cap - (xs.length + ys.length))).toList := by simp
    rw [e1]
    rcases getElem?_append_cases hx with ⟨hj, hx⟩ | ⟨k, rfl, hk, hx⟩
    · rw [ck.1 j hj]; exact (hxo j x hx).imp fun _ _ h => RC.mono (w := w) (w' := w.drew) (S' := S) (β' := β) (fun _ _ => rfl) (fun _ h => h) (fun _ _ h => h) h
    · rw [ck.2 k hk]; exact (hyn k x hx).imp fun _ _ h => RC.mono (w := w) (w' := w.drew) (S' := S) (β' := β) (fun _ _ => rfl) (fun _ h => h) (fun _ _ h => h) h)
  rw [hl] at this
  exact this
theorem Grew.drewAlloc (w : World) (o : Obj) : Grew w (w.drew.alloc o) := (Grew.drawn w).trans (Grew.alloc _ o)

theorem appG_ok {P : Program} {T : Nat → TD} (hT : TOK P T) {t ty : TypeId} {σ σr : Store} {w : World} {S F : Nat → Prop} {β : Beta} (hi : Inv w S F β σ) (hs : Sub σr σ) {id0 : Nat} (h0 : σr id0 = none → σ id0 = none) {c d : C} {e : Eff} (h : appG T t σr id0 c d = some e) (hg : e.g = true)
    {x y : Value} (hx : RepC w S β c x) (hy : RepC w S β d y) :
    ∃ r w' β', (Builtin.append_ #[t, t] ty #[x, y]).run P w = .ok r w' ∧ Inv w' S F β' (puts σ e.w) ∧ Ext w S F w' S ∧ (∀ id l, β id = some l → β' id = some l) ∧ RepV w' S β' e.v r := by
  unfold appG at h
  split at h
  · rename_i τ ht
    have ck := hT t
    rw [ht] at ck
    obtain ⟨i, el, j, v, h1, h2, h3, h4, h5, h6, h7, h8, h9, z, hz, hzs⟩ := chk_slice ck
    split at h
    · simp at h
    · rename_i ys hys
      split at h
      · simp at h
      · rename_i hid0
        have hid := h0 hid0
        obtain ⟨Ay, cy, news, rfl, hcy, hry⟩ := rdAs_ok hi hs hys hy
        have hz' : z.cells.size = τ.size := hzs.trans h7
        -- behind nothing
        have fresh : ∀ (σ : Store), Inv w S F β σ → σ id0 = none → ∀ (A : Option Addr), (ys.length : Int) ≤ 268435456 → x = .slice A 0 0 →
            ∃ r w' β', (Builtin.append_ #[t, t] ty #[x, .slice Ay ys.length cy]).run P w = .ok r w' ∧ Inv w' S F β' (sput σ id0 (.row τ ys)) ∧ Ext w S F w' S ∧ (∀ id l, β id = some l → β' id = some l) ∧ RepV w' S β' (.c (.row τ id0)) r := by
          intro σ hi hid A hb hxv
          subst hxv
          rcases Nat.eq_zero_or_pos ys.length with hy0 | hy0
          · have e0 : ys = [] := List.eq_nil_of_length_eq_zero hy0
            subst e0
            refine ⟨.slice A 0 0, w, bput β id0 ⟨none, A, 0, 0⟩, run_append_none w t ty el j h2 h6 A Ay 0 0 cy (Nat.le_refl _), ?_, Ext.refl _ _ _, bput_mono _ (hi.dom _ hid), .u (.c (.row τ id0 ⟨none, A, 0, 0⟩ (bput_same _ _ _)))⟩
            exact hi.new (Grew.refl w) hid (.none_ rfl rfl rfl) (fun b hb => by simp at hb)
          · obtain ⟨b, o, rfl⟩ := hry.addr hy0
            have hnews : ∀ j u, news[j]? = some u → w.cell? ((⟨b, o, none⟩ : Addr).add j) = some u := fun j u hu => by
              have := hry.cell b o rfl j u hu
              have hadd : (⟨b, o, none⟩ : Addr).add j = ⟨b, o + j, none⟩ := by unfold Addr.add; split <;> simp_all
              rw [hadd]; exact this
            have hby : ys.length * j.bytes ≤ 268435456 * 256 := Nat.mul_le_mul (by omega) h8
            have gr := grow_ok hi hid (xs := []) (olds := []) el (cap := grownCap w ys.length 0 el) (z := z.cells) hz' (by simp) (fun j x hx => by simp at hx) hry.len hry.elems (by simpa using grownCap_ge w ys.length 0 el) (grownCap_le_maxLen w _ _ _ (by simp only [maxLen]; omega)) (by simp only [List.length_nil, big]; omega)
            simp only [List.length_nil, Nat.zero_add, List.nil_append, Array.empty_append, List.toArray, List.toArrayAux] at gr
            cases A with
            | none =>
              have hr := run_append_nil (P := P) w t ty el j z h2 h6 hz ⟨b, o, none⟩ ys.length cy news (by rw [hry.len, h7]) hnews hy0 (by omega) (by omega)
              exact ⟨_, _, _, hr, by simpa using gr, Ext.of_grew hi (Grew.drewAlloc w _), bput_mono _ (hi.dom _ hid), .u (.c (.row τ id0 _ (bput_same _ _ _)))⟩
            | some A =>
              have hr := run_append_grow (P := P) w t ty el j z h2 h6 hz A 0 0 [] (by simp) (fun j v h => by simp at h) ⟨b, o, none⟩ ys.length cy news (by rw [hry.len, h7]) hnews (by omega) (by omega) (growslice_fits (by omega) (by rw [Nat.zero_add]; omega))
              simp only [Nat.zero_add] at hr
              exact ⟨_, _, _, hr, by simpa using gr, Ext.of_grew hi (Grew.drewAlloc w _), bput_mono _ (hi.dom _ hid), .u (.c (.row τ id0 _ (bput_same _ _ _)))⟩
        split at h
        · rename_i τ0 id
          split at h
          · rename_i τ' xs' hσ
            split at h
            · rename_i xs hxs
              cases h
              have e1 := listAs_eq hxs; cases e1
              have hb : (xs.length : Int) + ys.length ≤ 268435456 := (by simpa only [ile, llen_eq, bigLen, decide_eq_true_eq] using hg)
              have hold := hs _ _ hσ
              cases hx with
              | row _ _ l hl =>
                obtain ⟨l', hl', hr⟩ := hi.obj _ _ hold
                rw [hl] at hl'; obtain rfl := Option.some.inj hl'
                have hne : id0 ≠ id := fun e => by subst e; rw [hold] at hid; simp at hid
                have hi1 : Inv w S F β (sput σ id .dead) := hi.turn hold hl rfl (fun _ h => h) (fun _ h => .inl h) .dead
                have hid1 : sput σ id .dead id0 = none := by rw [sput_other _ _ _ _ hne]; exact hid
                have only : ∀ b, l.blk = some b → ∀ j o' l', sput σ id .dead j = some o' → o'.live = true → β j = some l' → l'.blk ≠ some b := by
                  intro b hb j o' l' hj hv hlj hbj
                  by_cases e : j = id
                  · subst e; rw [sput_same] at hj; cases hj; simp [AObj.live] at hv
                  · rw [sput_other _ _ _ _ e] at hj
                    exact e (hi.inj j id o' _ l' l b hj hold hv rfl hlj hl hbj hb)
                obtain ⟨olds, hro, hn, hcap, hblk⟩ := row_readL hr
                show ∃ r w' β', _ ∧ Inv w' S F β' (sput (sput σ id .dead) id0 (.row τ (xs ++ ys))) ∧ _
                rw [hn]
                rcases Nat.eq_zero_or_pos ys.length with hy0 | hy0
                · have e0 : ys = [] := List.eq_nil_of_length_eq_zero hy0
                  subst e0
                  refine ⟨_, w, bput β id0 l, run_append_none w t ty el j h2 h6 l.A Ay xs.length l.cap cy hcap, ?_, Ext.refl _ _ _, bput_mono _ (hi.dom _ hid), .u (.c (by rw [← hn]; exact .row τ id0 l (bput_same _ _ _)))⟩
                  rw [List.append_nil]
                  exact hi1.newG (Nat.le_refl _) (fun _ _ => rfl) (fun _ _ _ _ _ _ _ _ => rfl) hid1 (hr.mono (fun _ _ => rfl) (fun _ h => h) (bput_mono _ (hi.dom _ hid)) (fun b hb hv => ⟨rfl, (hr.block hv hb).1⟩)) only
                · obtain ⟨b, o, rfl⟩ := hry.addr hy0
                  have hnews : ∀ j u, news[j]? = some u → w.cell? ((⟨b, o, none⟩ : Addr).add j) = some u := fun j u hu => by
                    have := hry.cell b o rfl j u hu
                    have hadd : (⟨b, o, none⟩ : Addr).add j = ⟨b, o + j, none⟩ := by unfold Addr.add; split <;> simp_all
                    rw [hadd]; exact this
                  have hby : (xs.length + ys.length) * j.bytes ≤ 268435456 * 256 := Nat.mul_le_mul (by omega) h8
                  cases hr with
                  | none_ k1 k2 k3 =>
                    rw [k3]
                    have := fresh _ hi1 hid1 l.A (by simpa using hb) (by rw [k2, k3])
                    simpa [k2, k3] using this
                  | row g cc e' k1 hA k2 k3 k4 k5 k6 k7 k8 hm k9 =>
                    by_cases hroom : xs.length + ys.length ≤ l.cap
                    · have hfit : (xs.length + ys.length) * τ.size ≤ cc.size := by rw [k5]; exact Nat.mul_le_mul_right _ hroom
                      rw [Nat.add_mul] at hfit
                      have hr2 := run_append_room' (P := P) w t ty el e' j h2 h6 g xs.length l.cap cc k4 ⟨b, o, none⟩ ys.length cy news (by rw [hry.len, h7]) hnews hry.one hroom (by rw [h7, hry.len]; omega)
                      rw [h7] at hr2
                      rw [hA]
                      generalize hnew : (cc.toList.take (xs.length * τ.size) ++ news ++ cc.toList.drop (xs.length * τ.size + news.length)) = new at hr2
                      have gw := Wrote.setRow w g new.toArray
                      have kS : ∀ k, S k → (w.setRow g new.toArray).heap[k]? = w.heap[k]? := fun k hk => gw.keep k (fun e => k2 (e ▸ hk))
                      have hnl : new.length = cc.size := by rw [← hnew]; simp [hry.len]; omega
                      have hol : (cc.toList.take (xs.length * τ.size)).length = xs.length * τ.size := by simp; omega
                      refine ⟨_, _, bput β id0 ⟨some g, some ⟨g, 0, none⟩, xs.length + ys.length, l.cap⟩, hr2, ?_, Ext.wrote k2 k3 gw, bput_mono _ (hi.dom _ hid), .u (.c (.row τ id0 _ (bput_same _ _ _)))⟩
                      refine hi1.newG (by rw [gw.size]; exact Nat.le_refl _) kS (fun j o' l' b' hj hv hlj hbj => gw.keep b' (fun e => only g k1 j o' l' hj hv hlj (e ▸ hbj))) hid1
                        (.row g new.toArray e' rfl rfl k2 k3 (setRow_heap w g cc _ e' (0, 0) k4) (by simp [hnl, k5]) (by simp) (by simp; exact hroom) (by simp only [List.length_append, big]; omega) hm (fun q u hu => ?_)) (fun b' hb' => only b' (by rw [k1]; exact hb'))
                      have cks := chunks (rest := cc.toList.drop (xs.length * τ.size + news.length)) hol hry.len
                      rw [hnew] at cks
                      have up : ∀ {cs : List C} {vs : List Value}, All2 (RC w S β) cs vs → All2 (RC (w.setRow g new.toArray) S (bput β id0 ⟨some g, some ⟨g, 0, none⟩, xs.length + ys.length, l.cap⟩)) cs vs := fun h => h.imp fun _ _ h => h.mono kS (fun _ h => h) (bput_mono _ (hi.dom _ hid))
                      simp only []
                      rcases getElem?_append_cases hu with ⟨hj, hu⟩ | ⟨k, rfl, hk, hu⟩
                      · rw [cks.1 q hj]
                        have := k9 q u hu
                        have e3 : ((cc.toList.take (xs.length * τ.size)).drop (q * τ.size)).take τ.size = (cc.toList.drop (q * τ.size)).take τ.size := by
                          have : (q + 1) * τ.size ≤ xs.length * τ.size := Nat.mul_le_mul_right _ hj
                          rw [Nat.add_mul] at this
                          rw [List.drop_take, List.take_take]
                          congr 1
                          omega
                        rw [e3]
                        exact up this
                      · rw [cks.2 k hk]; exact up (hry.elems k u hu)
                    · have gr := grow_ok hi1 hid1 el (cap := grownCap w (xs.length + ys.length) l.cap el) (z := z.cells) hz' hro.len hro.elems hry.len hry.elems (grownCap_ge w _ _ el) (grownCap_le_maxLen w _ _ _ (by simp only [maxLen]; omega)) (by simp only [big]; omega)
                      have hr2 := run_append_grow (P := P) w t ty el j z h2 h6 hz ⟨g, 0, none⟩ xs.length l.cap olds (by rw [hro.len, h7]) (fun q u hu => by
                        have := hro.cell g 0 hA q u hu
                        have hadd : (⟨g, 0, none⟩ : Addr).add q = ⟨g, 0 + q, none⟩ := by unfold Addr.add; split <;> simp_all
                        rw [hadd]; exact this) ⟨b, o, none⟩ ys.length cy news (by rw [hry.len, h7]) hnews (by omega) (by omega) (growslice_fits (by omega) (by omega))
                      rw [hA]
                      exact ⟨_, _, _, hr2, gr, Ext.of_grew hi (Grew.drewAlloc w _), bput_mono _ (hi.dom _ hid), .u (.c (.row τ id0 _ (bput_same _ _ _)))⟩
            · simp at h
          · simp at h
        · cases h
          cases hx
          exact fresh σ hi hid none ((by simpa only [ile, llen_eq, bigLen, decide_eq_true_eq] using hg)) rfl
        · cases h
          cases hx
          exact fresh σ hi hid _ ((by simpa only [ile, llen_eq, bigLen, decide_eq_true_eq] using hg)) rfl
        · simp at h
  · simp at h
end Go.Tt
