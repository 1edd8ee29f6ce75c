import Derived.Test.YtfiahgfjepaiiaaGreatDoorVA13
import Derived.Lib.DecodeN
import Derived.Lib.FieldsU
import Derived.Lib.TrimU
set_option linter.unusedVariables false
set_option linter.unusedSimpArgs false
namespace Go.Tt
open Go.MapKept

theorem seq_beq (a b : ByteArray) : (a == b) = seq a b := by
  unfold seq
  cases h : a == b with
  | true => rw [(bytes_beq a b).1 h]; simp
  | false =>
    cases h2 : a.toList == b.toList with
    | false => rfl
    | true =>
      have h3 : a.toList = b.toList := by simpa using h2
      rw [ByteArray.toList_eq, ByteArray.toList_eq] at h3
      have : a = b := by cases a; cases b; congr 1; exact Array.toList_inj.1 h3
      rw [(bytes_beq a b).2 this] at h; simp at h
theorem seq_true {a b : ByteArray} (h : seq a b = true) : a = b := by rw [← seq_beq] at h; exact (bytes_beq a b).1 h
theorem encU_agg {w : World} {S : Nat → Prop} {β : Beta} {τ : ET} {y : τ.T} {x : V} {vs : List C} (hf : fitsU τ x = true) (hc : x.cells = some vs) (hnb : nobot vs = true) (hd : τ.dec vs = some y) {v : Value} (hv : RepV w S β x v) : RepU w S β (encU τ y) v := by
  have h1 := dec_rep hd (cells_ok hv hc hnb)
  cases x with
  | u x => cases x with
    | c c =>
      simp [fitsU] at hf
      have e : ∃ c', τ.enc y = [c'] := by cases τ <;> simp [ET.agg] at hf <;> exact ⟨_, rfl⟩
      obtain ⟨c', e⟩ := e
      have eu : encU τ y = .c c' := by simp [encU, hf, e]
      rw [eu]
      rw [e] at h1
      obtain ⟨u, us, e2, p, q⟩ := h1.tl
      cases q
      simp [V.cells] at hc; subst hc
      have r := hv.cell
      have o := rc_one r (by simpa [nobot] using hnb)
      have e3 : v.cells = #[v] := by cases v <;> simp_all [Value.cells, Value.oneCell']
      rw [e3] at e2; cases e2
      exact .c p.1
    | agg cs =>
      simp [fitsU] at hf
      simp [V.cells] at hc; subst hc
      obtain ⟨us, rfl, h2⟩ := hv.agg_
      have eu : encU τ y = .agg (τ.enc y) := by simp [encU, hf]
      rw [eu]
      exact .agg h1
  | tup _ => simp [fitsU] at hf
  | nx _ _ _ => simp [fitsU] at hf

/-! ### Maps -/
abbrev MRep (w : World) (S : Nat → Prop) (β : Beta) (τ : ET) (e : ByteArray × τ.T) (m : MapEntry) : Prop := m.key = .string e.1 ∧ RepU w S β (encU τ e.2) m.val
theorem find_ok {w : World} {S : Nat → Prop} {β : Beta} {τ : ET} (k : ByteArray) (y : τ.T) : ∀ {es : List (ByteArray × τ.T)} {ms : List MapEntry} (i : Nat), All2 (MRep w S β τ) es ms →
    (Instr.findNow .string (.string k) ms i = some none ∧ mhas τ k es = false ∧ mget τ k es = none ∧ mput τ k y es = es ++ [(k, y)]) ∨
    ∃ j e m, Instr.findNow .string (.string k) ms i = some (some (i + j, m.val)) ∧ ms[j]? = some m ∧ es[j]? = some e ∧ MRep w S β τ e m ∧ e.1 = k ∧ mhas τ k es = true ∧ mget τ k es = some e.2 ∧ mput τ k y es = es.set j (k, y)
  | [], ms, i, h => by cases h; exact .inl ⟨rfl, rfl, rfl, rfl⟩
  | e :: es, ms, i, h => by
    cases h with
    | cons p q =>
      rename_i m ms
      cases hb : seq k e.1 with
      | true =>
        have hk := seq_true hb
        refine .inr ⟨0, e, m, ?_, rfl, rfl, p, hk.symm, by simp [mhas, hb], by simp [mget, hb], by simp [mput, hb]⟩
        simp [Instr.findNow, p.1, Instr.sameNow, seq_beq, hb]
      | false =>
        rcases find_ok k y (i + 1) q with ⟨h1, h2, h3, h4⟩ | ⟨j, e', m', h1, h2, h3, h4, h5, h6, h7, h8⟩
        · exact .inl ⟨by simp [Instr.findNow, p.1, Instr.sameNow, seq_beq, hb, h1], by simp [mhas, hb, h2], by simp [mget, hb, h3], by simp [mput, hb, h4]⟩
        · exact .inr ⟨j + 1, e', m', by simp [Instr.findNow, p.1, Instr.sameNow, seq_beq, hb, h1]; omega, by simpa using h2, by simpa using h3, h4, h5, by simp [mhas, hb, h6], by simp [mget, hb, h7], by simp [mput, hb, h8]⟩
theorem Wrote.setObj {w : World} {b : Nat} (o : Obj) : Wrote w { w with heap := w.heap.setIfInBounds b o } b :=
  ⟨rfl, rfl, rfl, by simp, fun k hk => by simp [Array.getElem?_setIfInBounds_ne (Ne.symm hk)]⟩
theorem All2.set {α β : Type} {R : α → β → Prop} {xs : List α} {ys : List β} (a : All2 R xs ys) {x : α} {y : β} (h : R x y) : ∀ j, All2 R (xs.set j x) (ys.set j y) := by
  induction a with
  | nil => intro j; exact .nil
  | cons p q ih => intro j; cases j with
    | zero => exact .cons h q
    | succ j => exact .cons p (ih j)
theorem mapG_ok {P : Program} {T : Nat → TD} (hT : TOK P T) {t : Nat} (ht : isMp (T t) = true) {σ σr : Store} {w : World} {S F : Nat → Prop} {β : Beta} (hi : Inv w S F β σ) (hs : Sub σr σ) {m k x : V} {e : Eff} (h : mapG σr m k x = some e) (hg : e.g = true) {vm vk vx : Value}
    (hm : RepV w S β m vm) (hk : RepV w S β k vk) (hx : RepV w S β x vx) :
    ∃ w', (Instr.mapUpdate t vm vk vx).run P w = .ok () w' ∧ Inv w' S F β (puts σ e.w) ∧ Ext w S F w' S ∧ e.v = .bot := by
  obtain ⟨τm, kt, et, ji, z, _, hu, huk, hje, hz, hzok⟩ := isMp_under hT ht
  unfold mapG at h
  split at h
  · rename_i id kk vs hvs
    split at h
    · rename_i τ es hσ
      split at h
      · rename_i y hy
        cases h
        cases hf : fitsU τ x && nobot vs with
        | false => rw [hf] at hy; simp at hy
        | true =>
          rw [hf] at hy; simp only [cond_true] at hy
          simp only [Bool.and_eq_true] at hf
          have hU := encU_agg hf.1 hvs hf.2 hy hx
          obtain ⟨rfl, hks⟩ := hk.str
          have hid := hs _ _ hσ
          have hmc := hm.cell
          cases hmc with
          | m _ l b hl hb =>
            obtain ⟨l', hl', hr⟩ := hi.obj _ _ hid
            rw [hl] at hl'; obtain rfl := Option.some.inj hl'
            cases hr with
            | mp b' arr clk h1 h2 h3 h4 hbb h5 =>
              rw [h1] at hb; obtain rfl := Option.some.inj hb
              have hlen : (es.length : Int) ≤ 200000000 := by simpa only [ile, llen_eq, decide_eq_true_eq] using hg
              have hck := run_checkKey (P := P) (w := w) huk (k := .string kk) (by simp [IsKey]) false 9999
              have done : ∀ (arr' : Array MapEntry) (clk' : Nat), All2 (MRep w S β τ) (mput τ kk y es) arr'.toList → (mput τ kk y es).length ≤ es.length + 1 →
                  Inv { w with heap := w.heap.setIfInBounds b' (.map arr' clk') } S F β (puts σ [(id, .mp τ (mput τ kk y es))]) ∧ Ext w S F { w with heap := w.heap.setIfInBounds b' (.map arr' clk') } S := by
                intro arr' clk' ha hl2
                have gw := Wrote.setObj (w := w) (b := b') (.map arr' clk')
                have kS : ∀ k, S k → ({ w with heap := w.heap.setIfInBounds b' (.map arr' clk') } : World).heap[k]? = w.heap[k]? := fun k hk => gw.keep k (fun e => h2 (e ▸ hk))
                refine ⟨hi.wrote hid rfl rfl hl h1 gw (.mp b' arr' clk' h1 h2 h3 (heap_set h4).1 (by simp only [big]; omega) (ha.imp fun _ _ h => ⟨h.1, h.2.mono kS (fun _ h => h) (fun _ _ h => h)⟩)), Ext.wrote h2 h3 gw⟩
              rcases find_ok kk y 0 h5 with ⟨q1, q2, q3, q4⟩ | ⟨j, e', m', q1, q2, q3, q4, q5, q6, q7, q8⟩
              · refine ⟨{ w with heap := w.heap.setIfInBounds b' (.map (arr.push { key := .string kk, val := vx, born := clk }) (clk + 1)) }, ?_, ?_⟩
                · simp [Instr.mapUpdate, run_underlying hu, run_getObj_mp h4, hck, run_findKey huk q1, run_setObj_mp h4]
                · obtain ⟨i1, i2⟩ := done (arr.push { key := .string kk, val := vx, born := clk }) (clk + 1) (by rw [q4, Array.toList_push]; exact All2.append h5 (.cons ⟨rfl, hU⟩ .nil)) (by rw [q4]; simp)
                  exact ⟨i1, i2, rfl⟩
              · have hmod : (arr.modify j fun e => { e with key := .string kk, val := vx }).toList = arr.toList.set j { m' with key := .string kk, val := vx } := by
                  rw [Array.toList_modify]
                  apply List.ext_getElem?
                  intro q
                  rw [List.getElem?_modify, List.getElem?_set]
                  by_cases e : j = q
                  · subst e
                    have hlt := (List.getElem?_eq_some_iff.1 q2).1
                    rw [q2]
                    simp at hlt ⊢
                    exact hlt
                  · simp [e]
                refine ⟨{ w with heap := w.heap.setIfInBounds b' (.map (arr.modify j fun e => { e with key := .string kk, val := vx }) clk) }, ?_, ?_⟩
                · have hkey : ((arr[j]?).map (·.key)).getD (.string kk) = .string kk := by
                    have : arr[j]? = some m' := by simpa using q2
                    rw [this]; simp [q4.1, q5]
                  have hsame : Instr.sameBits 10000 (.string kk) (.string kk) = true := by simp [Instr.sameBits, bytes_beq]
                  simp [Instr.mapUpdate, run_underlying hu, run_getObj_mp h4, hck, run_findKey huk q1, run_setObj_mp h4, Instr.keyThatStays, hkey, hsame]
                · obtain ⟨i1, i2⟩ := done _ clk (by rw [q8, hmod]; exact h5.set ⟨rfl, hU⟩ j) (by rw [q8]; simp)
                  exact ⟨i1, i2, rfl⟩
      · simp at h
    · simp at h
  · simp at h
theorem zokU_rep {v : Value} {u : U} (h : zokU v u = true) (w : World) (S : Nat → Prop) (β : Beta) : RepU w S β u v := by
  unfold zokU at h
  split at h
  · exact .agg (zoks_rc w S β h)
  · exact .c (zok_rc h w S β).1
  · simp at h
theorem decode_bounds (x : ByteArray) (i : Nat) (h : i < x.size) : (Utf8.decode x i).1 ≤ 1114111 ∧ i + (Utf8.decode x i).2 ≤ x.size := by
  rw [Lib.decode_at]
  refine ⟨Lib.decodeN_rune_le _ _ _ _ _ (UInt8.toNat_lt _), ?_⟩
  have := Lib.decodeN_le_n' (x.size - i) (x.get! i).toNat (x.get! (i + 1)).toNat (x.get! (i + 2)).toNat (x.get! (i + 3)).toNat (by omega)
  omega
end Go.Tt
