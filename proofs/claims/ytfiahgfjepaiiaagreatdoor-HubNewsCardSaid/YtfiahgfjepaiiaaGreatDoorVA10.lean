import Derived.Test.YtfiahgfjepaiiaaGreatDoorVA9
import Derived.Laws.Tables
set_option linter.unusedVariables false
set_option linter.unusedSimpArgs false
namespace Go.Tt

/-! ### Structs and rows of parts -/
theorem set_at (xs : List Value) : ∀ (k off : Nat) (c : Array Value), off + k + xs.length ≤ c.size →
    ((xs.zipIdx k).foldl (fun cs (p : Value × Nat) => cs.setIfInBounds (off + p.2) p.1) c).toList = c.toList.take (off + k) ++ xs ++ c.toList.drop (off + k + xs.length) := by
  induction xs with
  | nil => intro k off c h; simp
  | cons x xs ih =>
    intro k off c h
    simp only [List.length_cons] at h
    simp only [List.zipIdx_cons, List.foldl_cons]
    rw [ih (k + 1) off (c.setIfInBounds (off + k) x) (by simp; omega)]
    rw [Array.toList_setIfInBounds]
    apply List.ext_getElem?
    intro q
    simp only [List.getElem?_append, List.length_append, List.length_take, List.length_set, Array.length_toList, List.getElem?_take, List.getElem?_drop, List.getElem?_set, List.length_cons]
    by_cases h1 : q < off + k
    · simp (disch := omega) only [if_pos, if_neg]
    · by_cases h2 : q = off + k
      · subst h2
        simp (disch := omega) only [if_pos, if_neg]
        have : off + k - min (off + k) c.size = 0 := by omega
        simp [this]
      · by_cases h3 : q < off + k + 1 + xs.length
        · simp (disch := omega) only [if_pos, if_neg]
          have e : q - min (off + k) c.size = (q - min (off + (k + 1)) c.size) + 1 := by omega
          rw [e, List.getElem?_cons_succ]
        · simp (disch := omega) only [if_pos, if_neg]
          congr 1; omega
theorem fill_cons {place : Nat → Option (Nat × Nat)} {cells : Array Value} {i : Nat} {v : Value} {rest : List (Nat × Value)} {off size : Nat} (hp : place i = some (off, size)) (hs : v.cells.size = size) (ho : off + v.cells.size ≤ cells.size) :
    Instr.fill place cells ((i, v) :: rest) = Instr.fill place (cells.toList.take off ++ v.cells.toList ++ cells.toList.drop (off + v.cells.size)).toArray rest := by
  have e : (v.cells.zipIdx.foldl (fun cs (p : Value × Nat) => cs.setIfInBounds (off + p.2) p.1) cells) = (cells.toList.take off ++ v.cells.toList ++ cells.toList.drop (off + v.cells.size)).toArray := by
    apply Array.toList_inj.1
    rw [← Array.foldl_toList, Array.toList_zipIdx, set_at v.cells.toList 0 off cells (by simpa using ho)]
    simp
  simp only [Instr.fill, hp]
  rw [if_neg (by simp [hs]; omega)]
  congr 1
theorem buildG_ok {w : World} {S : Nat → Prop} {β : Beta} {offs : List Nat} {n : Nat} {place : Nat → Option (Nat × Nat)} (hp : ∀ (i o e : Nat), offs[i]? = some o → (offEnd offs n)[i]? = some e → ∃ sz, place i = some (o, sz) ∧ o + sz = e) :
    ∀ {is : List Nat} {vs : List V} {cs r : List C}, buildG offs is vs cs = some r → cs.length = n → ∀ {xs : List Value} {c : Array Value}, All2 (RepV w S β) vs xs → All2 (RC w S β) cs c.toList →
      ∃ c', Instr.fill place c (is.zip xs) = some c' ∧ All2 (RC w S β) r c'.toList ∧ r.length = n
  | [], [], cs, r, h, hn, xs, c, hv, hc => by simp [buildG] at h; subst h; exact ⟨c, by simp [Instr.fill], hc, hn⟩
  | [], _ :: _, cs, r, h, hn, xs, c, hv, hc => by simp [buildG] at h
  | _ :: _, [], cs, r, h, hn, xs, c, hv, hc => by simp [buildG] at h
  | i :: is, v :: vs, cs, r, h, hn, xs, c, hv, hc => by
    simp only [buildG] at h
    split at h
    · rename_i ys o e h1 h2 h3
      cases hg : Nat.beq (o + ys.length) e && Nat.ble e cs.length && nobot ys with
      | false => rw [hg] at h; simp at h
      | true =>
        rw [hg] at h; simp only [cond_true] at h
        simp only [Bool.and_eq_true] at hg
        have g1 := Nat.eq_of_beq_eq_true hg.1.1
        have p3 := Nat.le_of_ble_eq_true hg.1.2
        rw [hn] at h3 p3
        obtain ⟨sz, p1, p2⟩ := hp i o e h2 h3
        cases hv with
        | cons a b =>
          rename_i x xs
          have hyc := cells_ok a h1 hg.2
          have hl := hyc.length
          simp only [Array.length_toList] at hl
          have hcl := hc.length
          simp only [Array.length_toList] at hcl
          have hset := setCells_all2 hc hyc o
          have hn2 : (setCells cs o ys).length = n := by simp [setCells]; omega
          obtain ⟨c', q1, q2, q3⟩ := buildG_ok hp h hn2 (xs := xs) (c := (c.toList.take o ++ x.cells.toList ++ c.toList.drop (o + x.cells.size)).toArray) b (by simpa using hset)
          exact ⟨c', by simp only [List.zip_cons_cons]; rw [fill_cons p1 (by omega) (by omega)]; exact q1, q2, q3⟩
    · simp at h
theorem build_ok {P : Program} {T : Nat → TD} (hT : TOK P T) {t : Nat} {offs : List Nat} {z : List C} (ht : T t = .struct offs z) {ps : Array (Nat × Operand)} {vs : List V} {cs : List C} (h : buildG offs (ps.toList.map (·.1)) vs z = some cs) {w : World} {S : Nat → Prop} {β : Beta} {ρ : Operand → Value} (hv : All2 (RepV w S β) vs (ps.toList.map fun p => ρ p.2)) :
    ∃ y, (Instr.build t (ps.map fun p => (p.1, ρ p.2))).run P w = .ok y w ∧ RepV w S β (.agg cs) y := by
  have c := hT t
  rw [ht] at c
  obtain ⟨i, fs, zs, h1, h2, h3, h4, h5, h6, h7, h8⟩ := chk_struct c
  have hz : All2 (RC w S β) z zs.toList := zoks_rc w S β h5
  have hm : fs.toList.mapM (fun f => (P.info? f.type).map fun i => (f.offset, i.size)) = some (fs.toList.map fun f => (f.offset, ((P.info? f.type).map (·.size)).getD 0)) := by
    revert h7
    generalize fs.toList = l
    intro h7
    induction l with
    | nil => rfl
    | cons f l ih =>
      obtain ⟨j, hj, _⟩ := h7 f (by simp)
      simp [List.mapM_cons, hj, ih (fun g hg => h7 g (List.mem_cons_of_mem _ hg))]
  have hp : ∀ (i o e : Nat), offs[i]? = some o → (offEnd offs z.length)[i]? = some e → ∃ sz, ((fs.toList.map fun f => (f.offset, ((P.info? f.type).map (·.size)).getD 0)).toArray[i]?) = some (o, sz) ∧ o + sz = e := by
    intro i o e ho he
    rw [← h8] at he
    rw [h6] at ho
    simp only [List.getElem?_map, Option.map_eq_some_iff] at ho he
    obtain ⟨f, hf, rfl⟩ := ho
    obtain ⟨f', hf', rfl⟩ := he
    rw [hf] at hf'; cases hf'
    refine ⟨((P.info? f.type).map (·.size)).getD 0, by simp [hf], rfl⟩
  obtain ⟨c', q1, q2, q3⟩ := buildG_ok hp h rfl hv hz
  refine ⟨.agg c', run_build w t _ c' ?_, .u (.agg q2)⟩
  have e : (ps.map fun p => (p.1, ρ p.2)).toList = (ps.toList.map (·.1)).zip (ps.toList.map fun p => ρ p.2) := by
    rw [Array.toList_map]
    generalize ps.toList = l
    induction l with
    | nil => rfl
    | cons p l ih => simp [ih]
  simp only [Program.built, h1, h2, h4, hm, e, Value.cells]
  exact q1
end Go.Tt
