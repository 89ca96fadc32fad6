/- Entries deleted while a map is gone through; loops by any invariant. Conditions: none. -/
import Derived.Test.YthndadengamanaaGreatGv20
namespace Go.Gv
open Go
section
variable {P : Program} {n : Nat} {Q : Exit → Act → World → Prop} {fr : Fr} {w : World}
/-- A loop whose rounds lessen a number. -/
theorem W.loopG {c : Code} (Inv : Nat → Fr → World → Prop) {k : Nat} (h0 : Inv k fr w) (round : ∀ k fr w, Inv k fr w → W P n c (Rd n (fun fr w => ∃ k', k' < k ∧ Inv k' fr w) Q) fr w) : W P n (.loop c) Q fr w := by
  intro a ha
  refine wp_loop_ghost (fun k a w => ∃ fr, Ag n fr a ∧ Inv k fr w) (k := k) ⟨fr, ha, h0⟩ ?_
  rintro k a w ⟨fr, ha, hI⟩
  refine wp_mono (round k fr w hI a ha) ?_
  intro e a' w' hq
  cases e with
  | normal =>
    obtain ⟨fr', ha', k', hk, hI'⟩ := hq
    exact ⟨k', hk, fr', ha', hI'⟩
  | _ => exact hq
end
section
variable {κ ν : Type} {enc : κ → Value} {val : Mem → Value → ν → Prop} {I J C D : Mem} {m b : Nat} {cur rem : List (κ × ν)} {last : Option (Value × Value)} {P : Program} {E w : World} {Os : List Mem} {eq : κ → κ → Bool}
theorem IterSt.own (h : IterSt enc val I C m cur D b rem last) : OwnMap enc val I C m cur := by
  obtain ⟨es, clock, seen, h1, h2, h3, h4, h5, h6, _⟩ := h.ex
  exact ⟨es, clock, h1, h3, h4, h5, h6⟩
theorem IterSt.rem_mem (h : IterSt enc val I C m cur D b rem last) {p : κ × ν} (hp : p ∈ rem) : p ∈ cur := by
  obtain ⟨es, clock, seen, h1, h2, h3, h4, h5, h6, h7, _⟩ := h.ex
  obtain ⟨q, hq, rfl⟩ := List.mem_map.1 (h7.mem_iff.2 hp)
  exact (List.of_mem_zip (List.mem_filter.1 hq).1).2
theorem zip_erase {α β : Type} : ∀ (a : List α) (c : List β) (i : Nat), (a.eraseIdx i).zip (c.eraseIdx i) = (a.zip c).eraseIdx i
  | [], c, i => by simp
  | x :: a, [], i => by cases i <;> simp
  | x :: a, y :: c, 0 => by simp
  | x :: a, y :: c, i + 1 => by simp [zip_erase a c i]
/-- delete(m, k), while the map is gone through. -/
theorem IterSt.delete (h : IterSt enc val I C m cur D b rem last) (hS : St E w I (C :: D :: Os)) {t kt et ty : Nat} {ats : Array Nat} (ha : ats[0]? = some t) (ht : P.underlying t = some (.map kt et)) (kl : KeyLaw P kt enc eq) (k : κ) :
    ∃ w' C' rem', (Builtin.delete_ ats ty #[.map (some m), enc k]).run P w = .ok (.tuple #[]) w' ∧ St E w' I (C' :: D :: Os) ∧ rem'.length ≤ rem.length ∧ IterSt enc val I C' m (mdel eq cur k) D b rem' none := by
  obtain ⟨es, clock, seen, rfl, rfl, h2, h3, h4, h5, h6, _⟩ := h.ex
  have hlen : es.size = cur.length := by have := congrArg List.length h2; simpa using this
  have hmap : es.toList.map (·.key) = (cur.map (·.1)).map enc := by rw [h2, List.map_map]; rfl
  have hw := hS.rd0 m _ (one_at m _)
  have hf := kl.find k w es.toList _ hmap
  have start : ∀ (r : Option (Nat × Value)) (es' : Array MapEntry), (Instr.findKey kt (enc k) es.toList).run P w = .ok r w → (match r with | some (i, _) => setObj m (.map (es.eraseIdxIfInBounds i) clock) | none => setObj m (.map es clock)) = setObj m (.map es' clock) →
      (Builtin.delete_ ats ty #[.map (some m), enc k]).run P w = .ok (.tuple #[]) { w with heap := w.heap.setIfInBounds m (.map es' clock) } := by
    intro r es' hr he
    obtain ⟨r1, _⟩ := hS.setObj (P := P) (es' := es') (clock' := clock)
    have hg := run_getObj (P := P) hw
    have key : (do match r with | some (i, _) => setObj m (.map (es.eraseIdxIfInBounds i) clock) | none => setObj m (.map es clock)).run P w = .ok () { w with heap := w.heap.setIfInBounds m (.map es' clock) } := by
      rw [← r1]; exact congrArg (fun s => Sem.run P s w) he
    cases r with
    | none => simp only at key; simp [Builtin.delete_, ha, run_underlying' ht, hg, kl.check, hr, key]
    | some q => obtain ⟨i, v⟩ := q; simp only at key; simp [Builtin.delete_, ha, run_underlying' ht, hg, kl.check, hr, key]
  cases hp : mpos eq k (cur.map (·.1)) with
  | none =>
    rw [hp] at hf
    obtain ⟨_, r2⟩ := hS.setObj (P := P) (es' := es) (clock' := clock)
    refine ⟨_, _, rem, start none es hf rfl, r2, Nat.le_refl _, ⟨es, clock, seen, rfl, rfl, ?_, ?_, h4, h5, ?_, fun lv hlv => by cases hlv⟩⟩
    · simpa [mdel, hp] using h2
    · simpa [mdel, hp] using h3
    · simpa [mdel, hp] using h6
  | some i =>
    obtain ⟨hlt, a, ha', hq⟩ := mpos_lt hp
    simp only [List.length_map] at hlt
    have hes : es[i]? = some (es[i]'(by omega)) := Array.getElem?_eq_getElem (by omega)
    rw [hp] at hf
    simp only [Option.bind_some, Array.getElem?_toList, hes, Option.map_some] at hf
    obtain ⟨_, r2⟩ := hS.setObj (P := P) (es' := es.eraseIdxIfInBounds i) (clock' := clock)
    have hel : (es.eraseIdxIfInBounds i).toList = es.toList.eraseIdx i := by
      rw [Array.eraseIdxIfInBounds]
      split
      · simp
      · omega
    have hmd : mdel eq cur k = cur.eraseIdx i := by simp only [mdel, hp]
    refine ⟨_, _, _, start _ (es.eraseIdxIfInBounds i) hf rfl, r2, ?_, ⟨_, _, seen, rfl, rfl, ?_, ?_, ?_, ?_, List.Perm.refl _, fun lv hlv => by cases hlv⟩⟩
    · rw [hel, hmd, zip_erase]
      have h8 := ((List.eraseIdx_sublist (es.toList.zip cur) i).filter (fun q => !seen.contains q.1.born)).length_le
      have h9 := h6.length_eq
      simp only [List.length_map] at h9 ⊢
      omega
    · rw [hel, hmd, ← erase_map, h2, erase_map]
    · intro j e p he hpp
      rw [hmd] at hpp
      rw [← Array.getElem?_toList, hel, List.getElem?_eraseIdx] at he
      rw [List.getElem?_eraseIdx] at hpp
      split at he
      · rename_i hj
        rw [if_pos hj] at hpp
        exact h3 j e p (by rw [← Array.getElem?_toList]; exact he) hpp
      · rename_i hj
        rw [if_neg hj] at hpp
        exact h3 (j + 1) e p (by rw [← Array.getElem?_toList]; exact he) hpp
    · intro e he
      rw [hel] at he
      exact h4 e (List.mem_of_mem_eraseIdx he)
    · rw [hel, ← erase_map]
      exact h5.sublist (List.eraseIdx_sublist _ _)
variable {n : Nat} {K : World → Prop} {qt : Op → Bool} {z : Nat} {ops : Array Oper} {Q : Exit → Act → World → Prop} {fr : Fr} {li : List Nat} {i : Nat}
  {dst : Option Tmp} {ty : TypeId} {pos : String} {after : Array Edge} {guard : Option (Nat × Bool)}
theorem WO.deleteIt (h0 : IterSt enc val I C m cur D b rem last) (hS : St E w I (C :: D :: Os)) {t kt et t2 : Nat} (ht : P.underlying t = some (.map kt et)) (kl : KeyLaw P kt enc eq) {x y : Operand}
    (ho : ops[i]? = some ⟨dst, .call ⟨.builtin .delete, #[x, y], #[t, t2]⟩, ty, pos, after, guard⟩) (hok : okAt n ops fr ⟨dst, .call ⟨.builtin .delete, #[x, y], #[t, t2]⟩, ty, pos, after, guard⟩ = true) (hq : qt (.call ⟨.builtin .delete, #[x, y], #[t, t2]⟩) = false)
    (hx : ev fr x = .map (some m)) (k : κ) (hy : ev fr y = enc k) (hK : ∀ w' C', St E w' I (C' :: D :: Os) → K w')
    (h : ∀ w' C' rem', St E w' I (C' :: D :: Os) → rem'.length ≤ rem.length → IterSt enc val I C' m (mdel eq cur k) D b rem' none → WO P n K qt z ops Q li (pt fr dst (.tuple #[])) w') : WO P n K qt z ops Q (i :: li) fr w := by
  obtain ⟨w', C', rem', hr, hS', hl, hm⟩ := h0.delete (ty := ty) (ats := #[t, t2]) hS rfl ht kl k
  refine WO.act ho hok hq (v := .tuple #[]) (w' := w') ?_ (hK w' C' hS') (h w' C' rem' hS' hl hm)
  simp only [execOp, resolve]
  have e1 : (#[x, y].map (ev fr)) = #[.map (some m), enc k] := by simp [hx, hy]
  rw [e1]
  rw [run_bind (a := ({ target := .builtin .delete #[t, t2] ty (#[x, y].map fun | .const _ => true | _ => false), args := #[.map (some m), enc k] } : Deferred)) (w' := w) rfl]
  simp only [invoke, Go.builtin]
  rw [run_bind hr]
  rfl
end
end Go.Gv
