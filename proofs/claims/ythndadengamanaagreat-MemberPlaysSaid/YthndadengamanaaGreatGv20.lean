/- A loop over a map: whatever the order. Conditions: none. -/
import Derived.Test.YthndadengamanaaGreatGv19
import Derived.Laws.IdiomRangeMap
namespace Go.Gv
open Go
section
variable {κ ν σ τ : Type}
def foldR (step : κ → ν → σ → Option (σ ⊕ τ)) : List (κ × ν) → σ → Option (σ ⊕ τ)
  | [], s => some (.inl s)
  | (k, v) :: l, s => (step k v s).bind fun | .inl s' => foldR step l s' | .inr t => some (.inr t)
open Classical in
/-- What comes out whatever the order. -/
noncomputable def rangeO (step : κ → ν → σ → Option (σ ⊕ τ)) (l : List (κ × ν)) (s : σ) : Option (σ ⊕ τ) :=
  if h : ∃ r, ∀ l' : List (κ × ν), l'.Perm l → foldR step l' s = some r then some (Classical.choose h) else none
theorem rangeO_some {step : κ → ν → σ → Option (σ ⊕ τ)} {l : List (κ × ν)} {s : σ} {r : σ ⊕ τ} : rangeO step l s = some r ↔ ∀ l' : List (κ × ν), l'.Perm l → foldR step l' s = some r := by
  unfold rangeO
  constructor
  · intro h
    split at h
    · rename_i hx
      injection h with h
      rw [← h]
      exact Classical.choose_spec hx
    · cases h
  · intro h
    have hx : ∃ r, ∀ l' : List (κ × ν), l'.Perm l → foldR step l' s = some r := ⟨r, h⟩
    rw [dif_pos hx]
    have h1 := Classical.choose_spec hx l (List.Perm.refl l)
    rw [h l (List.Perm.refl l)] at h1
    exact h1.symm
theorem foldR_app {step : κ → ν → σ → Option (σ ⊕ τ)} : ∀ {a b : List (κ × ν)} {s s' : σ}, foldR step a s = some (.inl s') → foldR step (a ++ b) s = foldR step b s'
  | [], b, s, s', h => by
    simp only [foldR, Option.some.injEq, Sum.inl.injEq] at h
    subst h
    rfl
  | (k, v) :: a, b, s, s', h => by
    simp only [foldR, List.cons_append] at h ⊢
    cases hs : step k v s with
    | none => rw [hs] at h; cases h
    | some x =>
      rw [hs] at h
      cases x with
      | inl s1 => exact foldR_app (a := a) h
      | inr t => simp at h
variable {P : Program} {n : Nat} {Q : Exit → Act → World → Prop} {fr : Fr} {w : World}
theorem W.rangeO {c : Code} {step : κ → ν → σ → Option (σ ⊕ τ)} {l : List (κ × ν)} {s0 : σ} {r : σ ⊕ τ} (hr : Gv.rangeO step l s0 = some r) (Inv : List (κ × ν) → σ → Fr → World → Prop) (h0 : Inv l s0 fr w)
    (round : ∀ rem s fr w, Inv rem s fr w → (∀ k x rem', rem.Perm ((k, x) :: rem') → ∃ y, step k x s = some y ∧ ∀ t, y = .inr t → r = .inr t) → (rem = [] → r = .inl s) →
      W P n c (Rd n (fun fr w => ∃ k x rem' s', rem.Perm ((k, x) :: rem') ∧ step k x s = some (.inl s') ∧ Inv rem' s' fr w) Q) fr w) : W P n (.loop c) Q fr w := by
  rw [rangeO_some] at hr
  intro a ha
  refine wp_loop_ghost (fun k a w => ∃ vis rem s fr, Ag n fr a ∧ Inv rem s fr w ∧ rem.length = k ∧ (vis ++ rem).Perm l ∧ foldR step vis s0 = some (.inl s)) (k := l.length)
    ⟨[], l, s0, fr, ha, h0, rfl, List.Perm.refl _, rfl⟩ ?_
  rintro k a w ⟨vis, rem, s, fr, ha, hI, rfl, hp, hf⟩
  refine wp_mono (round rem s fr w hI ?_ ?_ a ha) ?_
  · intro k x rem' hrem
    have h1 := hr (vis ++ (k, x) :: rem') ((List.Perm.append_left vis hrem.symm).trans hp)
    rw [foldR_app hf] at h1
    simp only [foldR] at h1
    cases hs : step k x s with
    | none => rw [hs] at h1; cases h1
    | some y =>
      rw [hs] at h1
      refine ⟨y, rfl, ?_⟩
      rintro t rfl
      simpa using h1.symm
  · rintro rfl
    have h1 := hr vis (by simpa using hp)
    rw [hf] at h1
    injection h1 with h1
    exact h1.symm
  · intro e a' w' hq
    cases e with
    | normal =>
      obtain ⟨fr', ha', k, x, rem', s', hrem, hst, hI'⟩ := hq
      refine ⟨rem'.length, by rw [hrem.length_eq]; simp, vis ++ [(k, x)], rem', s', fr', ha', hI', rfl, ?_, ?_⟩
      · rw [List.append_assoc, List.singleton_append]
        exact (List.Perm.append_left vis hrem.symm).trans hp
      · rw [foldR_app hf]
        simp [foldR, hst]
    | _ => exact hq
end

/-! ### The iterator -/
section
variable {κ ν : Type}
/-- An iterator in block b over the map in block m, which says cur: what is left to come. -/
structure IterSt (enc : κ → Value) (val : Mem → Value → ν → Prop) (I C : Mem) (m : Nat) (cur : List (κ × ν)) (D : Mem) (b : Nat) (rem : List (κ × ν)) (last : Option (Value × Value)) : Prop where
  ex : ∃ (es : Array MapEntry) (clock : Nat) (seen : Array Nat), C = one m (.map es clock) ∧ D = one b (.mapIter (some m) clock seen clock) ∧ es.toList.map (·.key) = cur.map (fun p => enc p.1) ∧
    (∀ (i : Nat) (e : MapEntry) (p : κ × ν), es[i]? = some e → cur[i]? = some p → val I e.val p.2) ∧ (∀ e ∈ es.toList, e.born < clock) ∧ (es.toList.map (·.born)).Nodup ∧
    (((es.toList.zip cur).filter fun q => !seen.contains q.1.born).map (·.2)).Perm rem ∧ (∀ lv, last = some lv → ∃ e ∈ es.toList, seen.back? = some e.born ∧ e.key = lv.1 ∧ e.val = lv.2)
variable {enc : κ → Value} {val : Mem → Value → ν → Prop} {I J C D : Mem} {m b : Nat} {cur rem : List (κ × ν)} {last : Option (Value × Value)} {P : Program} {E w : World} {Os : List Mem}
theorem IterSt.mono [VMono val] (h : IterSt enc val I C m cur D b rem last) (hl : I.Le J) : IterSt enc val J C m cur D b rem last := by
  obtain ⟨es, clock, seen, h1, h2, h3, h4, h5⟩ := h.ex
  exact ⟨es, clock, seen, h1, h2, h3, fun i e p he hp => VMono.mono hl (h4 i e p he hp), h5⟩
theorem IterSt.start {es : Array MapEntry} {clock : Nat} (hC : C = one m (.map es clock)) (h2 : es.toList.map (·.key) = cur.map (fun p => enc p.1))
    (h3 : ∀ (i : Nat) (e : MapEntry) (p : κ × ν), es[i]? = some e → cur[i]? = some p → val I e.val p.2) (h4 : ∀ e ∈ es.toList, e.born < clock) (h5 : (es.toList.map (·.born)).Nodup) : IterSt enc val I C m cur (one b (.mapIter (some m) clock #[] clock)) b cur none := by
  refine ⟨es, clock, #[], hC, rfl, h2, h3, h4, h5, ?_, fun lv h => by cases h⟩
  have hlen : es.toList.length = cur.length := by have := congrArg List.length h2; simpa using this
  have : ((es.toList.zip cur).filter fun q => !(#[] : Array Nat).contains q.1.born) = es.toList.zip cur := by
    refine List.filter_eq_self.2 fun q _ => by simp
  rw [this, ← List.unzip_snd, List.unzip_zip hlen]
theorem born_ix {es : List MapEntry} (hn : (es.map (·.born)).Nodup) {i j : Nat} {e f : MapEntry} (hi : es[i]? = some e) (hj : es[j]? = some f) (h : e.born = f.born) : i = j := by
  have h1 : (es.map (·.born))[i]? = some e.born := by rw [List.getElem?_map, hi]; rfl
  have h2 : (es.map (·.born))[j]? = some f.born := by rw [List.getElem?_map, hj]; rfl
  have hil : i < (es.map (·.born)).length := (List.getElem?_eq_some_iff.1 h1).1
  refine (List.getElem?_inj hil hn).1 ?_
  rw [h1, h2, h]
theorem run_choose_next (w : World) (k : Nat) (hk : 0 < k) : ∃ (j : Nat) (w1 : World), j < k ∧ (w1 = w ∨ w1 = w.drew) ∧ (choose (Question.mapNext k)).run P w = .ok j w1 := by
  by_cases hf : k ≤ 1
  · exact ⟨0, w, by omega, .inl rfl, by simp [choose, Sem.run, Question.forced, hf]⟩
  · exact ⟨_, w.drew, Nat.mod_lt _ hk, .inr rfl, by
      simp only [choose, Sem.run, Question.forced, decide_eq_true_eq, hf, if_false, Question.cut]
      rfl⟩
theorem perm_erase {α : Type} : ∀ (Z : List α) {j : Nat} (h : j < Z.length), Z.Perm (Z[j] :: Z.eraseIdx j)
  | [], j, h => by cases h
  | z :: Z, 0, _ => List.Perm.refl _
  | z :: Z, j + 1, h => by
    simp only [List.getElem_cons_succ, List.eraseIdx_cons_succ]
    exact ((perm_erase Z (by simpa using h)).cons z).trans (.swap ..)
/-- The next one: none is left, or one comes. -/
theorem IterSt.next (h : IterSt enc val I C m cur D b rem last) (hS : St E w I (D :: C :: Os)) (ty : TypeId) :
    (rem = [] ∧ (Instr.next (.pointer (some ⟨b, 0, none⟩)) false ty).run P w = .ok (.tuple #[.bool false]) w) ∨
    ∃ k x rem' v w' D', rem.Perm ((k, x) :: rem') ∧ val I v x ∧ (Instr.next (.pointer (some ⟨b, 0, none⟩)) false ty).run P w = .ok (.tuple #[.bool true, enc k, v]) w' ∧ St E w' I (D' :: C :: Os) ∧ IterSt enc val I C m cur D' b rem' (some (enc k, v)) := by
  obtain ⟨es, clock, seen, rfl, rfl, h3, h4, h5, h6, h7, h8⟩ := h.ex
  have hb := hS.rd0 b _ (one_at b _)
  have hm := hS.drop.rd0 m _ (one_at m _)
  have hlen : es.toList.length = cur.length := by have := congrArg List.length h3; simpa using this
  have htest := next_test_false seen es clock clock h5 (Nat.le_refl _)
  have e1 : (es.filter fun e => !seen.contains e.born).filter (fun e => decide (e.born < clock)) = es.filter fun e => !seen.contains e.born := by
    refine Array.filter_eq_self.2 fun e he => ?_
    have := h5 e (by simp at he ⊢; exact he.1)
    simpa using this
  have e2 : (es.filter fun e => !seen.contains e.born).filter (fun e => decide (e.born ≥ clock)) = #[] := by
    rw [Array.filter_eq_empty_iff]
    intro e he
    have := h5 e (by simp at he ⊢; exact he.1)
    simp
    omega
  have hzip : ((es.toList.zip cur).filter fun q => !seen.contains q.1.born).map (·.1) = (es.filter fun e => !seen.contains e.born).toList := by
    rw [Array.toList_filter]
    have : ∀ (a : List MapEntry) (c : List (κ × ν)), a.length = c.length → ((a.zip c).filter fun q => !seen.contains q.1.born).map (·.1) = a.filter fun e => !seen.contains e.born := by
      intro a
      induction a with
      | nil => intro c _; rfl
      | cons x a ih =>
        intro c hc
        cases c with
        | nil => cases hc
        | cons y c =>
          simp only [List.zip_cons_cons, List.filter_cons]
          have := ih c (by simpa using hc)
          cases hs : seen.contains x.born <;> simpa using this
    exact this _ _ hlen
  have hpre : ∀ (L : Array MapEntry), (es.filter fun e => !seen.contains e.born) = L → (Instr.next (.pointer (some ⟨b, 0, none⟩)) false ty).run P w =
      (do match ((if L.isEmpty then #[none] else #[]) ++ L.map some)[← choose (.mapNext ((if L.isEmpty then #[none] else #[]) ++ L.map some : Array (Option MapEntry)).size)]? with
        | some (some e) => do setObj b (.mapIter (some m) clock (seen.push e.born) clock); pure (.tuple #[.bool true, e.key, e.val])
        | some none => pure (.tuple #[.bool false])
        | none => stuck "Next: no such candidate" : Sem Value).run P w := by
    rintro L rfl
    simp only [Instr.next, getObj, Sem.run_bind, Sem.run, hb, hm, Result.andThen, htest, Bool.false_eq_true, if_false, e1, e2, Array.append_empty]
    generalize Sem.run P (choose _) w = res
    cases res with
    | halt h w1 => rfl
    | ok a w1 =>
      simp only
      generalize (_ : Array (Option MapEntry))[a]? = o
      rcases o with _ | _ | _ <;> rfl
  by_cases h0 : (es.filter fun e => !seen.contains e.born) = #[]
  · left
    refine ⟨?_, ?_⟩
    · have : ((es.toList.zip cur).filter fun q => !seen.contains q.1.born) = [] := by
        rw [h0] at hzip
        simpa using hzip
      rw [this] at h7
      exact List.Perm.eq_nil h7.symm
    · rw [hpre _ h0]
      simp [choose, Sem.run, Question.forced]
  · right
    generalize hL : (es.filter fun e => !seen.contains e.born) = L at *
    have hpos : 0 < L.size := Array.size_pos_iff.2 h0
    have hne : L.isEmpty = false := by simpa [Array.isEmpty_iff] using h0
    obtain ⟨j, w1, hj, hw1, hrun⟩ := run_choose_next (P := P) w L.size hpos
    have hS1 : St E w1 I (one b (.mapIter (some m) clock seen clock) :: one m (.map es clock) :: Os) := by
      rcases hw1 with rfl | rfl
      · exact hS
      · exact hS.drew
    have hb1 := hS1.rd0 b _ (one_at b _)
    -- the one that comes
    have hzl : ((es.toList.zip cur).filter fun q => !seen.contains q.1.born).length = L.size := by
      have := congrArg List.length hzip
      simpa using this
    generalize hZ : ((es.toList.zip cur).filter fun q => !seen.contains q.1.born) = Z at *
    have hjz : j < Z.length := by omega
    have hLj : L[j] = Z[j].1 := by
      have h1 : L.toList[j]? = some L[j] := by rw [Array.getElem?_toList]; exact Array.getElem?_eq_getElem hj
      rw [← hzip, List.getElem?_map, List.getElem?_eq_getElem hjz] at h1
      simpa using h1.symm
    have hall : ∀ q ∈ Z, q ∈ es.toList.zip cur := by
      intro q hq
      rw [← hZ] at hq
      exact (List.mem_filter.1 hq).1
    have hmem2 : Z[j] ∈ es.toList.zip cur := hall _ (List.getElem_mem hjz)
    obtain ⟨i, hi⟩ := List.mem_iff_getElem?.1 hmem2
    rw [List.getElem?_zip_eq_some] at hi
    have hkey : Z[j].1.key = enc Z[j].2.1 := by
      have := congrArg (fun l => l[i]?) h3
      simp only [List.getElem?_map, hi.1, hi.2, Option.map_some] at this
      exact Option.some.inj this
    have hval : val I Z[j].1.val Z[j].2.2 := h4 i _ _ (by rw [← Array.getElem?_toList]; exact hi.1) hi.2
    have hset : (setObj b (.mapIter (some m) clock (seen.push Z[j].1.born) clock)).run P w1 = .ok () { w1 with heap := w1.heap.setIfInBounds b (.mapIter (some m) clock (seen.push Z[j].1.born) clock) } := by
      simp [Go.setObj, Sem.run, hb1]
    have hS2 : St E { w1 with heap := w1.heap.setIfInBounds b (.mapIter (some m) clock (seen.push Z[j].1.born) clock) } I (one b (.mapIter (some m) clock (seen.push Z[j].1.born) clock) :: one m (.map es clock) :: Os) := by
      have := hS1.put (one_at b _) (o' := .mapIter (some m) clock (seen.push Z[j].1.born) clock) (w' := { w1 with heap := w1.heap.setIfInBounds b (.mapIter (some m) clock (seen.push Z[j].1.born) clock) }) rfl rfl rfl (by
        have hlt := (Array.getElem?_eq_some_iff.1 hb1).1
        simp [Array.getElem?_setIfInBounds, hlt]) (fun i hi => by
        simp only [Array.getElem?_setIfInBounds]
        rw [if_neg (fun e => hi e.symm)])
      rwa [one_set] at this
    refine ⟨Z[j].2.1, Z[j].2.2, (Z.eraseIdx j).map (·.2), Z[j].1.val, _, _, ?_, hval, ?_, hS2, ⟨es, clock, seen.push Z[j].1.born, rfl, rfl, h3, h4, h5, h6, ?_, ?_⟩⟩
    · refine h7.symm.trans ?_
      exact (perm_erase Z hjz).map (·.2)
    · rw [hpre _ rfl]
      simp only [hne, Bool.false_eq_true, if_false, Array.empty_append, Array.size_map]
      rw [run_bind hrun]
      simp only [Array.getElem?_map, Array.getElem?_eq_getElem hj, Option.map_some, hLj]
      rw [run_bind hset, hkey]
      rfl
    · refine List.Perm.of_eq ?_
      have hnd : (Z.map (·.1.born)).Nodup := by
        have hsub : (Z.map (·.1)).Sublist es.toList := by
          rw [hzip, ← hL, Array.toList_filter]
          exact List.filter_sublist
        have h9 := h6.sublist (hsub.map (·.born))
        rwa [List.map_map] at h9
      have e3 : ∀ bb : Nat, ((es.toList.zip cur).filter fun q => !(seen.push bb).contains q.1.born) = Z.filter fun q => !(q.1.born == bb) := by
        intro bb
        rw [← hZ, List.filter_filter]
        refine List.filter_congr fun q _ => ?_
        rw [contains_push]
        cases seen.contains q.1.born <;> simp
      rw [e3]
      congr 1
      clear hrun hset hS2 hall hmem2 hi hkey hval e3 hZ hzip h7 hLj hzl hj
      induction Z generalizing j with
      | nil => cases hjz
      | cons z Z ih =>
        simp only [List.map_cons, List.nodup_cons] at hnd
        cases j with
        | zero =>
          simp only [List.getElem_cons_zero, List.filter_cons, beq_self_eq_true, Bool.not_true, Bool.false_eq_true, if_false, List.eraseIdx_cons_zero]
          refine List.filter_eq_self.2 fun q hq => ?_
          have : q.1.born ≠ z.1.born := fun e => hnd.1 (e ▸ List.mem_map.2 ⟨q, hq, rfl⟩)
          simpa using this
        | succ j =>
          have hj' : j < Z.length := by simpa using hjz
          have hne : z.1.born ≠ Z[j].1.born := fun e => hnd.1 (e ▸ List.mem_map.2 ⟨Z[j], List.getElem_mem hj', rfl⟩)
          have : (!(z.1.born == Z[j].1.born)) = true := by simpa using hne
          simp only [List.getElem_cons_succ, List.filter_cons, this, if_true, List.eraseIdx_cons_succ]
          rw [ih (j := j) (hjz := hj') hnd.2]
    · intro lv hlv
      injection hlv with hlv
      subst hlv
      refine ⟨Z[j].1, ?_, by simp, hkey, rfl⟩
      exact (List.of_mem_zip hmem2).1
theorem IterSt.entry {lv : Value × Value} (h : IterSt enc val I C m cur D b rem (some lv)) (hS : St E w I (D :: C :: Os)) : (Instr.entry (.pointer (some ⟨b, 0, none⟩))).run P w = .ok (.tuple #[lv.1, lv.2]) w := by
  obtain ⟨es, clock, seen, rfl, rfl, h3, h4, h5, h6, h7, h8⟩ := h.ex
  obtain ⟨e, he, hback, hk, hv⟩ := h8 lv rfl
  have hb := hS.rd0 b _ (one_at b _)
  have hm := hS.drop.rd0 m _ (one_at m _)
  have hf : es.find? (·.born == e.born) = some e := by rw [← Array.find?_toList]; exact find_born e es.toList h6 he
  simp only [Instr.entry, getObj, Sem.run_bind, Sem.run, hb, hm, Result.andThen, hback, bne_self_eq_false, Bool.false_eq_true, if_false, hf, hk, hv]
  rfl
end
section
variable {κ ν : Type} {enc : κ → Value} {val : Mem → Value → ν → Prop} {I C D : Mem} {m b : Nat} {cur rem : List (κ × ν)} {last : Option (Value × Value)}
  {P : Program} {n : Nat} {K : World → Prop} {qt : Op → Bool} {z : Nat} {ops : Array Oper} {Q : Exit → Act → World → Prop} {fr : Fr} {w E : World} {li : List Nat} {Os : List Mem}
  {dst : Option Tmp} {ty : TypeId} {pos : String} {after : Array Edge} {guard : Option (Nat × Bool)} {i : Nat}
theorem WO.rangeMap {l : List (κ × ν)} (h0 : OwnMap enc val I C m l) (hS : St E w I (C :: Os)) {t kt et : Nat} (ht : P.underlying t = some (.map kt et)) {x : Operand}
    (ho : ops[i]? = some ⟨dst, .range t x, ty, pos, after, guard⟩) (hok : okAt n ops fr ⟨dst, .range t x, ty, pos, after, guard⟩ = true) (hq : qt (.range t x) = false) (hx : ev fr x = .map (some m))
    (hK : ∀ w' D, St E w' I (D :: C :: Os) → K w')
    (h : ∀ b w' D, St E w' I (D :: C :: Os) → IterSt enc val I C m l D b l none → WO P n K qt z ops Q li (pt fr dst (.pointer (some ⟨b, 0, none⟩))) w') : WO P n K qt z ops Q (i :: li) fr w := by
  obtain ⟨es, clock, rfl, h2, h3, h4, h5⟩ := h0.ex
  have hm := hS.rd0 m _ (one_at m _)
  have hS' := hS.alloc (.mapIter (some m) clock #[] clock)
  refine WO.act ho hok hq (v := .pointer (some ⟨w.heap.size, 0, none⟩)) (w' := w.alloc (.mapIter (some m) clock #[] clock)) ?_ (hK _ _ hS') (h _ _ _ hS' (IterSt.start rfl h2 h3 h4 h5))
  simp only [execOp, hx]
  rw [run_bind (run_range_map w t kt et m es clock ht hm)]
  rfl
theorem WO.next (h0 : IterSt enc val I C m cur D b rem last) (hS : St E w I (D :: C :: Os)) {x : Operand}
    (ho : ops[i]? = some ⟨dst, .next x false, ty, pos, after, guard⟩) (hok : okAt n ops fr ⟨dst, .next x false, ty, pos, after, guard⟩ = true) (hq : qt (.next x false) = false) (hx : ev fr x = .pointer (some ⟨b, 0, none⟩))
    (hK : ∀ w' D, St E w' I (D :: C :: Os) → K w')
    (he : rem = [] → WO P n K qt z ops Q li (pt fr dst (.tuple #[.bool false])) w)
    (h : ∀ k x rem' v w' D', rem.Perm ((k, x) :: rem') → val I v x → St E w' I (D' :: C :: Os) → IterSt enc val I C m cur D' b rem' (some (enc k, v)) → WO P n K qt z ops Q li (pt fr dst (.tuple #[.bool true, enc k, v])) w') : WO P n K qt z ops Q (i :: li) fr w := by
  rcases h0.next (P := P) hS ty with ⟨hr, hrun⟩ | ⟨k, y, rem', v, w', D', hp, hv, hrun, hS', hI'⟩
  · refine WO.act ho hok hq (v := .tuple #[.bool false]) (w' := w) ?_ (hK _ _ hS) (he hr)
    simp only [execOp, hx]
    rw [run_bind hrun]
    rfl
  · refine WO.act ho hok hq (v := .tuple #[.bool true, enc k, v]) (w' := w') ?_ (hK _ _ hS') (h k y rem' v w' D' hp hv hS' hI')
    simp only [execOp, hx]
    rw [run_bind hrun]
    rfl
theorem WO.entry {lv : Value × Value} (h0 : IterSt enc val I C m cur D b rem (some lv)) (hS : St E w I (D :: C :: Os)) {x : Operand}
    (ho : ops[i]? = some ⟨dst, .entry x, ty, pos, after, guard⟩) (hok : okAt n ops fr ⟨dst, .entry x, ty, pos, after, guard⟩ = true) (hq : qt (.entry x) = false) (hx : ev fr x = .pointer (some ⟨b, 0, none⟩)) (hK : K w)
    (h : WO P n K qt z ops Q li (pt fr dst (.tuple #[lv.1, lv.2])) w) : WO P n K qt z ops Q (i :: li) fr w := by
  refine WO.act ho hok hq (v := .tuple #[lv.1, lv.2]) (w' := w) ?_ hK h
  simp only [execOp, hx]
  rw [run_bind (h0.entry hS)]
  rfl
end
end Go.Gv
