/- Locks: nobody who waits is passed by. Conditions: none. -/
import Derived.Test.YtdmefifamlpbiaaMode
namespace Go.Proofs.Ytdmefifamlpbiaa
open Go.Gv
theorem getElem_pre {α : Type} {D S F : List α} {x : α} (h : F = D ++ x :: S) : F[D.length]? = some x := by
  rw [h, List.getElem?_append_right (Nat.le_refl _), Nat.sub_self]
  rfl
theorem Inv.goesOn {n : Nat} {l : mdl_Locks} (h : Inv n l) (hN : n ≤ 1000) (k : ByteArray) {p : Place} (a : registrarlaw21_Act) (hp : p.queue.length ≤ 1000) (hon : On (left a) p (Pl l k)) : registrarlaw21_goesOn l k (p.queue.map (·.who)) a = some true := by
  refine Ret.eq ?_
  obtain ⟨A, B, hF, hA, hB⟩ := hon
  unfold registrarlaw21_goesOn
  rw [h.waiters hN]
  simp only [Option.bind_some]
  generalize hW : p.queue.map (·.who) = W at hF ⊢
  have hWl : W.length ≤ 1000 := by rw [← hW]; simpa using hp
  have hpos : ∀ a ∈ A, 1 ≤ modeOf (Pl l k) a := by
    intro a ha
    obtain ⟨x, hx, rfl⟩ := List.mem_map.1 (hA a ha)
    rw [modeOf_mem (h.pl k).toPre hx]
    exact ((h.pl k).wh x (List.mem_append_left _ hx)).2.2
  have hzero : ∀ b ∈ B, modeOf (Pl l k) b = 0 := by
    intro b hb
    refine modeOf_no fun hm => ?_
    have hnd := (h.pl k).nd
    rw [List.map_append, List.nodup_append] at hnd
    exact hnd.2.2 b hm b (hB.subset hb) rfl
  have hfl : (W.filter (left a)).length ≤ W.length := List.length_filter_le ..
  refine RB.bind (forN_ret (fun i (s : Int × Bool) => s.1 = ((((W.take i).filter (left a)).length - A.length : Nat) : Int) ∧ s.2 = decide (A.length < ((W.take i).filter (left a)).length)) (Q := fun b => b = true) (by simp) ?_) ?_
  · rintro i ⟨at_, waits⟩ hi ⟨h1, h2⟩
    have hx : W[i]? = some W[i] := List.getElem?_eq_getElem hi
    simp only at h1 h2
    simp only [idx_nat, hx, Option.bind_some]
    generalize hD : (W.take i).filter (left a) = D at h1 h2
    have hsnoc : (W.take (i + 1)).filter (left a) = D ++ [W[i]].filter (left a) := by rw [take_snoc hx, List.filter_append, hD]
    refine RB.bind (R := fun t => match t with | .inl s' => s'.1 = ((((W.take (i + 1)).filter (left a)).length - A.length : Nat) : Int) ∧ s'.2 = decide (A.length < ((W.take (i + 1)).filter (left a)).length) | .inr b => b = true) ?_ (fun t ht => by rcases t with ⟨u, v⟩ | t <;> exact RB.ret ht)
    refine RB.bind (R := fun b => b = !(left a W[i])) ?_ ?_
    · unfold left
      cases a.Do == 2 <;> exact RB.ret (by simp)
    rintro b rfl
    rw [hsnoc]
    cases hl : left a W[i] with
    | false =>
      simp only [Bool.not_false, cond_true]
      refine RB.ret ?_
      simp only [List.filter_cons, hl, List.filter_nil, Bool.false_eq_true, if_false, List.append_nil]
      exact ⟨h1, h2⟩
    | true =>
      simp only [Bool.not_true, cond_false]
      rw [h.mode hN]
      simp only [Option.bind_some]
      have e1 : [W[i]].filter (left a) = [W[i]] := by simp [List.filter_cons, hl]
      rw [e1]
      simp only [List.length_append, List.length_cons, List.length_nil]
      have hFD : A ++ B = D ++ W[i] :: (W.drop (i + 1)).filter (left a) := by
        rw [← hF, ← hD]
        have e : W = W.take i ++ W[i] :: W.drop (i + 1) := by rw [← List.drop_eq_getElem_cons hi, List.take_append_drop]
        conv => lhs; rw [e]
        rw [List.filter_append, List.filter_cons, if_pos hl]
      have hat := getElem_pre hFD
      have hDl : D.length < (A ++ B).length := by rw [hFD]; simp
      have hAB : (A ++ B).length ≤ W.length := by rw [← hF]; exact hfl
      by_cases hlt : D.length < A.length
      · rw [List.getElem?_append_left hlt] at hat
        have hm := hpos _ (List.mem_of_getElem? hat)
        rw [show decide (modeOf (Pl l k) W[i] > 0) = true by simp; omega]
        have hwf : waits = false := by rw [h2]; simp; omega
        rw [hwf]
        simp only [cond_true, cond_false]
        refine RB.ret ⟨by simp only; omega, ?_⟩
        symm
        simp
        omega
      · have hge : A.length ≤ D.length := by omega
        rw [List.getElem?_append_right hge] at hat
        have hm := hzero _ (List.mem_of_getElem? hat)
        rw [hm]
        have e2 : at_ = ((D.length - A.length : Nat) : Int) := h1
        obtain ⟨C, hC⟩ := hB
        have hnow : ((Pl l k).queue.map (·.who))[D.length - A.length]? = some W[i] := by
          rw [← hC, List.getElem?_append_left]
          · exact hat
          · exact (List.getElem?_eq_some_iff.1 hat).1
        have hlt2 := (List.getElem?_eq_some_iff.1 hnow).1
        simp only [show decide ((0 : Int) > 0) = false from rfl, cond_false]
        refine RB.bind (R := fun b => b = false) ?_ ?_
        · rw [show decide (at_ ≥ (((Pl l k).queue.map (·.who)).length : Int)) = false by simp only [decide_eq_false_iff_not]; omega]
          simp only [cond_false]
          rw [e2, idx_nat, hnow]
          refine RB.ret ?_
          simp
        · rintro b rfl
          refine RB.ret ⟨?_, ?_⟩
          · simp only
            simp only [List.length_append] at hDl hAB
            rw [e2, w64_id (by omega) (by omega)]
            omega
          · symm
            simp
            omega
  · rintro (⟨u, v⟩ | b) hb
    · exact RB.ret rfl
    · exact RB.ret hb
theorem long_eq (a : registrarlaw21_Act) : registrarlaw21_long a = some (decide ((a.Path.size : Int) > 100)) := rfl
theorem serves_true (l : List registrarlaw21_Act) (hl : l.length ≤ maxLen ∧ ∀ x ∈ l, wf_registrarlaw21_Act x) : registrarlaw21_MdlServes l = some true := by
  unfold registrarlaw21_MdlServes
  rw [show mdl_New = some ⟨[]⟩ from rfl]
  simp only [Option.bind_some, works_eq]
  refine Ret.eq (RB.bind (R := fun t => match t with | .inl s => s.1 = true | .inr _ => True) (loopO_rb (fun (s : Int × mdl_Locks) => 0 ≤ s.1 ∧ s.1 ≤ 60 ∧ Inv s.1.toNat s.2) (fun s => (60 - s.1).toNat) ?_ ⟨by simp, by simp, inv_new _⟩) ?_)
  · rintro ⟨k, x⟩ ⟨h0, h1, hI⟩
    refine RB.cond (fun hc => ?_) (fun _ => RB.ret trivial)
    simp only [Bool.and_eq_true, decide_eq_true_eq] at hc
    simp only at h0 h1 hI
    obtain ⟨a, ha, _⟩ := idx_lt h0 hc.1
    simp only [ha, Option.bind_some, long_eq]
    refine RB.cond (fun _ => RB.ret rfl) (fun hlong => ?_)
    have hsz : a.Path.size ≤ 100 := by simp at hlong; omega
    have hN : k.toNat ≤ 1000 := by omega
    obtain ⟨ks, e, hp⟩ := hI.paths hN
    rw [e]
    simp only [Option.bind_some]
    have hlen : ks.length ≤ 60 := by have h1 := hp.length_eq; have h2 := hI.len; simp at h1; omega
    refine RB.bind (R := fun was => was = (ks.take ks.length).map fun k => (Pl x k).queue.map (·.who)) (forE_ret (fun i was => was = (ks.take i).map fun k => (Pl x k).queue.map (·.who)) (by simp) ?_) ?_
    · rintro i was hi rfl
      have hx : ks[i]? = some ks[i] := List.getElem?_eq_getElem hi
      simp only [idx_nat, hx, Option.bind_some]
      rw [hI.waiters hN]
      simp only [Option.bind_some]
      rw [app_le (by simp; omega)]
      refine RB.ret ?_
      rw [take_snoc hx, List.map_append]
      rfl
    rintro was rfl
    rw [List.take_length]
    obtain ⟨l', e2, h2, h3⟩ := hI.act (by omega) a hsz
    rw [e2]
    simp only [Option.bind_some]
    refine RB.bind (forN_ret (fun i (_ : Unit) => True) (Q := fun _ => False) trivial ?_) ?_
    · rintro i _ hi _
      have hx : ks[i]? = some ks[i] := List.getElem?_eq_getElem hi
      simp only [idx_nat, hx, List.getElem?_map, Option.map_some, Option.bind_some]
      have hq := (hI.pl ks[i]).len
      rw [h2.goesOn (by omega) ks[i] a (by omega) (h3 ks[i])]
      exact RB.ret trivial
    · rintro (u | b) hb
      · have hw : w64 (k + 1) = k + 1 := w64_id (by omega) (by omega)
        refine RB.ret ⟨⟨by simp only; omega, by simp only; omega, ?_⟩, by simp only; omega⟩
        simp only [hw]
        rw [show (k + 1).toNat = k.toNat + 1 by omega]
        exact h2
      · exact hb.elim
  · rintro (⟨b, x⟩ | x) h
    · simp only at h
      subst h
      exact RB.ret rfl
    · exact RB.ret rfl
end Go.Proofs.Ytdmefifamlpbiaa
