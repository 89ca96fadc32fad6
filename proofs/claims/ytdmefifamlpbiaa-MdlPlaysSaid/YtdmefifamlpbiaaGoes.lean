/- Locks: all who hold a path go together. Conditions: none. -/
import Derived.Test.YtdmefifamlpbiaaServes
namespace Go.Proofs.Ytdmefifamlpbiaa
open Go.Gv
theorem refgoes_eq (a b : Int) : registrarref21_Goes a b = some (G a b) := by
  refine Ret.eq ?_
  unfold registrarref21_Goes
  refine RB.cond (fun h => RB.ret ?_) (fun h => RB.ret ?_)
  · simp only [Bool.or_eq_true, decide_eq_true_eq, beq_iff_eq] at h
    symm
    unfold G
    simp only [decide_eq_false_iff_not]
    omega
  · simp only [Bool.or_eq_false_iff, decide_eq_false_iff_not, beq_eq_false_iff_ne, ne_eq] at h
    unfold G
    rw [Bool.eq_iff_iff]
    simp only [Bool.or_eq_true, beq_iff_eq, decide_eq_true_eq]
    omega
/-- A list whose neighbours differ has nothing to throw away. -/
theorem compact_eq {xs : List Int} (h : xs.Nodup) (hl : xs.length ≤ 1000) : slices_Compact_int xs = some xs := by
  unfold slices_Compact_int
  refine Ret.eq (RB.cond (fun _ => RB.ret rfl) (fun _ => ?_))
  refine RB.bind (R := fun t => t = .inr xs) (loopO_rb (fun (s : Int × List Int) => s.2 = xs ∧ 1 ≤ s.1 ∧ s.1 ≤ 2000) (fun s => ((xs.length : Int) - s.1).toNat) ?_ ⟨rfl, by simp, by simp⟩) ?_
  · rintro ⟨i, ys⟩ ⟨rfl, h1, h2⟩
    simp only at h1 h2 h hl ⊢
    refine RB.cond (fun hc => ?_) (fun _ => RB.ret rfl)
    simp only [decide_eq_true_eq] at hc
    have hw : w64 (i - 1) = ((i.toNat - 1 : Nat) : Int) := by rw [w64_id (by omega) (by omega)]; omega
    have hi : i = (i.toNat : Int) := by omega
    have h3 : i.toNat < ys.length := by omega
    have h4 : i.toNat - 1 < ys.length := by omega
    have e1 : idx ys i = some ys[i.toNat] := idx_at hi (List.getElem?_eq_getElem h3)
    have e2 : idx ys (w64 (i - 1)) = some ys[i.toNat - 1] := idx_at hw (List.getElem?_eq_getElem h4)
    rw [e1, e2]
    simp only [Option.bind_some]
    have hne : (ys[i.toNat] == ys[i.toNat - 1]) = false := by
      simp only [beq_eq_false_iff_ne, ne_eq]
      intro e
      have := List.pairwise_iff_getElem.1 h (i.toNat - 1) i.toNat h4 h3 (by omega)
      exact this e.symm
    rw [hne]
    simp only [cond_false]
    rw [w64_id (by omega) (by omega)]
    exact RB.ret ⟨⟨rfl, by simp only; omega, by simp only; omega⟩, by simp only; omega⟩
  · rintro t rfl
    exact RB.ret rfl
theorem whos_eq {n : Nat} {xs : List One} (h : (xs.map (·.who)).Nodup) (hl : xs.length ≤ 1000) : ∃ r, mdl_whos xs = some r ∧ r.Perm (xs.map (·.who)) := by
  refine Ret.ex ?_
  unfold mdl_whos
  refine RB.bind (R := fun s => s = (xs.take xs.length).map (·.who)) (forE_ret (fun i s => s = (xs.take i).map (·.who)) (by simp) ?_) ?_
  · rintro i s hi rfl
    have hx : xs[i]? = some xs[i] := List.getElem?_eq_getElem hi
    simp only [idx_nat, hx, Option.bind_some]
    rw [app_le (by simp; omega)]
    refine RB.ret ?_
    rw [take_snoc hx, List.map_append]
    rfl
  · rintro s rfl
    rw [List.take_length]
    have e : sortIO (xs.map (·.who)) = some (sortI (xs.map (·.who))) := by
      unfold sortIO
      rw [if_pos (by simp; omega)]
    rw [e]
    simp only [Option.bind_some]
    have hp : (sortI (xs.map (·.who))).Perm (xs.map (·.who)) := List.mergeSort_perm _ _
    rw [compact_eq (hp.nodup_iff.2 h) (by rw [hp.length_eq]; simpa using hl)]
    exact RB.ret hp
theorem Inv.holders {n : Nat} {l : mdl_Locks} (h : Inv n l) (hN : n ≤ 1000) (k : ByteArray) : ∃ r, mdl_Locks_Holders l k = some r ∧ r.Perm ((Pl l k).held.map (·.who)) := by
  have hp := h.pl k
  have hnd := hp.nd
  have hl := hp.len
  rw [List.map_append, List.nodup_append] at hnd
  obtain ⟨r, e, hr⟩ := whos_eq (n := n) hnd.1 (by omega)
  refine ⟨r, ?_, hr⟩
  unfold mdl_Locks_Holders mdl_Locks_dead
  simp only [Option.bind_some, pl_eq]
  rw [e]
  rfl
theorem Pre.pair {n : Nat} {p : Place} (h : Pre n p) {x y : One} (hx : x ∈ p.held) (hy : y ∈ p.held) (hne : x.who ≠ y.who) : G x.mode y.mode = true := by
  rcases List.append_of_mem hx with ⟨A, B, e⟩
  have hg := h.go
  rw [e] at hy hg
  rw [List.pairwise_append, List.pairwise_cons] at hg
  rcases List.mem_append.1 hy with h1 | h1
  · rw [G_symm]
    exact hg.2.2 y h1 x (List.mem_cons_self ..)
  · rcases List.mem_cons.1 h1 with h2 | h2
    · subst h2
      exact absurd rfl hne
    · exact hg.2.1.1 y h2
end Go.Proofs.Ytdmefifamlpbiaa
