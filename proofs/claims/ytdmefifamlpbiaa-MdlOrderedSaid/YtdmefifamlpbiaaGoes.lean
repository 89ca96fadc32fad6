/- Locks: all who hold a path go together. Conditions: none. -/
import Derived.Test.YtdmefifamlpbiaaServes
namespace Go.Proofs.Ytdmefifamlpbiaa
open Go.Gv
theorem refgoes_eq (a b : Int) : registrarref21_Goes a b = some (G a b) := by
  refine Ret.eq ?_
  unfold registrarref21_Goes
  refine RB.cond (fun h => RB.ret ?_) (fun h => RB.ret ?_)
  · simp only [Bool.or_eq_true, decide_eq_true_eq, beq_iff_eq] at h
    symm
    unfold G
    simp only [decide_eq_false_iff_not]
    omega
  · simp only [Bool.or_eq_false_iff, decide_eq_false_iff_not, beq_eq_false_iff_ne, ne_eq] at h
    unfold G
    rw [Bool.eq_iff_iff]
    simp only [Bool.or_eq_true, beq_iff_eq, decide_eq_true_eq]
    omega
/-- A list whose neighbours differ has nothing to throw away. -/
theorem compact_eq {xs : List Int} (h : xs.Nodup) (hl : xs.length ≤ 1000) : slices_Compact_int xs = some xs := by
  unfold slices_Compact_int
  refine Ret.eq (RB.cond (fun _ => RB.ret rfl) (fun _ => ?_))
  refine RB.bind (R := fun t => t = .inr xs) (loopO_rb (fun (s : Int × List Int) => s.2 = xs ∧ 1 ≤ s.1 ∧ s.1 ≤ 2000) (fun s => ((xs.length : Int) - s.1).toNat) ?_ ⟨rfl, by simp, by simp⟩) ?_
  · rintro ⟨i, ys⟩ ⟨rfl, h1, h2⟩
    simp only at h1 h2 h hl ⊢
    refine RB.cond (fun hc => ?_) (fun _ => RB.ret rfl)
    simp only [decide_eq_true_eq] at hc
    have hw : w64 (i - 1) = ((i.toNat - 1 : Nat) : Int) := by rw [w64_id (by omega) (by omega)]; omega
    have hi : i = (i.toNat : Int) := by omega
    have h3 : i.toNat < ys.length := by omega
    have h4 : i.toNat - 1 < ys.length := by omega
    have e1 : idx ys i = some ys[i.toNat] := idx_at hi (List.getElem?_eq_getElem h3)
    have e2 : idx ys (w64 (i - 1)) = some ys[i.toNat - 1] := idx_at hw (List.getElem?_eq_getElem h4)
    rw [e1, e2]
    simp only [Option.bind_some]
    have hne : (ys[i.toNat] == ys[i.toNat - 1]) = false := by
      simp only [beq_eq_false_iff_ne, ne_eq]
      intro e
      have := List.pairwise_iff_getElem.1 h (i.toNat - 1) i.toNat h4 h3 (by omega)
      exact this e.symm
    rw [hne]
    simp only [cond_false]
    rw [w64_id (by omega) (by omega)]
    exact RB.ret ⟨⟨rfl, by simp only; omega, by simp only; omega⟩, by simp only; omega⟩
  · rintro t rfl
    exact RB.ret rfl
theorem whos_eq {n : Nat} {xs : List One} (h : (xs.map (·.who)).Nodup) (hl : xs.length ≤ 1000) : ∃ r, mdl_whos xs = some r ∧ r.Perm (xs.map (·.who)) := by
  refine Ret.ex ?_
  unfold mdl_whos
  refine RB.bind (R := fun s => s = (xs.take xs.length).map (·.who)) (forE_ret (fun i s => s = (xs.take i).map (·.who)) (by simp) ?_) ?_
  · rintro i s hi rfl
    have hx : xs[i]? = some xs[i] := List.getElem?_eq_getElem hi
    simp only [idx_nat, hx, Option.bind_some]
    rw [app_le (by simp; omega)]
    refine RB.ret ?_
    rw [take_snoc hx, List.map_append]
    rfl
  · rintro s rfl
    rw [List.take_length]
    have e : sortIO (xs.map (·.who)) = some (sortI (xs.map (·.who))) := by
      unfold sortIO
      rw [if_pos (by simp; omega)]
    rw [e]
    simp only [Option.bind_some]
    have hp : (sortI (xs.map (·.who))).Perm (xs.map (·.who)) := List.mergeSort_perm _ _
    rw [compact_eq (hp.nodup_iff.2 h) (by rw [hp.length_eq]; simpa using hl)]
    exact RB.ret hp
theorem Inv.holders {n : Nat} {l : mdl_Locks} (h : Inv n l) (hN : n ≤ 1000) (k : ByteArray) : ∃ r, mdl_Locks_Holders l k = some r ∧ r.Perm ((Pl l k).held.map (·.who)) := by
  have hp := h.pl k
  have hnd := hp.nd
  have hl := hp.len
  rw [List.map_append, List.nodup_append] at hnd
  obtain ⟨r, e, hr⟩ := whos_eq (n := n) hnd.1 (by omega)
  refine ⟨r, ?_, hr⟩
  unfold mdl_Locks_Holders mdl_Locks_dead
  simp only [Option.bind_some, pl_eq]
  rw [e]
  rfl
theorem Pre.pair {n : Nat} {p : Place} (h : Pre n p) {x y : One} (hx : x ∈ p.held) (hy : y ∈ p.held) (hne : x.who ≠ y.who) : G x.mode y.mode = true := by
  rcases List.append_of_mem hx with ⟨A, B, e⟩
  have hg := h.go
  rw [e] at hy hg
  rw [List.pairwise_append, List.pairwise_cons] at hg
  rcases List.mem_append.1 hy with h1 | h1
  · rw [G_symm]
    exact hg.2.2 y h1 x (List.mem_cons_self ..)
  · rcases List.mem_cons.1 h1 with h2 | h2
    · subst h2
      exact absurd rfl hne
    · exact hg.2.1.1 y h2
theorem Inv.together {n : Nat} {l : mdl_Locks} (h : Inv n l) (hN : n ≤ 1000) {k : ByteArray} (hk : k ∈ l.at_.map (·.1)) : registrarlaw21_together l k = some true := by
  refine Ret.eq ?_
  unfold registrarlaw21_together
  obtain ⟨r, e, hr⟩ := h.holders hN k
  have hp := h.pl k
  have hnd := hp.nd
  have hlen := hp.len
  rw [List.map_append, List.nodup_append] at hnd
  have hrn : r.Nodup := hr.nodup_iff.2 hnd.1
  have hrl : r.length = (Pl l k).held.length := by have := hr.length_eq; simpa using this
  rw [e]
  simp only [Option.bind_some, h.mode hN, goes_eq]
  have hmem : ∀ i (hi : i < r.length), ∃ x ∈ (Pl l k).held, x.who = r[i] ∧ modeOf (Pl l k) r[i] = x.mode := by
    intro i hi
    obtain ⟨x, hx, e⟩ := List.mem_map.1 (hr.mem_iff.1 (List.getElem_mem hi))
    exact ⟨x, hx, e, by rw [← e]; exact modeOf_mem hp.toPre hx⟩
  refine RB.bind (forN_ret (fun i (_ : Unit) => True) (Q := fun _ => False) trivial ?_) ?_
  · rintro i _ hi _
    refine RB.bind (R := fun t => t = .inr ()) (loopO_rb (fun (s : Int) => 0 ≤ s ∧ s ≤ 2000) (fun s => ((r.length : Int) - s).toNat) ?_ ⟨by simp, by simp⟩) ?_
    · rintro j ⟨h1, h2⟩
      refine RB.cond (fun hc => ?_) (fun _ => RB.ret rfl)
      simp only [decide_eq_true_eq] at hc
      have hj : j.toNat < r.length := by omega
      have e1 : idx r (i : Int) = some r[i] := idx_mem hi
      have e2 : idx r j = some r[j.toNat] := idx_at (by omega) (List.getElem?_eq_getElem hj)
      rw [e1, e2]
      simp only [Option.bind_some]
      obtain ⟨x, hx, hx1, hx2⟩ := hmem i hi
      obtain ⟨y, hy, hy1, hy2⟩ := hmem j.toNat hj
      have hne : x.who ≠ y.who := by
        rw [hx1, hy1]
        intro e
        exact List.pairwise_iff_getElem.1 hrn j.toNat i hj hi (by omega) e.symm
      rw [hx2, hy2, hp.toPre.pair hx hy hne]
      simp only [Bool.not_true, cond_false]
      rw [w64_id (by omega) (by omega)]
      exact RB.ret ⟨⟨by omega, by omega⟩, by omega⟩
    · rintro t rfl
      exact RB.ret trivial
  rintro (u | b) hb
  · simp only
    rw [h.waiters hN]
    simp only [Option.bind_some]
    cases hq : (Pl l k).queue with
    | nil =>
      have : (Pl l k).held.length ≠ 0 := fun e => h.ne k hk (List.eq_nil_of_length_eq_zero e)
      refine RB.ret ?_
      simp
      omega
    | cons y q =>
      have e0 : ((((List.map (fun x : One => x.who) (y :: q)).length : Nat) : Int) == 0) = false := by
        simp only [beq_eq_false_iff_ne, ne_eq, List.length_map, List.length_cons]
        omega
      rw [e0]
      simp only [cond_false]
      rw [show idx (List.map (fun x : One => x.who) (y :: q)) 0 = some y.who from rfl]
      simp only [Option.bind_some]
      rcases h.waits y.who with ⟨hno, _⟩ | ⟨k', A, x, B, h1, h2, h3, h4⟩
      · exact absurd rfl (hno k y (by rw [hq]; simp))
      have hkk : k' = k := h.w1 k' k x y (by rw [h1]; simp) (by rw [hq]; simp) h2
      subst hkk
      have hxy : x.mode = y.mode := by
        rw [hq] at h1
        cases A with
        | nil => injection h1 with e1 _; rw [e1]
        | cons z A' =>
          injection h1 with e1 _
          subst e1
          exact absurd rfl (h3 y (List.mem_cons_self ..))
      rw [h4]
      simp only [Option.bind_some]
      obtain ⟨z, hz, hzg⟩ := hp.bl y q hq
      rw [hxy]
      refine RB.bind (R := fun b => b = (r.take r.length).any fun w => !(G (modeOf (Pl l k') w) y.mode)) (forE_ret (fun i b => b = (r.take i).any fun w => !(G (modeOf (Pl l k') w) y.mode)) (by simp) ?_) ?_
      · rintro i b hi rfl
        have hx : r[i]? = some r[i] := List.getElem?_eq_getElem hi
        simp only [idx_nat, hx, Option.bind_some]
        rw [take_snoc hx, List.any_append]
        cases (r.take i).any fun w => !(G (modeOf (Pl l k') w) y.mode) with
        | true => exact RB.ret (by simp)
        | false => exact RB.ret (by simp)
      · rintro b rfl
        rw [List.take_length]
        refine RB.ret ?_
        have e1 : sEq k' k' = true := (keq _ _).2 rfl
        have e2 : (r.any fun w => !(G (modeOf (Pl l k') w) y.mode)) = true := by
          rw [List.any_eq_true]
          refine ⟨z.who, hr.mem_iff.2 (List.mem_map.2 ⟨z, hz, rfl⟩), ?_⟩
          rw [modeOf_mem hp.toPre hz, hzg]
          rfl
        simp only [e1, e2]
        rfl
  · exact hb.elim
theorem goes_true (l : List registrarlaw21_Act) (a b : Int) (hl : l.length ≤ maxLen ∧ ∀ x ∈ l, wf_registrarlaw21_Act x) (ha : Go.IntKind.min .i64 ≤ a ∧ a ≤ Go.IntKind.max .i64) (hb : Go.IntKind.min .i64 ≤ b ∧ b ≤ Go.IntKind.max .i64) : registrarlaw21_MdlGoes l a b = some true := by
  unfold registrarlaw21_MdlGoes
  simp only [goes_eq, refgoes_eq, Option.bind_some, G_symm b a, beq_self_eq_true, Bool.not_true, cond_false]
  rw [show mdl_New = some ⟨[]⟩ from rfl]
  simp only [Option.bind_some, works_eq]
  refine Ret.eq (RB.bind (R := fun t => match t with | .inl s => s.1 = true | .inr _ => True) (loopO_rb (fun (s : Int × mdl_Locks) => 0 ≤ s.1 ∧ s.1 ≤ 60 ∧ Inv s.1.toNat s.2) (fun s => (60 - s.1).toNat) ?_ ⟨by simp, by simp, inv_new _⟩) ?_)
  · rintro ⟨k, x⟩ ⟨h0, h1, hI⟩
    refine RB.cond (fun hc => ?_) (fun _ => RB.ret trivial)
    simp only [Bool.and_eq_true, decide_eq_true_eq] at hc
    simp only at h0 h1 hI
    obtain ⟨c, hc2, _⟩ := idx_lt h0 hc.1
    simp only [hc2, Option.bind_some, long_eq]
    refine RB.cond (fun _ => RB.ret rfl) (fun hlong => ?_)
    have hsz : c.Path.size ≤ 100 := by simp at hlong; omega
    obtain ⟨l', e2, h2, h3⟩ := hI.act (by omega) c hsz
    rw [e2]
    simp only [Option.bind_some]
    obtain ⟨ks, e, hp⟩ := h2.paths (by omega)
    rw [e]
    simp only [Option.bind_some]
    refine RB.bind (forN_ret (fun i (_ : Unit) => True) (Q := fun _ => False) trivial ?_) ?_
    · rintro i _ hi _
      have hx : ks[i]? = some ks[i] := List.getElem?_eq_getElem hi
      simp only [idx_nat, hx, Option.bind_some]
      rw [h2.together (by omega) (hp.mem_iff.1 (List.getElem_mem hi))]
      exact RB.ret trivial
    · rintro (u | b) hb
      · have hw : w64 (k + 1) = k + 1 := w64_id (by omega) (by omega)
        refine RB.ret ⟨⟨by simp only; omega, by simp only; omega, ?_⟩, by simp only; omega⟩
        simp only [hw]
        rw [show (k + 1).toNat = k.toNat + 1 by omega]
        exact h2
      · exact hb.elim
  · rintro (⟨b, x⟩ | x) h
    · simp only at h
      subst h
      exact RB.ret rfl
    · exact RB.ret rfl
end Go.Proofs.Ytdmefifamlpbiaa
