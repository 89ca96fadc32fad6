/- Plain laws: what the plain functions answer. Conditions: none. -/
import Derived.Test.YtpgmbifboopfmaaGreatHA
set_option maxRecDepth 100000
namespace Go.Proofs.YtpgmbifboopfmaaGreat
open Go.Gv
theorem grown0 : Ret (law19_Grown []) (fun c => CT 16 c ∧ VB c) := rb_and grown_nil (grown_v [])
theorem liveL_head {A : List qC} {N : List Int} {c : qC} (h0 : A[0]? = some c) (hl : lvP A N 0) : ∃ r, liveL A N = c.Version :: r := by
  have hpos := (List.getElem?_eq_some_iff.1 h0).1
  obtain ⟨m, hm⟩ : ∃ m, A.length = m + 1 := ⟨A.length - 1, by omega⟩
  unfold liveL
  rw [hm, List.range_succ_eq_map, List.filter_cons, if_pos (lvB_iff.2 hl), List.filterMap_cons, h0]
  exact ⟨_, rfl⟩
theorem keeps_ok {P Q : Prop} (p0 : List law22_Act) (p1 : Int) (_ : P) (_ : Q) : law22_ChainKeeps p0 p1 = some true := by
  unfold law22_ChainKeeps
  refine Ret.eq (yd (few22_rb p0) fun q0 h0 => yi (fun _ => ?_) fun hc => ?_)
  · rw [works22]
    exact yaj (yc rfl)
  simp only [Bool.or_eq_false_iff, Bool.not_eq_eq_eq_not, Bool.not_false, decide_eq_false_iff_not] at hc
  obtain ⟨⟨hq, w1⟩, w2⟩ := hc
  have hw : 1 ≤ p1 ∧ p1 ≤ 8 := ⟨by omega, by omega⟩
  obtain ⟨f1, f2⟩ := h0 hq
  refine yd grown0 ?_
  rintro c ⟨g1, g2⟩
  rw [show chain_New c = some ⟨[(c.Version, ⟨c, 0⟩)], c.Version, [], []⟩ from rfl, rnew_val]
  have i0 := inv_new (c := c) (g1.1.up om) g2
  have hp0 : pinned (List.replicate 9 (-1)) p1 = none := by
    unfold pinned
    rw [if_pos om, List.getElem?_replicate]
    split <;> simp
  rcases inv_pin i0 p1 with ⟨hw', _⟩ | ⟨_, ⟨i, hp⟩, _⟩ | ⟨_, hp, h1, e1, i1⟩
  · exact absurd hw hw'
  · rw [hp0] at hp; cases hp
  refine yaj (yaj ?_)
  rw [e1]
  refine yaj ?_
  dsimp only
  have er : r22_Chain_Pin ⟨[c], List.replicate 9 (-1), List.replicate 9 0⟩ p1 = some (c.Version, 0, ⟨[c], (List.replicate 9 (-1)).set p1.toNat 0, List.replicate 9 0⟩) := by
    unfold r22_Chain_Pin
    rw [rng' hw]
    simp only [cond_false, nget_idx i0 hw hp0, obs]
    rw [show decide ((-1 : Int) ≥ 0) = false by simp, show w64 ((([c] : List qC).length : Int) - 1) = 0 from rfl, rnow_val (by simp) (by simp) rfl]
    rfl
  rw [er]
  refine yaj ?_
  dsimp only
  refine yi (fun hc => by simp at hc) fun _ => ?_
  have hpin : pinned ((List.replicate 9 (-1)).set p1.toNat 0) p1 = some 0 := by
    have := pinned_set (N := List.replicate 9 (-1)) (w := p1) om (by simp; omega) 0 p1
    rw [if_pos rfl] at this
    exact this
  refine yd (R := fun (t : (chain_Chain × r22_Chain) ⊕ (Bool × chain_Chain × r22_Chain)) => ∃ s A N D, t = .inl s ∧ Inv A N D s.1 ∧ A[0]? = some c ∧ pinned N p1 = some 0) ((forN_ret (fun k (s : chain_Chain × r22_Chain) => ∃ A N D, Inv A N D s.1 ∧ s.2 = ⟨A, N, D⟩ ∧ A.length ≤ k + 1 ∧ (∀ x, A[A.length - 1]? = some x → CT (16 + k) x) ∧ A[0]? = some c ∧ pinned N p1 = some 0) (Q := fun _ => False) ⟨_, _, _, i1, rfl, by simp, fun x hx => by simp at hx; rw [← hx]; exact g1, rfl, hpin⟩ ?_).mono ?_) ?_
  · rintro k ⟨h, r⟩ hk ⟨A, N, D, hi, e, hA, hc, ha0, hpn⟩
    have e : r = ⟨A, N, D⟩ := e
    subst e
    refine yd (R := fun (t : (chain_Chain × r22_Chain) ⊕ (Bool × chain_Chain × r22_Chain)) => ∃ s A N D, t = .inl s ∧ Inv A N D s.1 ∧ s.2 = ⟨A, N, D⟩ ∧ A.length ≤ k + 1 + 1 ∧ (∀ x, A[A.length - 1]? = some x → CT (16 + (k + 1)) x) ∧ A[0]? = some c ∧ pinned N p1 = some 0) (yah hk fun a ha ham => ?_) ?_
    · refine yd (R := fun (q : Bool) => q = false → a.Do = 2 → a.Who ≠ p1) (yi (fun hd => ?_) fun hd => yc fun _ h => by simp [h] at hd) fun q hq => yi (fun _ => yc ⟨_, A, N, D, rfl, hi, rfl, by omega, fun x hx => (hc x hx).up om, ha0, hpn⟩) fun hqf => ?_
      · rw [idx_nat, ha]
        refine yaj (yc fun hf _ => ?_)
        simpa using hf
      rw [idx_nat, ha]
      refine yaj (yd (done_rb hi hA om hc (f2 a ham)) ?_)
      rintro ⟨b, h', r'⟩ ⟨rfl, A', N', D', hi', e, hA', hc', ⟨B, hB⟩, hkeep⟩
      have e : r' = ⟨A', N', D'⟩ := e
      subst e
      have hpn' : pinned N' p1 = some 0 := hkeep p1 0 (hq hqf) hpn
      have ha0' : A'[0]? = some c := by rw [hB, List.getElem?_append_left hi.pos]; exact ha0
      rcases inv_at hi' p1 with ⟨hn, _⟩ | ⟨i, y, hp, hy, e⟩
      · rw [hpn'] at hn; cases hn
      have : i = 0 := by rw [hpn'] at hp; exact (Option.some.inj hp).symm
      subst this
      have : y = c := by rw [ha0'] at hy; exact (Option.some.inj hy).symm
      subst this
      obtain ⟨rs, hrs⟩ := liveL_head ha0' (.inr (List.mem_of_getElem? (pinned_some.1 hpn').2))
      rw [e]
      refine yaj ?_
      dsimp only
      rw [inv_live hi', csame, hrs]
      simp only [Bool.not_true, cond_false, obs, List.length_cons]
      rw [show (((rs.length + 1 : Nat) : Int) == 0) = false by simp; omega]
      simp only [cond_false]
      rw [show idx (y.Version :: rs) 0 = some y.Version from rfl]
      simp only [obs, bne_self_eq_false, cond_false]
      exact yc ⟨_, A', N', D', rfl, hi', rfl, hA', hc', ha0', hpn'⟩
    · rintro _ ⟨s, A', N', D', rfl, g⟩
      exact yc ⟨A', N', D', g⟩
  · rintro (s | t) g
    · obtain ⟨A, N, D, q1, q2, q3, q4, q5, q6⟩ := g
      exact ⟨s, A, N, D, rfl, q1, q5, q6⟩
    · exact g.elim
  rintro _ ⟨⟨h, r⟩, A, N, D, rfl, hi, ha0, hpn⟩
  have hi : Inv A N D h := hi
  refine yd (R := fun (q : Bool) => q = true ↔ ∃ u : Nat, 1 ≤ u ∧ u < 9 ∧ (u : Int) ≠ p1 ∧ pinned N (u : Int) = some 0) (loopO_rb (fun (s : Bool × Int) => ∃ k : Nat, s.2 = (k : Int) ∧ 1 ≤ k ∧ k ≤ 9 ∧ (s.1 = true ↔ ∃ u : Nat, 1 ≤ u ∧ u < k ∧ (u : Int) ≠ p1 ∧ pinned N (u : Int) = some 0)) (fun s => 9 - s.2.toNat) ?_ ⟨1, rfl, by omega, by omega, ?_⟩) ?_
  · rintro ⟨q, _⟩ ⟨k, rfl, k1, k2, g⟩
    simp only at g ⊢
    have ek : w64 ((k : Int) + 1) = ((k + 1 : Nat) : Int) := by rw [w64_id om om]; rfl
    refine yi (fun hc => ?_) fun hc => ?_
    · have hc : k ≤ 8 := by simp only [decide_eq_true_eq] at hc; omega
      rw [ek]
      rcases inv_at hi (k : Int) with ⟨hp, e⟩ | ⟨i, y, hp, hy, e⟩
      · rw [e]
        refine yaj (yc ⟨⟨k + 1, rfl, by omega, by omega, ?_⟩, by simp only [Int.toNat_natCast]; omega⟩)
        simp only [Bool.and_false, Bool.false_and, Bool.or_false]
        rw [g]
        constructor
        · rintro ⟨u, a, b, c⟩
          exact ⟨u, a, by omega, c⟩
        · rintro ⟨u, a, b, c, d⟩
          refine ⟨u, a, ?_, c, d⟩
          have : u ≠ k := by rintro rfl; rw [hp] at d; cases d
          omega
      · rw [e]
        refine yaj (yc ⟨⟨k + 1, rfl, by omega, by omega, ?_⟩, by simp only [Int.toNat_natCast]; omega⟩)
        simp only [Bool.and_true, Bool.or_eq_true, Bool.and_eq_true, bne_iff_ne, ne_eq, beq_iff_eq]
        rw [g]
        have hv : y.Version = c.Version ↔ i = 0 := ⟨fun e => ver_inj hi.asc hy ha0 e, fun e => by subst e; rw [ha0] at hy; injection hy with hy; rw [hy]⟩
        constructor
        · rintro (⟨u, a, b, c⟩ | ⟨a, b⟩)
          · exact ⟨u, a, by omega, c⟩
          · refine ⟨k, k1, by omega, a, ?_⟩
            rw [hp, hv.1 b]
        · rintro ⟨u, a, b, c, d⟩
          by_cases e : u = k
          · subst e
            rw [hp] at d
            exact .inr ⟨c, hv.2 (Option.some.inj d)⟩
          · exact .inl ⟨u, a, by omega, c, d⟩
    · have hc : k = 9 := by simp only [decide_eq_false_iff_not] at hc; omega
      subst hc
      exact yc g
  · constructor
    · intro h; cases h
    · rintro ⟨u, a, b, _⟩; omega
  intro q hq
  rcases inv_unpin hi p1 with ⟨hw', _⟩ | ⟨_, hn, _⟩ | ⟨_, _, h', e, hi'⟩
  · exact absurd hw hw'
  · rw [hpn] at hn; cases hn
  rw [e]
  refine yaj ?_
  dsimp only
  obtain ⟨x, x1, x2⟩ := inv_now hi'
  have hlast : liveL A (N.set p1.toNat (-1)) ≠ [] := fun e0 => by
    have : x.Version ∈ liveL A (N.set p1.toNat (-1)) := liveL_mem.2 ⟨_, x, x1, rfl, .inl (by have := hi'.pos; omega)⟩
    rw [e0] at this
    cases this
  obtain ⟨y, rs, hyr⟩ := List.exists_cons_of_ne_nil hlast
  rw [inv_live hi', hyr]
  simp only [obs, cond_true, beq_self_eq_true, List.length_cons]
  rw [show decide (((rs.length + 1 : Nat) : Int) > 0) = true from decide_eq_true om]
  simp only [cond_true]
  rw [show idx (y :: rs) 0 = some y from rfl]
  simp only [obs, x2]
  have hlv : y = c.Version ↔ lvP A (N.set p1.toNat (-1)) 0 := by
    constructor
    · intro e
      have : c.Version ∈ liveL A (N.set p1.toNat (-1)) := by rw [hyr, e]; simp
      obtain ⟨i, z, h1, h2, h3⟩ := liveL_mem.1 this
      rw [ver_inj hi.asc h1 ha0 h2] at h3
      exact h3
    · intro h
      obtain ⟨rs', e⟩ := liveL_head ha0 h
      rw [hyr] at e
      exact (List.cons.inj e).1
  have hxv : x.Version = c.Version ↔ 0 + 1 = A.length := by
    have hpos := hi.pos
    constructor
    · intro e
      have := ver_inj hi.asc x1 ha0 e
      omega
    · intro e
      have : A.length - 1 = 0 := by omega
      rw [this, ha0] at x1
      rw [Option.some.inj x1]
  have hmem : (0 : Int) ∈ N.set p1.toNat (-1) ↔ ∃ u : Nat, 1 ≤ u ∧ u < 9 ∧ (u : Int) ≠ p1 ∧ pinned N (u : Int) = some 0 := by
    constructor
    · intro hm
      obtain ⟨u, hu⟩ := List.getElem?_of_mem hm
      rw [List.getElem?_set] at hu
      split at hu
      · split at hu
        · injection hu with hu; omega
        · cases hu
      · rename_i hne
        have hul := (List.getElem?_eq_some_iff.1 hu).1
        rw [hi.n9] at hul
        refine ⟨u, Nat.pos_of_ne_zero ?_, hul, by omega, pinned_some.2 ⟨by omega, by rw [Int.toNat_natCast]; exact hu⟩⟩
        rintro rfl
        rw [hi.n0] at hu
        injection hu with hu
        omega
    · rintro ⟨u, a, b, c', d⟩
      have hu := (pinned_some.1 d).2
      rw [Int.toNat_natCast] at hu
      refine List.mem_of_getElem? (i := u) ?_
      rw [List.getElem?_set, if_neg om]
      exact hu
  have hfin : (y == c.Version) = (q || (x.Version == c.Version)) := by
    rw [Bool.eq_iff_iff, beq_iff_eq, hlv, Bool.or_eq_true, beq_iff_eq, hxv, hq, ← hmem]
    exact or_comm
  refine yd (R := fun (t : Bool) => t = true) (yd (R := fun (t : Bool) => t = true) (yd (R := fun t => t = (q || (x.Version == c.Version))) (yi (fun h => yc (by rw [h]; rfl)) fun h => yc (by rw [h]; rfl)) fun t ht => yc (by rw [ht, hfin]; simp)) fun t ht => ?_) fun t ht => yc ht
  subst ht
  simp only [cond_true]
  rw [works22]
  exact yc rfl
end Go.Proofs.YtpgmbifboopfmaaGreat
