/- The plain law of MdlPlays: cycles, and all together. Conditions: none. -/
import Derived.Test.YtdmefifamlpbiaaPlays
namespace Go.Proofs.Ytdmefifamlpbiaa
open Go.Gv
attribute [local irreducible] Pl
/-! ### Whom one waits for, over others -/
inductive Rch (bl : Int → List Int) : Int → Int → Prop
  | one {k b : Int} : b ∈ bl k → Rch bl k b
  | step {k x b : Int} : Rch bl k x → b ∈ bl x → Rch bl k b
theorem Rch.trans {bl : Int → List Int} {a b c : Int} (h : Rch bl a b) (h2 : Rch bl b c) : Rch bl a c := by
  induction h2 with
  | one g => exact .step h g
  | step _ g ih => exact .step ih g
theorem Rch.range {bl : Int → List Int} (hb : ∀ k, ∀ b ∈ bl k, 1 ≤ b ∧ b ≤ 8) {a b : Int} (h : Rch bl a b) : 1 ≤ b ∧ b ≤ 8 := by
  cases h with
  | one g => exact hb _ _ g
  | step _ g => exact hb _ _ g
theorem Rch.in_ {bl : Int → List Int} {P : Int → Prop} {w : Int} (h1 : ∀ b ∈ bl w, P b) (h2 : ∀ k, P k → ∀ b ∈ bl k, P b) {v : Int} (h : Rch bl w v) : P v := by
  induction h with
  | one g => exact h1 _ g
  | step _ g ih => exact h2 _ ih _ g
section
variable {r : RK} {bl : Int → List Int}
/-- A turn: who is in, its are, too. -/
theorem turn_eq (hbl : ∀ k, registrarref21_Locks_Blockers r k = some (bl k)) (hb : ∀ k, ∀ b ∈ bl k, 1 ≤ b ∧ b ≤ 8) (t w : Int) {s0 : List Bool} (hl : s0.length = 9) :
    ∃ s', loopO (fun (s : Int × (List Bool)) => match s with | (s30, s31) => (bif (decide (s30 < 9)) then ((idx s31 s30).bind (fun (x40 : Bool) => (bif ((!x40) && ((decide (t > 0)) || (s30 != w))) then some s31 else (registrarref21_Locks_Blockers r s30).bind (fun (r54 : List Int) => (forE (fun (i59 : Nat) => fun (s58 : List Bool) => (idx r54 (i59 : Int)).bind (fun (x66 : Int) => (idx s58 x66).bind (fun (x67 : Bool) => some (s58.set (x66).toNat true)))) r54.length 0 s31).bind (fun (s58 : List Bool) => some s58))))).bind (fun (j36 : List Bool) => some (.inl ((w64 (s30 + 1)), j36))) else some (.inr s31))) ((1 : Int), s0) = some s' ∧ s'.length = 9 ∧
      (∀ v, 0 ≤ v → inS s0 v → inS s' v) ∧ (∀ k, 1 ≤ k → k ≤ 8 → (inS s0 k ∨ (t ≤ 0 ∧ k = w)) → ∀ b ∈ bl k, inS s' b) ∧
      (∀ P : Int → Prop, (∀ v, 0 ≤ v → inS s0 v → P v) → (∀ k, P k → ∀ b ∈ bl k, P b) → (t ≤ 0 → ∀ b ∈ bl w, P b) → ∀ v, 0 ≤ v → inS s' v → P v) := by
  refine Ret.ex ((loopO_rb (fun (s : Int × List Bool) => 1 ≤ s.1 ∧ s.1 ≤ 9 ∧ s.2.length = 9 ∧ (∀ v, 0 ≤ v → inS s0 v → inS s.2 v) ∧ (∀ k, 1 ≤ k → k < s.1 → (inS s0 k ∨ (t ≤ 0 ∧ k = w)) → ∀ b ∈ bl k, inS s.2 b) ∧
      (∀ P : Int → Prop, (∀ v, 0 ≤ v → inS s0 v → P v) → (∀ k, P k → ∀ b ∈ bl k, P b) → (t ≤ 0 → ∀ b ∈ bl w, P b) → ∀ v, 0 ≤ v → inS s.2 v → P v))
    (Q := fun (s' : List Bool) => s'.length = 9 ∧ (∀ v, 0 ≤ v → inS s0 v → inS s' v) ∧ (∀ k, 1 ≤ k → k ≤ 8 → (inS s0 k ∨ (t ≤ 0 ∧ k = w)) → ∀ b ∈ bl k, inS s' b) ∧
      (∀ P : Int → Prop, (∀ v, 0 ≤ v → inS s0 v → P v) → (∀ k, P k → ∀ b ∈ bl k, P b) → (t ≤ 0 → ∀ b ∈ bl w, P b) → ∀ v, 0 ≤ v → inS s' v → P v)) (fun s => (9 - s.1).toNat) ?_ (s := ((1 : Int), s0)) ⟨by simp, by simp, hl, fun v _ h => h, fun k h1 h2 => by simp only at h2; omega, fun P h1 _ _ v hv h => h1 v hv h⟩))
  rintro ⟨k, s⟩ ⟨h1, h2, h3, h4, h5, h6⟩
  simp only at h1 h2 h3 h4 h5 h6
  refine RB.cond (fun hc => ?_) (fun hc => ?_)
  · simp only [decide_eq_true_eq] at hc
    obtain ⟨x, hx, hxi⟩ := inS_idx h3 (v := k) (by omega) (by omega)
    rw [hx]
    simp only [Option.bind_some]
    rw [w64_id (by omega) (by omega)]
    cases hskip : ((!x) && (decide (t > 0) || (k != w))) with
    | true =>
      simp only [cond_true]
      refine RB.ret ⟨⟨by simp only; omega, by simp only; omega, h3, h4, fun j g1 g2 g3 => ?_, h6⟩, by simp only; omega⟩
      simp only at g2
      by_cases e : j = k
      · subst e
        exfalso
        simp only [Bool.and_eq_true, Bool.not_eq_true', Bool.or_eq_true, decide_eq_true_eq, bne_iff_ne] at hskip
        rcases g3 with g3 | ⟨g3, g4⟩
        · have := hxi.2 (h4 j (by omega) g3)
          rw [hskip.1] at this
          cases this
        · rcases hskip.2 with q | q
          · omega
          · exact q g4
      · exact h5 j g1 (by omega) g3
    | false =>
      simp only [cond_false]
      rw [hbl k]
      simp only [Option.bind_some]
      obtain ⟨s', g1, g2, g3⟩ := set_all (bs := bl k) h3 (hb k)
      rw [g1]
      refine RB.ret ⟨⟨by simp only; omega, by simp only; omega, g2, fun v hv hi => (g3 v hv).2 (.inl (h4 v hv hi)), fun j q1 q2 q3 b hbj => ?_, fun P p1 p2 p3 v hv hi => ?_⟩, by simp only; omega⟩
      · simp only at q2
        have hbr := hb _ _ hbj
        by_cases e : j = k
        · subst e
          exact (g3 b (by omega)).2 (.inr hbj)
        · exact (g3 b (by omega)).2 (.inl (h5 j q1 (by omega) q3 b hbj))
      · rcases (g3 v hv).1 hi with hi | hi
        · exact h6 P p1 p2 p3 v hv hi
        · cases x with
          | true => exact p2 k (h6 P p1 p2 p3 k (by omega) (hxi.1 rfl)) v hi
          | false =>
            simp only [Bool.not_false, Bool.true_and, Bool.or_eq_false_iff, decide_eq_false_iff_not, bne_eq_false_iff_eq] at hskip
            have hkw : k = w := hskip.2
            subst hkw
            exact p3 (by omega) v hi
  · simp only [decide_eq_false_iff_not] at hc
    refine RB.ret ⟨h3, h4, fun j g1 g2 g3 => h5 j g1 (by omega) g3, h6⟩
def Closed (bl : Int → List Int) (s : List Bool) : Prop := ∀ k, 1 ≤ k → k ≤ 8 → inS s k → ∀ b ∈ bl k, inS s b
open Classical in
theorem reach_eq (hbl : ∀ k, registrarref21_Locks_Blockers r k = some (bl k)) (hb : ∀ k, ∀ b ∈ bl k, 1 ≤ b ∧ b ≤ 8) (w : Int) (hw : 1 ≤ w ∧ w ≤ 8) :
    ∃ s', loopO (fun (s : Int × (List Bool)) => match s with | (s19, s20) => (bif (decide (s19 ≤ 8)) then (loopO (fun (s : Int × (List Bool)) => match s with | (s30, s31) => (bif (decide (s30 < 9)) then ((idx s31 s30).bind (fun (x40 : Bool) => (bif ((!x40) && ((decide (s19 > 0)) || (s30 != w))) then some s31 else (registrarref21_Locks_Blockers r s30).bind (fun (r54 : List Int) => (forE (fun (i59 : Nat) => fun (s58 : List Bool) => (idx r54 (i59 : Int)).bind (fun (x66 : Int) => (idx s58 x66).bind (fun (x67 : Bool) => some (s58.set (x66).toNat true)))) r54.length 0 s31).bind (fun (s58 : List Bool) => some s58))))).bind (fun (j36 : List Bool) => some (.inl ((w64 (s30 + 1)), j36))) else some (.inr s31))) ((1 : Int), s20)).bind (fun (s80 : List Bool) => some (.inl ((w64 (s19 + 1)), s80))) else some (.inr s20))) ((0 : Int), (List.replicate 9 false)) = some s' ∧ s'.length = 9 ∧ (inS s' w ↔ Rch bl w w) := by
  refine Ret.ex ((loopO_rb (fun (s : Int × List Bool) => 0 ≤ s.1 ∧ s.1 ≤ 9 ∧ s.2.length = 9 ∧ (∀ v, 0 ≤ v → inS s.2 v → Rch bl w v) ∧ (1 ≤ s.1 → ∀ b ∈ bl w, inS s.2 b) ∧ (1 ≤ s.1 → Closed bl s.2 ∨ ∃ S : List Int, S.Nodup ∧ s.1 ≤ (S.length : Int) + 1 ∧ ∀ v ∈ S, 1 ≤ v ∧ v ≤ 8 ∧ inS s.2 v))
    (Q := fun (s' : List Bool) => s'.length = 9 ∧ (inS s' w ↔ Rch bl w w)) (fun s => (9 - s.1).toNat) ?_ (s := ((0 : Int), (List.replicate 9 false))) ⟨by simp, by simp, by simp, fun v _ h => absurd h (inS_none v), fun h => by simp at h, fun h => by simp at h⟩))
  rintro ⟨t, s⟩ ⟨h1, h2, h3, h4, h5, h6⟩
  simp only at h1 h2 h3 h4 h5 h6
  refine RB.cond (fun hc => ?_) (fun hc => ?_)
  · simp only [decide_eq_true_eq] at hc
    obtain ⟨s', g1, g2, g3, g4, g5⟩ := turn_eq hbl hb t w h3
    rw [g1]
    simp only [Option.bind_some]
    rw [w64_id (by omega) (by omega)]
    refine RB.ret ⟨⟨by simp only; omega, by simp only; omega, g2, ?_, ?_, ?_⟩, by simp only; omega⟩
    · exact g5 _ h4 (fun k hk b hbk => .step hk hbk) (fun _ b hbw => .one hbw)
    · intro _ b hbw
      by_cases ht : t ≤ 0
      · exact g4 w hw.1 hw.2 (.inr ⟨ht, rfl⟩) b hbw
      · have hr := hb _ _ hbw
        exact g3 b (by omega) (h5 (by omega) b hbw)
    · intro _
      simp only
      by_cases ht : t ≤ 0
      · exact .inr ⟨[], by simp, by simp; omega, by simp⟩
      by_cases hcl : Closed bl s
      · left
        have hback : ∀ v, 0 ≤ v → inS s' v → inS s v ∧ (1 ≤ v ∧ v ≤ 8) := by
          refine g5 (fun v => inS s v ∧ (1 ≤ v ∧ v ≤ 8)) (fun v hv hi => ⟨hi, ?_⟩) (fun k hk b hbk => ⟨hcl k hk.2.1 hk.2.2 hk.1 b hbk, hb _ _ hbk⟩) (fun h => absurd h ht)
          exact (h4 v hv hi).range hb
        intro k q1 q2 q3 b hbk
        have hr := hb _ _ hbk
        exact g3 b (by omega) (hcl k q1 q2 (hback k (by omega) q3).1 b hbk)
      · right
        rcases h6 (by omega) with h | ⟨S, S1, S2, S3⟩
        · exact absurd h hcl
        · have hex : ∃ k b, 1 ≤ k ∧ k ≤ 8 ∧ inS s k ∧ b ∈ bl k ∧ ¬ inS s b := by
            refine Classical.byContradiction fun hn => hcl ?_
            intro k q1 q2 q3 b hbk
            exact Classical.byContradiction fun hnb => hn ⟨k, b, q1, q2, q3, hbk, hnb⟩
          obtain ⟨k, b, q1, q2, q3, hbk, hnb⟩ := hex
          have hr := hb _ _ hbk
          refine ⟨b :: S, List.nodup_cons.2 ⟨fun hm => hnb (S3 b hm).2.2, S1⟩, by simp only [List.length_cons]; omega, fun v hv => ?_⟩
          rcases List.mem_cons.1 hv with rfl | hv
          · exact ⟨hr.1, hr.2, g4 k q1 q2 (.inl q3) v hbk⟩
          · have := S3 v hv
            exact ⟨this.1, this.2.1, g3 v (by omega) this.2.2⟩
  · simp only [decide_eq_false_iff_not] at hc
    have hcl : Closed bl s := by
      rcases h6 (by omega) with h | ⟨S, S1, S2, S3⟩
      · exact h
      · intro k _ _ _ b hbk
        have hr := hb _ _ hbk
        refine Classical.byContradiction fun hnb => ?_
        have hnd : (b :: S).Nodup := List.nodup_cons.2 ⟨fun hm => hnb (S3 b hm).2.2, S1⟩
        have hsub : (b :: S) ⊆ [1, 2, 3, 4, 5, 6, 7, (8 : Int)] := by
          intro v hv
          have : 1 ≤ v ∧ v ≤ 8 := by
            rcases List.mem_cons.1 hv with rfl | hv
            · exact hr
            · exact ⟨(S3 v hv).1, (S3 v hv).2.1⟩
          simp
          omega
        have := List.Nodup.length_le_of_subset hnd hsub
        simp only [List.length_cons, List.length_nil] at this
        omega
    refine RB.ret ⟨h3, ⟨fun h => h4 w (by omega) h, fun h => ?_⟩⟩
    have : inS s w ∧ (1 ≤ w ∧ w ≤ 8) := Rch.in_ (P := fun v => inS s v ∧ (1 ≤ v ∧ v ≤ 8)) (fun b hbw => ⟨h5 (by omega) b hbw, hb _ _ hbw⟩) (fun k hk b hbk => ⟨hcl k hk.2.1 hk.2.2 hk.1 b hbk, hb _ _ hbk⟩) h
    exact this.1
open Classical in
theorem refcyc_eq (hbl : ∀ k, registrarref21_Locks_Blockers r k = some (bl k)) (hb : ∀ k, ∀ b ∈ bl k, 1 ≤ b ∧ b ≤ 8) : registrarref21_Locks_Cycle r = some (decide (∃ w, 1 ≤ w ∧ w ≤ 8 ∧ Rch bl w w)) := by
  refine Ret.eq ?_
  unfold registrarref21_Locks_Cycle
  refine RB.bind (R := fun t => match t with | .inl b => b = true ∧ ∃ w, 1 ≤ w ∧ w ≤ 8 ∧ Rch bl w w | .inr _ => ∀ w, 1 ≤ w → w ≤ 8 → ¬ Rch bl w w) (loopO_rb (fun (s : Int) => 1 ≤ s ∧ s ≤ 9 ∧ ∀ w, 1 ≤ w → w < s → ¬ Rch bl w w) (fun s => (9 - s).toNat) ?_ ⟨by simp, by simp, fun w h1 h2 => by omega⟩) ?_
  · rintro w ⟨h1, h2, h3⟩
    refine RB.cond (fun hc => ?_) (fun hc => ?_)
    · simp only [decide_eq_true_eq] at hc
      rw [mk9]
      simp only [Option.bind_some]
      obtain ⟨s', g1, g2, g3⟩ := reach_eq hbl hb w ⟨h1, hc⟩
      rw [g1]
      simp only [Option.bind_some]
      obtain ⟨b, hb1, hb2⟩ := inS_idx g2 (v := w) (by omega) (by omega)
      rw [hb1]
      simp only [Option.bind_some]
      rw [w64_id (by omega) (by omega)]
      cases b with
      | true => exact RB.ret ⟨rfl, w, h1, hc, g3.1 (hb2.1 rfl)⟩
      | false =>
        refine RB.ret ⟨⟨by omega, by omega, fun v q1 q2 => ?_⟩, by omega⟩
        by_cases e : v = w
        · subst e
          intro hr
          have := hb2.2 (g3.2 hr)
          cases this
        · exact h3 v q1 (by omega)
    · simp only [decide_eq_false_iff_not] at hc
      exact RB.ret (fun v q1 q2 => h3 v q1 (by omega))
  · rintro (b | u) ht
    · obtain ⟨rfl, hw⟩ := ht
      exact RB.ret (decide_eq_true hw).symm
    · exact RB.ret (decide_eq_false fun ⟨w, q1, q2, q3⟩ => ht w q1 q2 q3).symm
end
open Classical in
theorem cyc_same {n N : Nat} {l : mdl_Locks} {r : RK} (hI : Inv N l) (h : Rel n l r) (hN : N ≤ 400) (hn : n ≤ 900) : ∃ b, mdl_Locks_Cycle l = some b ∧ registrarref21_Locks_Cycle r = some b := by
  have hB : ∀ w, ∃ b, mdl_Locks_Blockers l w = some b := by
    intro w
    rcases hI.blockers hN w with ⟨_, e⟩ | ⟨_, _, _, _, r, _, _, e, _⟩ <;> exact ⟨_, e⟩
  have hbl0 : ∀ w, mdl_Locks_Blockers l w = some ((mdl_Locks_Blockers l w).getD []) := by
    intro w
    obtain ⟨b, hb⟩ := hB w
    rw [hb]
    rfl
  generalize hbd : (fun w => (mdl_Locks_Blockers l w).getD []) = bl
  have hbl1 : ∀ w, mdl_Locks_Blockers l w = some (bl w) := fun w => by rw [← hbd]; exact hbl0 w
  have hb : ∀ k, ∀ b ∈ bl k, 1 ≤ b ∧ b ≤ 8 := by
    intro k b hbk
    rcases hI.blockers hN k with ⟨_, e⟩ | ⟨Q, A, x, B, bs, hq, _, e, _, hm⟩
    · rw [hbl1] at e
      injection e with e
      rw [e] at hbk
      cases hbk
    · rw [hbl1] at e
      injection e with e
      rw [e] at hbk
      rcases (hm b).1 hbk with g | ⟨z, hz, rfl, _⟩
      · obtain ⟨y, hy, rfl⟩ := List.mem_map.1 g
        have := (hI.pl Q).wh y (List.mem_append_right _ (by rw [hq]; simp [hy]))
        exact ⟨this.1, this.2.1⟩
      · have := (hI.pl Q).wh z (List.mem_append_left _ hz)
        exact ⟨this.1, this.2.1⟩
  have hbl : ∀ k, registrarref21_Locks_Blockers r k = some (bl k) := fun k => by rw [h.blockers hI hN hn, hbl1]
  obtain ⟨L, e, h2, h3⟩ := hI.cyc hN
  refine ⟨cycB L, e, ?_⟩
  rw [refcyc_eq hbl hb]
  congr 1
  unfold cycB
  rw [decide_eq_decide]
  constructor
  · rintro ⟨w, hw1, hw2, hw⟩
    refine ⟨[1, 2, 3, 4, 5, 6, 7, (8 : Int)].filter fun x => decide (Rch bl w x ∧ Rch bl x w), fun e => ?_, fun k hk => ?_⟩
    · have : w ∈ ([1, 2, 3, 4, 5, 6, 7, (8 : Int)].filter fun x => decide (Rch bl w x ∧ Rch bl x w)) := List.mem_filter.2 ⟨by simp; omega, decide_eq_true ⟨hw, hw⟩⟩
      rw [e] at this
      cases this
    · obtain ⟨hk1, hk2⟩ := List.mem_filter.1 hk
      obtain ⟨k1, k2⟩ := of_decide_eq_true hk2
      have hkr := k1.range hb
      have hsucc : ∃ y ∈ bl k, Rch bl w y ∧ Rch bl y w := by
        -- the first step from k
        have key : ∀ {a c : Int}, Rch bl a c → ∃ y ∈ bl a, y = c ∨ Rch bl y c := by
          intro a c hac
          induction hac with
          | one g => exact ⟨_, g, .inl rfl⟩
          | step _ g ih =>
            obtain ⟨y, hy, hyx⟩ := ih
            rcases hyx with rfl | hyx
            · exact ⟨y, hy, .inr (.one g)⟩
            · exact ⟨y, hy, .inr (.step hyx g)⟩
        obtain ⟨y, hy, hyw⟩ := key k2
        refine ⟨y, hy, .step k1 hy, ?_⟩
        rcases hyw with rfl | hyw
        · exact hw
        · exact hyw
      obtain ⟨y, hy, y1, y2⟩ := hsucc
      have hyr := hb _ _ hy
      refine ⟨bl k, (h3 k (bl k)).2 ⟨hkr.1, hkr.2, fun e => (by rw [e] at hy; cases hy), hbl1 k⟩, y, hy, List.mem_filter.2 ⟨by simp; omega, decide_eq_true ⟨y1, y2⟩⟩⟩
  · rintro ⟨S, hS, hst⟩
    refine Classical.byContradiction fun hn => ?_
    have hst2 : ∀ k ∈ S, (1 ≤ k ∧ k ≤ 8) ∧ ∃ y ∈ bl k, y ∈ S := by
      intro k hk
      obtain ⟨b, hbL, y, hy, hyS⟩ := hst k hk
      obtain ⟨q1, q2, _, q4⟩ := (h3 k b).1 hbL
      rw [hbl1] at q4
      injection q4 with q4
      exact ⟨⟨q1, q2⟩, y, by rw [q4]; exact hy, hyS⟩
    have hirr : ∀ x, ¬ (Rch bl x x ∧ (1 ≤ x ∧ x ≤ 8)) := fun x hx => hn ⟨x, hx.2.1, hx.2.2, hx.1⟩
    obtain ⟨k, hk, hm⟩ := max_of (R := fun a b => Rch bl a b ∧ (1 ≤ a ∧ a ≤ 8)) hirr (fun x y z h1 h2 => ⟨h1.1.trans h2.1, h1.2⟩) S hS
    obtain ⟨hkr, y, hy, hyS⟩ := hst2 k hk
    exact hm y hyS ⟨.one hy, hkr⟩
/-! ### All together -/
theorem numbers_same (xs : List Int) : registrarlaw21_numbers xs xs = some true := by
  refine Ret.eq ?_
  unfold registrarlaw21_numbers
  refine RB.cond (fun hc => by simp at hc) (fun _ => ?_)
  refine RB.bind (forN_ret (fun _ (_ : Unit) => True) (Q := fun _ => False) trivial ?_) ?_
  · rintro i _ hi _
    have hx : xs[i]? = some xs[i] := List.getElem?_eq_getElem hi
    simp only [idx_nat, hx, Option.bind_some]
    refine RB.cond (fun hc => by simp at hc) (fun _ => RB.ret trivial)
  · rintro (u | t) ht
    · exact RB.ret rfl
    · exact ht.elim
theorem texts_same (xs : List ByteArray) : registrarref12_SameTexts xs xs = some true := by
  refine Ret.eq ?_
  unfold registrarref12_SameTexts
  refine RB.cond (fun hc => by simp at hc) (fun _ => ?_)
  refine RB.bind (forN_ret (fun _ (_ : Unit) => True) (Q := fun _ => False) trivial ?_) ?_
  · rintro i _ hi _
    have hx : xs[i]? = some xs[i] := List.getElem?_eq_getElem hi
    simp only [idx_nat, hx, Option.bind_some]
    refine RB.cond (fun hc => by rw [sEq_self] at hc; cases hc) (fun _ => RB.ret trivial)
  · rintro (u | t) ht
    · exact RB.ret rfl
    · exact ht.elim
theorem needs_same (xs : List api_Need) : registrarref20_Same xs xs = some true := by
  refine Ret.eq ?_
  unfold registrarref20_Same
  refine RB.cond (fun hc => by simp at hc) (fun _ => ?_)
  refine RB.bind (forN_ret (fun _ (_ : Unit) => True) (Q := fun _ => False) trivial ?_) ?_
  · rintro i _ hi _
    have hx : xs[i]? = some xs[i] := List.getElem?_eq_getElem hi
    simp only [idx_nat, hx, Option.bind_some]
    refine RB.cond (fun hc => by rw [sEq_self] at hc; simp at hc) (fun _ => RB.ret trivial)
  · rintro (u | t) ht
    · exact RB.ret rfl
    · exact ht.elim
theorem Inv.holders2 {n : Nat} {l : mdl_Locks} (h : Inv n l) (hN : n ≤ 1000) (k : ByteArray) : ∃ r, mdl_Locks_Holders l k = some r ∧ r.Pairwise (· < ·) ∧ ∀ v, v ∈ r ↔ v ∈ (Pl l k).held.map (·.who) := by
  have hp := h.pl k
  have hnd := hp.nd
  have hl := hp.len
  rw [List.map_append, List.nodup_append] at hnd
  obtain ⟨r, e, hr, hlt⟩ := whos_val hnd.1 (by omega)
  refine ⟨r, ?_, hlt, fun v => hr.mem_iff⟩
  unfold mdl_Locks_Holders mdl_Locks_dead
  simp only [Option.bind_some, pl_eq]
  rw [e]
  rfl
theorem Rel.holders_eq {n N : Nat} {l : mdl_Locks} {r : RK} (hI : Inv N l) (h : Rel n l r) (hN : N ≤ 400) (hn : n ≤ 900) (k : ByteArray) : ∃ v, mdl_Locks_Holders l k = some v ∧ registrarref21_Locks_Holders r k = some v := by
  obtain ⟨a, e1, a1, a2⟩ := hI.holders2 (by omega) k
  obtain ⟨b, e2, b1, b2⟩ := h.holders hI hn k
  have : a = b := int_eq a b a1 b1 fun v => (a2 v).trans (b2 v).symm
  subst this
  exact ⟨a, e1, e2⟩
theorem Rel.paths_eq {n N : Nat} {l : mdl_Locks} {r : RK} (hI : Inv N l) (h : Rel n l r) (hN : N ≤ 400) (hn : n ≤ 900) : ∃ v, mdl_Locks_Paths l = some v ∧ registrarref21_Locks_Paths r = some v := by
  obtain ⟨a, e1, a1, a2⟩ := hI.paths2 (by omega)
  obtain ⟨b, e2, b1, b2⟩ := h.paths hn
  have : a = b := by
    refine key_eq (fun k => k) a b a2 b1 fun k => ?_
    rw [a1.mem_iff, b2]
    constructor
    · intro hk
      obtain ⟨x, hx⟩ := List.exists_mem_of_ne_nil _ (hI.ne k hk)
      exact ⟨mk1 k true x, h.mem.2 (.inl ⟨x, hx, rfl⟩), rfl⟩
    · rintro ⟨e, he, rfl⟩
      rcases h.mem.1 he with ⟨x, hx, _⟩ | ⟨x, hx, _⟩
      · exact key_of (x := x) (.inl hx)
      · exact key_of (x := x) (.inr hx)
  subst this
  exact ⟨a, e1, e2⟩
theorem Rel.holds_eq {n N : Nat} {l : mdl_Locks} {r : RK} (hI : Inv N l) (h : Rel n l r) (hN : N ≤ 400) (hn : n ≤ 900) (w : Int) : ∃ v, mdl_Locks_Holds l w = some v ∧ registrarref21_Locks_Holds r w = some v := by
  obtain ⟨ks, e0, p1, p2⟩ := hI.paths2 (by omega)
  have hkl : ks.length ≤ N := by have h1 := p1.length_eq; have h2 := hI.len; simp at h1; omega
  have e1 := hI.holds2 (by omega) w e0 hkl
  obtain ⟨b, e2, b1, b2⟩ := h.holds hI hn w
  have : ks.filterMap (hf l w) = b := by
    refine key_eq (fun x : api_Need => x.Path) _ b ?_ b1 fun x => ?_
    · refine List.Pairwise.filterMap _ ?_ p2
      intro u v huv b hb c hc
      unfold hf at hb hc
      split at hb
      · split at hc
        · injection hb with hb
          injection hc with hc
          subst hb hc
          exact huv
        · cases hc
      · cases hb
    · rw [b2, List.mem_filterMap]
      constructor
      · rintro ⟨k, hk, hkx⟩
        unfold hf at hkx
        split at hkx
        · rename_i hw
          injection hkx with hkx
          subst hkx
          obtain ⟨y, hy, rfl⟩ := List.mem_map.1 hw
          exact ⟨mk1 k true y, h.mem.2 (.inl ⟨y, hy, rfl⟩), rfl, rfl, by rw [modeOf_mem (hI.pl k).toPre hy]; rfl⟩
        · cases hkx
      · rintro ⟨e, he, hew, heh, rfl⟩
        rcases h.mem.1 he with ⟨y, hy, e1⟩ | ⟨y, hy, e1⟩
        · have hyw : y.who = w := by rw [e1] at hew; exact hew
          refine ⟨e.Path, p1.mem_iff.2 (key_of (x := y) (.inl hy)), ?_⟩
          unfold hf
          rw [if_pos (List.mem_map.2 ⟨y, hy, hyw⟩), ← hyw, modeOf_mem (hI.pl e.Path).toPre hy, e1]
          rfl
        · rw [e1] at heh
          cases heh
  rw [this] at e1
  exact ⟨b, e1, e2⟩
theorem like_true {n N : Nat} {l : mdl_Locks} {r : RK} (hI : Inv N l) (h : Rel n l r) (hN : N ≤ 400) (hn : n ≤ 900) : registrarlaw21_like l r = some true := by
  have hlen := h.len
  refine Ret.eq ?_
  unfold registrarlaw21_like
  obtain ⟨ks, k1, k2⟩ := h.paths_eq hI hN hn
  rw [k1, k2]
  simp only [Option.bind_some, texts_same, Bool.not_true, cond_false]
  obtain ⟨b, b1, b2⟩ := cyc_same hI h hN hn
  rw [b1, b2]
  simp only [Option.bind_some, beq_self_eq_true, Bool.not_true, cond_false]
  refine RB.bind (forN_ret (fun _ (_ : Unit) => True) (Q := fun _ => False) trivial ?_) ?_
  · rintro i _ hi _
    have hx : ks[i]? = some ks[i] := List.getElem?_eq_getElem hi
    simp only [idx_nat, hx, Option.bind_some]
    obtain ⟨v, v1, v2⟩ := h.holders_eq hI hN hn ks[i]
    rw [v1, v2]
    simp only [Option.bind_some, numbers_same, Bool.not_true, cond_false]
    rw [hI.waiters (by omega), queue_eq (by omega) (h.eq _)]
    simp only [Option.bind_some, numbers_same, Bool.not_true, cond_false]
    exact RB.ret trivial
  · rintro (u | t) ht
    · simp only
      refine RB.bind (forN_ret (fun _ (_ : Unit) => True) (Q := fun _ => False) trivial ?_) ?_
      · rintro i _ hi _
        rw [h.waits hI]
        obtain ⟨⟨m, is⟩, hm⟩ : ∃ v, mdl_Locks_Waits l (i : Int) = some v := by rcases hI.waits (i : Int) with ⟨_, e⟩ | ⟨_, _, _, _, _, _, _, e⟩ <;> exact ⟨_, e⟩
        rw [hm]
        simp only [Option.bind_some, sEq_self, beq_self_eq_true, Bool.and_self, Bool.not_true, Bool.or_self, cond_false]
        obtain ⟨v, v1, v2⟩ := h.holds_eq hI hN hn (i : Int)
        rw [v1, v2]
        simp only [Option.bind_some, needs_same, Bool.not_true, cond_false]
        obtain ⟨bs, hbs⟩ : ∃ v, mdl_Locks_Blockers l (i : Int) = some v := by rcases hI.blockers hN (i : Int) with ⟨_, e⟩ | ⟨_, _, _, _, _, _, _, e, _⟩ <;> exact ⟨_, e⟩
        rw [h.blockers hI hN hn, hbs]
        simp only [Option.bind_some, numbers_same, Bool.not_true, cond_false]
        exact RB.ret trivial
      · rintro (u | t) ht
        · exact RB.ret rfl
        · exact ht.elim
    · exact ht.elim
theorem rel_new (n : Nat) : Rel n ⟨[]⟩ ⟨[]⟩ := ⟨fun k => by rw [pl_none (by simp)]; rfl, by simp⟩
theorem plays_true (l : List registrarlaw21_Act) (hl : l.length ≤ maxLen ∧ ∀ x ∈ l, wf_registrarlaw21_Act x) : registrarlaw21_MdlPlays l = some true := by
  unfold registrarlaw21_MdlPlays
  rw [show mdl_New = some ⟨[]⟩ from rfl]
  simp only [Option.bind_some, works_eq]
  refine Ret.eq (RB.bind (R := fun t => match t with | .inl s => s.1 = true | .inr s => Inv 60 s.2 ∧ Rel 60 s.2 s.1) (loopO_rb (fun (s : Int × RK × mdl_Locks) => 0 ≤ s.1 ∧ s.1 ≤ 60 ∧ Inv s.1.toNat s.2.2 ∧ Rel s.1.toNat s.2.2 s.2.1) (fun s => (60 - s.1).toNat) ?_ ⟨by simp, by simp, inv_new _, rel_new _⟩) ?_)
  · rintro ⟨k, y, x⟩ ⟨h0, h1, hI, hR⟩
    simp only at h0 h1 hI hR
    refine RB.cond (fun hc => ?_) (fun _ => RB.ret ⟨hI.mono (by omega), hR.eq, by have := hR.len; simp only; omega⟩)
    simp only [Bool.and_eq_true, decide_eq_true_eq] at hc
    obtain ⟨a, ha, _⟩ := idx_lt h0 hc.1
    simp only [ha, Option.bind_some, long_eq]
    refine RB.cond (fun _ => RB.ret rfl) (fun hlong => ?_)
    have hsz : a.Path.size ≤ 100 := by simp at hlong; omega
    obtain ⟨x', y', e1, hI', hR'⟩ := done_eq hI hR (by omega) a hsz
    rw [e1]
    simp only [Option.bind_some, Bool.not_true, cond_false]
    have hw : w64 (k + 1) = k + 1 := w64_id (by omega) (by omega)
    refine RB.bind (R := fun b => b = false) ?_ ?_
    · refine RB.bind (R := fun b => b = false) (RB.cond (fun _ => ?_) (fun _ => RB.ret rfl)) (fun _ hb => RB.ret hb)
      rw [like_true hI' hR' (by omega) (by omega)]
      exact RB.ret rfl
    rintro b rfl
    refine RB.ret ⟨⟨by simp only; omega, by simp only; omega, ?_, ?_⟩, by simp only; omega⟩
    · simp only [hw]
      rw [show (k + 1).toNat = k.toNat + 1 by omega]
      exact hI'
    · simp only [hw]
      rw [show (k + 1).toNat = k.toNat + 1 by omega]
      exact hR'
  · rintro (⟨b, y, x⟩ | ⟨y, x⟩) h
    · simp only at h
      subst h
      exact RB.ret rfl
    · simp only at h ⊢
      rw [like_true h.1 h.2 (by omega) (by omega)]
      exact RB.ret rfl
end Go.Proofs.Ytdmefifamlpbiaa
