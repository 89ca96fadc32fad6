/- Locks: who holds, who waits. Conditions: none. -/
import Derived.Test.YtdmefifamlpbiaaMoves
namespace Go.Proofs.Ytdmefifamlpbiaa
open Go.Gv
theorem rangeO_one {κ ν σ τ : Type} {step : κ → ν → σ → Option (σ ⊕ τ)} {l : List (κ × ν)} {s : σ} {r : σ ⊕ τ} (h1 : l.length ≤ 1) (h : foldR step l s = some r) : rangeO step l s = some r := by
  refine rangeO_some.2 fun l' hl' => ?_
  match l, h1, hl' with
  | [], _, hl' => rw [List.perm_nil.1 hl']; exact h
  | [x], _, hl' => rw [List.perm_singleton.1 hl']; exact h
abbrev tt : ByteArray := ⟨#[116]⟩
abbrev lk (h q : List One) : mdl_Locks := ⟨[(tt, ⟨h, q⟩)]⟩
theorem ask1 : mdl_Locks_Ask ⟨[]⟩ 1 ⟨tt, 3⟩ = some (true, 0, lk [⟨1, 3⟩] []) := by
  have e : mdl_Locks_Waits ⟨[]⟩ 1 = some (z_api_Need, false) := by unfold mdl_Locks_Waits; rw [rangeO_one (by simp) (r := .inl z_api_Need) rfl]; rfl
  unfold mdl_Locks_Ask
  rw [e]
  show _ = _
  kernel_rfl
theorem ask2 : mdl_Locks_Ask (lk [⟨1, 3⟩] []) 2 ⟨tt, 4⟩ = some (false, 0, lk [⟨1, 3⟩] [⟨2, 4⟩]) := by
  have e : mdl_Locks_Waits (lk [⟨1, 3⟩] []) 2 = some (z_api_Need, false) := by unfold mdl_Locks_Waits; rw [rangeO_one (by simp) (r := .inl z_api_Need) rfl]; rfl
  unfold mdl_Locks_Ask
  rw [e]
  show _ = _
  kernel_rfl
theorem ask3 : mdl_Locks_Ask (lk [⟨1, 3⟩] [⟨2, 4⟩]) 3 ⟨tt, 3⟩ = some (false, 0, lk [⟨1, 3⟩] [⟨2, 4⟩, ⟨3, 3⟩]) := by
  have e : mdl_Locks_Waits (lk [⟨1, 3⟩] [⟨2, 4⟩]) 3 = some (z_api_Need, false) := by unfold mdl_Locks_Waits; rw [rangeO_one (by simp) (r := .inl z_api_Need) rfl]; rfl
  unfold mdl_Locks_Ask
  rw [e]
  show _ = _
  kernel_rfl
theorem whos1 : mdl_whos [⟨2, 4⟩] = some [2] := by
  have s1 : sortIO [2] = some [2] := by unfold sortIO sortI; simp
  unfold mdl_whos
  rw [show (forE (fun (i5 : Nat) => fun (s4 : List Int) => (idx [(⟨2, 4⟩ : One)] (i5 : Int)).bind (fun (x14 : mdl_one) => (app 8 s4 ([x14.who] : List Int)).bind (fun (x29 : List Int) => some x29))) [(⟨2, 4⟩ : One)].length 0 ([] : List Int)) = some [2] from rfl]
  simp only [Option.bind_some, s1]
  rfl
theorem block1 : mdl_Locks_Blockers (lk [⟨1, 3⟩] [⟨2, 4⟩, ⟨3, 3⟩]) 3 = some [2] := by
  have e : mdl_Locks_Waits (lk [⟨1, 3⟩] [⟨2, 4⟩, ⟨3, 3⟩]) 3 = some (⟨tt, 3⟩, true) := by unfold mdl_Locks_Waits; rw [rangeO_one (by simp) (r := .inr (true, ⟨tt, 3⟩)) rfl]; rfl
  unfold mdl_Locks_Blockers
  rw [e]
  simp only [Option.bind_some, Bool.not_true, cond_false]
  rw [show (mget sEq (lk [⟨1, 3⟩] [⟨2, 4⟩, ⟨3, 3⟩]).at_ tt).getD z_mdl_place = ⟨[⟨1, 3⟩], [⟨2, 4⟩, ⟨3, 3⟩]⟩ from by kernel_rfl]
  rw [show mdl_find [⟨2, 4⟩, ⟨3, 3⟩] 3 = some 1 from rfl]
  simp only [Option.bind_some]
  rw [show sub [(⟨2, 4⟩ : One), ⟨3, 3⟩] 0 1 = some [⟨2, 4⟩] from rfl]
  simp only [Option.bind_some]
  rw [show slices_Clone_mdl_one [⟨2, 4⟩] = some [⟨2, 4⟩] from rfl]
  simp only [Option.bind_some]
  refine (congrArg (fun (m : Option (List One)) => m.bind fun s44 => (mdl_whos s44).bind fun r => some r) (?_ : _ = some [⟨2, 4⟩])).trans ?_
  · rfl
  · simp only [Option.bind_some, whos1]
theorem works_eq : registrarlaw21_works = some true := by
  unfold registrarlaw21_works
  rw [show mdl_New = some ⟨[]⟩ from rfl]
  simp only [Option.bind_some, ask1, ask2, ask3, block1]
  rfl
def modeOf (p : Place) (w : Int) : Int := ((p.held.find? fun x => x.who == w).map (·.mode)).getD 0
theorem modeOf_mem {n : Nat} {p : Place} (h : Pre n p) {x : One} (hx : x ∈ p.held) : modeOf p x.who = x.mode := by
  unfold modeOf
  obtain ⟨A, B, e⟩ := List.append_of_mem hx
  have hnd := h.nd
  rw [List.map_append, List.nodup_append] at hnd
  have hnd := hnd.1
  rw [e, List.map_append, List.map_cons, List.nodup_append] at hnd
  rw [e, List.find?_append]
  have : A.find? (fun y => y.who == x.who) = none := by
    rw [List.find?_eq_none]
    intro y hy he
    exact hnd.2.2 y.who (List.mem_map.2 ⟨y, hy, rfl⟩) x.who (List.mem_cons_self ..) (by simpa using he)
  rw [this]
  simp
theorem modeOf_no {p : Place} {w : Int} (h : w ∉ p.held.map (·.who)) : modeOf p w = 0 := by
  unfold modeOf
  rw [List.find?_eq_none.2]
  · rfl
  · intro x hx e
    exact h (List.mem_map.2 ⟨x, hx, by simpa using e⟩)
theorem Inv.holds {n : Nat} {l : mdl_Locks} (h : Inv n l) (hN : n ≤ 1000) (w : Int) : ∃ r, mdl_Locks_Holds l w = some r ∧ r.length ≤ n ∧ (∀ x ∈ r, w ∈ (Pl l x.Path).held.map (·.who) ∧ x.Mode = modeOf (Pl l x.Path) w) ∧ ∀ k, w ∈ (Pl l k).held.map (·.who) → ∃ x ∈ r, x.Path = k := by
  refine Ret.ex ?_
  unfold mdl_Locks_Holds mdl_Locks_dead
  simp only [Option.bind_some]
  obtain ⟨ks, e, hp⟩ := h.paths hN
  rw [e]
  simp only [Option.bind_some]
  have hl : ks.length ≤ n := by have h1 := hp.length_eq; have h2 := h.len; simp at h1; omega
  refine RB.bind (R := fun r => r.length ≤ ks.length ∧ (∀ x ∈ r, w ∈ (Pl l x.Path).held.map (·.who) ∧ x.Mode = modeOf (Pl l x.Path) w) ∧ ∀ k ∈ ks.take ks.length, w ∈ (Pl l k).held.map (·.who) → ∃ x ∈ r, x.Path = k) (forE_ret (fun i (r : List api_Need) => r.length ≤ i ∧ (∀ x ∈ r, w ∈ (Pl l x.Path).held.map (·.who) ∧ x.Mode = modeOf (Pl l x.Path) w) ∧ ∀ k ∈ ks.take i, w ∈ (Pl l k).held.map (·.who) → ∃ x ∈ r, x.Path = k) ⟨by simp, by simp, by simp⟩ ?_) ?_
  · rintro i r hi ⟨h1, h2, h3⟩
    have hx : ks[i]? = some ks[i] := List.getElem?_eq_getElem hi
    simp only [idx_nat, hx, Option.bind_some, pl_eq]
    rcases find_spec (Pl l ks[i]).held w with ⟨hno, e⟩ | ⟨A, x, B, hx1, hx2, hx3, e⟩
    · rw [e]
      refine RB.ret ⟨by omega, h2, fun k hk hm => ?_⟩
      rw [take_snoc hx, List.mem_append, List.mem_singleton] at hk
      rcases hk with hk | rfl
      · exact h3 k hk hm
      · obtain ⟨y, hy, e⟩ := List.mem_map.1 hm
        exact absurd e (hno y hy)
    · rw [e]
      simp only [Option.bind_some]
      rw [show decide ((A.length : Int) ≥ 0) = true by simp]
      simp only [cond_true]
      have hxm : x ∈ (Pl l ks[i]).held := by rw [hx1]; simp
      have e2 : idx (Pl l ks[i]).held (A.length : Int) = some x := by rw [hx1]; exact at_len
      rw [e2]
      simp only [Option.bind_some]
      rw [app_le (by simp; omega)]
      refine RB.ret ⟨by simp; omega, fun y hy => ?_, fun k hk hm => ?_⟩
      · rw [List.mem_append, List.mem_singleton] at hy
        rcases hy with hy | rfl
        · exact h2 y hy
        · refine ⟨List.mem_map.2 ⟨x, hxm, hx2⟩, ?_⟩
          simp only
          rw [← hx2, modeOf_mem (h.pl ks[i]).toPre hxm]
      · rw [take_snoc hx, List.mem_append, List.mem_singleton] at hk
        rcases hk with hk | rfl
        · obtain ⟨y, hy, e⟩ := h3 k hk hm
          exact ⟨y, List.mem_append_left _ hy, e⟩
        · exact ⟨⟨ks[i], x.mode⟩, by simp, rfl⟩
  · rintro r ⟨h1, h2, h3⟩
    refine RB.ret ⟨by omega, h2, fun k hm => h3 k ?_ hm⟩
    rw [List.take_length]
    obtain ⟨y, hy, _⟩ := List.mem_map.1 hm
    exact hp.mem_iff.2 (key_of (x := y) (.inl hy))
theorem Inv.waiters {n : Nat} {l : mdl_Locks} (h : Inv n l) (hN : n ≤ 1000) (k : ByteArray) : mdl_Locks_Waiters l k = some ((Pl l k).queue.map (·.who)) := by
  unfold mdl_Locks_Waiters mdl_Locks_dead
  simp only [Option.bind_some, pl_eq]
  have hl := (h.pl k).len
  refine Ret.eq (RB.bind (R := fun s => s = ((Pl l k).queue.take (Pl l k).queue.length).map (·.who)) (forE_ret (fun i s => s = ((Pl l k).queue.take i).map (·.who)) (by simp) ?_) ?_)
  · rintro i s hi rfl
    have hx : (Pl l k).queue[i]? = some (Pl l k).queue[i] := List.getElem?_eq_getElem hi
    simp only [idx_nat, hx, Option.bind_some]
    rw [app_le (by simp; omega)]
    refine RB.ret ?_
    rw [take_snoc hx, List.map_append]
    rfl
  · rintro s rfl
    refine RB.ret ?_
    rw [List.take_length]
end Go.Proofs.Ytdmefifamlpbiaa
