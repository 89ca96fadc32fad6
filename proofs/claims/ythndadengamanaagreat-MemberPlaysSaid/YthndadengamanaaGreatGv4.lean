/- The order in which a region's operations may be carried out: each is a rearrangement of the text's. Conditions: none. -/
import Derived.Test.YthndadengamanaaGreatGv3
namespace Go.Gv
open Go

section
variable {ops : Array Oper}
def Clo (ops : Array Oper) (acc : List Nat) : Prop := ∀ x ∈ acc, ∀ o, ops[x]? = some o → ∀ e ∈ aft o, e.on ∈ acc
theorem ordered_snoc {acc : List Nat} {i : Nat} (h : Ordered ops acc.reverse) (hc : Clo ops acc) (hi : i ∉ acc) : Ordered ops (i :: acc).reverse := by
  rw [List.reverse_cons]
  intro l1 m l2 e x hx o ho ed hed
  rcases List.append_eq_append_iff.1 e with ⟨c, hc1, hc2⟩ | ⟨c, hc1, hc2⟩
  · -- m stands behind acc.reverse
    cases c with
    | nil =>
      simp only [List.append_nil] at hc1
      simp only [List.nil_append, List.cons.injEq] at hc2
      obtain ⟨rfl, _⟩ := hc2
      rintro rfl
      have hxm : x ∈ acc := by rw [hc1] at hx; simpa using hx
      exact hi (hc x hxm o ho ed hed)
    | cons z c =>
      simp only [List.cons_append, List.cons.injEq] at hc2
      have := congrArg List.length hc2.2
      simp at this
  · cases c with
    | nil =>
      simp only [List.append_nil] at hc1
      simp only [List.nil_append, List.cons.injEq] at hc2
      obtain ⟨rfl, _⟩ := hc2
      rintro rfl
      have hxm : x ∈ acc := by rw [← hc1] at hx; simpa using hx
      exact hi (hc x hxm o ho ed hed)
    | cons z c =>
      simp only [List.cons_append, List.cons.injEq] at hc2
      obtain ⟨rfl, hc2⟩ := hc2
      exact h l1 m c hc1 x hx o ho ed hed

/-- Every operation waits for earlier ones alone, and nothing departs. -/
def backward (ops : Array Oper) : Bool :=
  (List.range ops.size).all fun i => match ops[i]? with
    | some o => o.after.toList.all fun e => Nat.blt e.on i && Region.binds .any e
    | none => true

theorem binds_all {e : Edge} (h : Region.binds .any e = true) (m : Region.Mode) : Region.binds m e = true := by
  unfold Region.binds at h ⊢
  split <;> simp_all
theorem filter_pos {n : Nat} {p : Nat → Bool} {i : Nat} (hi : i < n) (hp : p i = true) (t : Nat) : ∃ j, ((List.range n).filter p)[t % ((List.range n).filter p).length]? = some j ∧ j < n ∧ p j = true := by
  have hmem : i ∈ (List.range n).filter p := List.mem_filter.2 ⟨List.mem_range.2 hi, hp⟩
  have hpos : 0 < ((List.range n).filter p).length := List.length_pos_of_mem hmem
  have hlt := Nat.mod_lt t hpos
  refine ⟨((List.range n).filter p)[t % ((List.range n).filter p).length], by simp [hlt], ?_⟩
  have hm := List.getElem_mem hlt
  have := List.mem_filter.1 hm
  exact ⟨List.mem_range.1 this.1, this.2⟩

theorem exists_unlisted {n : Nat} {acc : List Nat} (hn : acc.length < n) (hnd : acc.Nodup) : ∃ i, i < n ∧ i ∉ acc ∧ ∀ j, j < i → j ∈ acc := by
  have hex : ∃ i, i < n ∧ i ∉ acc := by
    by_cases h : ∃ i, i < n ∧ i ∉ acc
    · exact h
    · exfalso
      have hsub : ∀ i, i ∈ List.range n → i ∈ acc := by
        intro i hi
        by_cases hm : i ∈ acc
        · exact hm
        · exact absurd ⟨i, List.mem_range.1 hi, hm⟩ h
      have := (List.nodup_range (n := n)).length_le_of_subset hsub
      simp at this
      omega
  obtain ⟨i, ⟨h1, h2⟩, h3⟩ := least_ex hex
  refine ⟨i, h1, h2, fun j hj => ?_⟩
  by_cases hm : j ∈ acc
  · exact hm
  · have := h3 j ⟨by omega, hm⟩
    omega

/-- Whatever is listed, something may come next. -/
def Prog (m : Region.Mode) (ops : Array Oper) : Prop := ∀ acc : List Nat, acc.length < ops.size → acc.Nodup → ∃ i, i < ops.size ∧ i ∉ acc ∧ ∀ o, ops[i]? = some o → ∀ e ∈ o.after.toList, Region.binds m e = true → e.on ∈ acc ∧ e.on < ops.size
theorem go_ok {md : Region.Mode} (hb : Prog md ops) (hin : ∀ (i : Nat) (o : Oper), ops[i]? = some o → ∀ e ∈ o.after.toList, e.on < ops.size) : ∀ (fuel t : Nat) (listed : Array Bool) (acc : List Nat),
    (∀ i, i < ops.size → (listed.getD i true = true ↔ i ∈ acc)) → (∀ i, i < ops.size → (listed.getD i false = true ↔ i ∈ acc)) → (∀ i ∈ acc, i < ops.size) → acc.Nodup → acc.length + fuel = ops.size → listed.size = ops.size →
    Ordered ops acc.reverse → Clo ops acc →
    let l := Region.linearise.go md ops fuel t listed acc
    (List.range ops.size).Perm l ∧ Ordered ops l
  | 0, t, listed, acc, _, _, hlt, hnd, hlen, _, hord, _ => by
    simp only [Region.linearise.go]
    refine ⟨?_, hord⟩
    refine (List.perm_ext_iff_of_nodup List.nodup_range (List.pairwise_reverse.2 (hnd.imp fun h => h.symm))).2 fun i => ?_
    rw [List.mem_range, List.mem_reverse]
    refine ⟨fun hi => ?_, hlt i⟩
    by_cases hm : i ∈ acc
    · exact hm
    · have hsub : (i :: acc) ⊆ List.range ops.size := by
        intro k hk
        rw [List.mem_range]
        cases hk with
        | head => exact hi
        | tail _ h => exact hlt k h
      have := (List.nodup_cons.2 ⟨hm, hnd⟩).length_le_of_subset hsub
      simp at this
      omega
  | fuel + 1, t, listed, acc, hl, hl', hlt, hnd, hlen, hsz, hord, hclo => by
    obtain ⟨i, hi1, hi2, hi3⟩ := hb acc (by omega) hnd
    simp only [Region.linearise.go]
    have hp : ((fun i => !listed.getD i true && ((ops[i]?).map (·.after.all fun e => !Region.binds md e || listed.getD e.on false)).getD false) i) = true := by
      simp only [Bool.and_eq_true, Bool.not_eq_true']
      refine ⟨?_, ?_⟩
      · cases hx : listed.getD i true with
        | false => rfl
        | true => exact absurd ((hl i hi1).1 hx) hi2
      · rw [Array.getElem?_eq_getElem hi1]
        simp only [Option.map_some, Option.getD_some]
        rw [Array.all_eq_true]
        intro k hk
        cases hbd : Region.binds md (ops[i].after[k]) with
        | false => rfl
        | true =>
          have hb2 := hi3 ops[i] (Array.getElem?_eq_getElem hi1) (ops[i].after[k]) (by simp) hbd
          simp only [Bool.not_true, Bool.false_or]
          exact (hl' _ hb2.2).2 hb2.1
    obtain ⟨j, hj, hjn, hjp⟩ := filter_pos (p := fun i => !listed.getD i true && ((ops[i]?).map (·.after.all fun e => !Region.binds md e || listed.getD e.on false)).getD false) hi1 hp t
    rw [hj]
    simp only
    simp only [Bool.and_eq_true, Bool.not_eq_true'] at hjp
    have hjacc : j ∉ acc := by
      intro hm
      have := (hl j hjn).2 hm
      rw [hjp.1] at this
      cases this
    refine go_ok hb hin fuel _ _ _ ?_ ?_ ?_ ?_ ?_ ?_ ?_ ?_
    · intro k hk
      rw [Array.getD_eq_getD_getElem?, Array.getElem?_setIfInBounds]
      by_cases e : j = k
      · subst e; simp [hsz, hk]
      · rw [if_neg e, ← Array.getD_eq_getD_getElem?, hl k hk]
        exact ⟨List.mem_cons_of_mem _, fun h => (List.mem_cons.1 h).resolve_left fun x => e x.symm⟩
    · intro k hk
      rw [Array.getD_eq_getD_getElem?, Array.getElem?_setIfInBounds]
      by_cases e : j = k
      · subst e; simp [hsz, hk]
      · rw [if_neg e, ← Array.getD_eq_getD_getElem?, hl' k hk]
        exact ⟨List.mem_cons_of_mem _, fun h => (List.mem_cons.1 h).resolve_left fun x => e x.symm⟩
    · intro k hk
      cases hk with
      | head => exact hjn
      | tail _ hm => exact hlt k hm
    · exact List.nodup_cons.2 ⟨hjacc, hnd⟩
    · simp; omega
    · simp [hsz]
    · exact ordered_snoc hord hclo hjacc
    · intro x hx o ho e he
      cases hx with
      | head =>
        rw [Array.getElem?_eq_getElem hjn] at hjp ho
        simp only [Option.map_some, Option.getD_some] at hjp
        injection ho with ho
        subst ho
        rw [Array.all_eq_true] at hjp
        obtain ⟨he, hbd⟩ := List.mem_filter.1 he
        have hlt := hin j ops[j] (Array.getElem?_eq_getElem hjn) e he
        obtain ⟨k, hk, rfl⟩ := List.mem_iff_getElem.1 he
        have h1 := hjp.2 k (by simpa using hk)
        simp only [Array.getElem_toList] at hbd hlt ⊢
        rw [binds_all hbd md] at h1
        simp only [Bool.not_true, Bool.false_or] at h1
        exact List.mem_cons_of_mem _ ((hl' _ hlt).1 h1)
      | tail _ hm => exact List.mem_cons_of_mem _ (hclo x hm o ho e he)

theorem linearise_ok {md : Region.Mode} (hb : Prog md ops) (hin : ∀ (i : Nat) (o : Oper), ops[i]? = some o → ∀ e ∈ o.after.toList, e.on < ops.size) (t : Nat) : (List.range ops.size).Perm (Region.linearise md ops t) ∧ Ordered ops (Region.linearise md ops t) := by
  unfold Region.linearise
  refine go_ok hb hin ops.size t _ [] ?_ ?_ ?_ ?_ ?_ ?_ ?_ ?_
  · intro i hi; simp [hi]
  · intro i hi; simp [hi]
  · intro i hi; cases hi
  · exact List.nodup_nil
  · simp
  · simp
  · intro l1 m l2 e; simp at e
  · intro x hx; cases hx
/-- Every order in which the operations may be carried out is a right one. -/
def Sched (ops : Array Oper) : Prop := ∀ mixed t, (List.range ops.size).Perm (Region.schedule mixed ops t) ∧ Ordered ops (Region.schedule mixed ops t)
theorem back_of (hb : backward ops = true) : ∀ (i : Nat) (o : Oper), ops[i]? = some o → ∀ e ∈ o.after.toList, e.on < i ∧ Region.binds .any e = true := by
  intro i o ho e he
  have hi : i < ops.size := (Array.getElem?_eq_some_iff.1 ho).1
  unfold backward at hb
  have h1 := List.all_eq_true.1 hb i (List.mem_range.2 hi)
  rw [ho] at h1
  have h2 := List.all_eq_true.1 h1 e he
  simp only [Bool.and_eq_true] at h2
  exact ⟨Nat.le_of_ble_eq_true h2.1, h2.2⟩
theorem departs_no (hb : backward ops = true) : Region.departs ops = false := by
  unfold Region.departs
  rw [Array.any_eq_false]
  intro i hi
  simp only [Bool.not_eq_true]
  rw [Array.any_eq_false]
  intro k hk
  have := back_of hb i ops[i] (Array.getElem?_eq_getElem hi) (ops[i].after[k]) (by simp)
  simp [this.2]
theorem Sched.back (hb : backward ops = true) : Sched ops := by
  intro mixed t
  unfold Region.schedule
  rw [departs_no hb]
  simp only [Bool.not_false, Bool.or_true, if_true]
  have hback := back_of hb
  refine linearise_ok ?_ (fun i o ho e he => ?_) t
  · intro acc hlen hnd
    obtain ⟨i, h1, h2, h3⟩ := exists_unlisted hlen hnd
    refine ⟨i, h1, h2, fun o ho e he _ => ?_⟩
    have := (hback i o ho e he).1
    exact ⟨h3 _ this, by omega⟩
  · have := (hback i o ho e he).1
    have := (Array.getElem?_eq_some_iff.1 ho).1
    omega
/-- A list in which each operation comes behind those for which it waits. -/
def okOrd (md : Region.Mode) (ops : Array Oper) : List Nat → List Nat → Bool
  | _, [] => true
  | seen, x :: r => (match ops[x]? with
    | some o => o.after.toList.all fun e => Nat.blt e.on ops.size && (!Region.binds md e || seen.any (Nat.beq e.on))
    | none => false) && okOrd md ops (x :: seen) r
theorem prog_of {md : Region.Mode} : ∀ (ord seen acc : List Nat), okOrd md ops seen ord = true → (∀ x ∈ seen, x ∈ acc) → (∃ x ∈ ord, x ∉ acc) →
    ∃ i, i < ops.size ∧ i ∉ acc ∧ ∀ o, ops[i]? = some o → ∀ e ∈ o.after.toList, Region.binds md e = true → e.on ∈ acc ∧ e.on < ops.size
  | [], seen, acc, h, hs, hx => by obtain ⟨x, hx, _⟩ := hx; cases hx
  | y :: r, seen, acc, h, hs, hx => by
    simp only [okOrd, Bool.and_eq_true] at h
    by_cases hy : y ∈ acc
    · refine prog_of r (y :: seen) acc h.2 (fun x hx => ?_) ?_
      · rcases List.mem_cons.1 hx with rfl | h
        · exact hy
        · exact hs x h
      · obtain ⟨x, hx, hn⟩ := hx
        rcases List.mem_cons.1 hx with rfl | h
        · exact absurd hy hn
        · exact ⟨x, h, hn⟩
    · cases ho : ops[y]? with
      | none => rw [ho] at h; simp at h
      | some o =>
        refine ⟨y, (Array.getElem?_eq_some_iff.1 ho).1, hy, fun o' ho' e he hbd => ?_⟩
        rw [ho'] at ho
        injection ho with ho
        subst ho
        rw [ho'] at h
        have := List.all_eq_true.1 h.1 e he
        simp only [hbd, Bool.not_true, Bool.false_or, Bool.and_eq_true] at this
        obtain ⟨h1, h2⟩ := this
        obtain ⟨x, hx, h3⟩ := List.any_eq_true.1 h2
        rw [Nat.eq_of_beq_eq_true h3]
        refine ⟨hs x hx, ?_⟩
        rw [← Nat.eq_of_beq_eq_true h3]
        exact Nat.le_of_ble_eq_true h1
def allIn (n : Nat) (ord : List Nat) : Bool := (List.range n).all fun i => ord.any (Nat.beq i)
theorem prog_ord {md : Region.Mode} {ord : List Nat} (h : okOrd md ops [] ord = true) (ha : allIn ops.size ord = true) : Prog md ops := by
  intro acc hlen hnd
  refine prog_of ord [] acc h (fun x hx => by cases hx) ?_
  obtain ⟨i, h1, h2, _⟩ := exists_unlisted hlen hnd
  have := List.all_eq_true.1 ha i (List.mem_range.2 h1)
  obtain ⟨x, hx, h3⟩ := List.any_eq_true.1 this
  rw [Nat.eq_of_beq_eq_true h3] at h2
  exact ⟨x, hx, h2⟩
theorem in_ord {md : Region.Mode} : ∀ (ord seen : List Nat), okOrd md ops seen ord = true → ∀ x ∈ ord, ∀ o, ops[x]? = some o → ∀ e ∈ o.after.toList, e.on < ops.size
  | [], _, _, x, hx, _, _, _, _ => by cases hx
  | y :: r, seen, h, x, hx, o, ho, e, he => by
    simp only [okOrd, Bool.and_eq_true] at h
    rcases List.mem_cons.1 hx with rfl | hx
    · rw [ho] at h
      have := List.all_eq_true.1 h.1 e he
      simp only [Bool.and_eq_true] at this
      exact Nat.le_of_ble_eq_true this.1
    · exact in_ord r _ h.2 x hx o ho e he
/-- Where what comes first is not the same for all. -/
theorem Sched.ords (o1 o2 : List Nat) (h0 : okOrd .any ops [] o1 = true) (h1 : okOrd .text ops [] o1 = true) (h2 : okOrd .gc ops [] o2 = true) (a1 : allIn ops.size o1 = true) (a2 : allIn ops.size o2 = true) : Sched ops := by
  intro mixed t
  have hin : ∀ (i : Nat) (o : Oper), ops[i]? = some o → ∀ e ∈ o.after.toList, e.on < ops.size := by
    intro i o ho e he
    have := List.all_eq_true.1 a1 i (List.mem_range.2 (Array.getElem?_eq_some_iff.1 ho).1)
    obtain ⟨x, hx, h3⟩ := List.any_eq_true.1 this
    rw [← Nat.eq_of_beq_eq_true h3] at hx
    exact in_ord o1 [] h0 i hx o ho e he
  unfold Region.schedule
  split
  · exact linearise_ok (prog_ord h0 a1) hin t
  · split
    · exact linearise_ok (prog_ord h1 a1) hin _
    · exact linearise_ok (prog_ord h2 a2) hin _
/-- Any two operations: the later one waits for the earlier, or they may change places. -/
def passOk (qt : Op → Bool) (z : Nat) (ops : Array Oper) : Bool :=
  (List.range ops.size).all fun x => match ops[x]? with
    | some ox => (List.range x).all fun m => waits ops ops.size x m || mayPass qt z ops m x
    | none => true
theorem passOk_pairs {qt : Op → Bool} {z : Nat} (h : passOk qt z ops = true) :
    (List.range ops.size).Pairwise (fun m x => waits ops ops.size x m = true ∨ mayPass qt z ops m x = true) := by
  have key : ∀ n, n ≤ ops.size → (List.range n).Pairwise (fun m x => waits ops ops.size x m = true ∨ mayPass qt z ops m x = true) := by
    intro n
    induction n with
    | zero => intro _; simp
    | succ n ih =>
      intro hn
      rw [List.range_succ, List.pairwise_append]
      refine ⟨ih (by omega), by simp, fun m hm x hx => ?_⟩
      rw [List.mem_singleton] at hx
      subst hx
      have h1 := List.all_eq_true.1 h x (List.mem_range.2 (by omega))
      rw [Array.getElem?_eq_getElem (by omega)] at h1
      have h2 := List.all_eq_true.1 h1 m hm
      rw [Bool.or_eq_true] at h2
      exact h2
  exact key _ (Nat.le_refl _)
end

/-! ### Walks over a list of operations -/
def KT : World → Prop := fun _ => True
def qF : Op → Bool := fun _ => false
/-- Reads and reckonings. -/
def qR : Op → Bool
  | .move _ | .pick .. | .load .. | .nilCheck _ | .binOp .. | .unOp .. | .convert .. | .fieldAddr .. | .field .. | .indexAddr .. | .index .. | .extract .. | .slice .. | .lookup .. | .makeInterface .. | .makeFunc .. => true
  | .call { callee := .builtin .len, .. } | .call { callee := .builtin .max, .. } | .call { callee := .builtin .min, .. } | .call { callee := .builtin .cap, .. } => true
  | _ => false
def WO (P : Program) (n : Nat) (K : World → Prop) (qt : Op → Bool) (z : Nat) (ops : Array Oper) (Q : Exit → Act → World → Prop) (l : List Nat) (fr : Fr) (w : World) : Prop :=
  K w → ∀ a, Ag n fr a → wpK P K qt z ops Q l a w

section
variable {P : Program} {n : Nat} {K : World → Prop} {qt : Op → Bool} {z : Nat} {ops : Array Oper} {Q : Exit → Act → World → Prop} {fr : Fr} {w : World} {l : List Nat}
theorem W.region {id : Nat} (hl : List.range ops.size = l) (h : WO P n KT qF 0 ops Q l fr w) : W P n (.region id ops false) Q fr w :=
  fun a ha => wp_region (by rw [hl]; exact wpOps_of_wpK l a w (h trivial a ha))
theorem W.draw {id : Nat} (hl : List.range ops.size = l) (z : Nat) (K : World → Prop) (qt : Op → Bool) (hb : Sched ops) (hp : passOk qt z ops = true) (hK : K w.drew)
    (h : WO P n K qt z ops Q l fr w.drew) : W P n (.region id ops true) Q fr w :=
  fun a ha => wp_region_draw fun t => by
    obtain ⟨h1, h2⟩ := hb (P.follows .mixedOrders) t
    exact wpOps_of_wpK _ a w.drew (wpK_sorted _ _ h1 h2 List.pairwise_lt_range (fun m _ x hx y _ h2 => by rw [List.mem_range] at hx ⊢; omega) (passOk_pairs hp) hK (by rw [hl]; exact h hK a ha))
theorem WO.nil (h : En n Q .normal fr w) : WO P n K qt z ops Q [] fr w := fun _ a ha => h a ha
theorem WO.weaken {fr' : Fr} (h : WO P n K qt z ops Q l fr' w) (hs : Sub fr' fr) : WO P n K qt z ops Q l fr w := fun hK a ha => h hK a (ha.weaken hs.lk)
/-- A slot's value by another name. -/
theorem WO.reslot (t : Nat) {u v : Value} (h0 : lk fr t = some u) (e : u = v) (h : WO P n K qt z ops Q l ((t, v) :: fr) w) : WO P n K qt z ops Q l fr w := by
  subst e
  refine fun hK a ha => h hK a (ha.weaken fun i x hx => ?_)
  rw [lk_cons] at hx
  by_cases e : i = t
  · subst e; simp at hx; subst hx; exact h0
  · rwa [if_neg e] at hx

/-! What holds of the world at which an operation may be carried out -/
def Kx (K : World → Prop) (q : Bool) (w w' : World) : Prop := (q = true ∧ K w') ∨ w' = w
def wantedAt (ops : Array Oper) (fr : Fr) (o : Oper) : Bool :=
  match o.guard with
  | none => true
  | some (j, want) => match dstOf ops j with
    | some t => match lk fr t with
      | some (.bool b) => b == want
      | _ => false
    | none => false
def unwantedAt (n : Nat) (ops : Array Oper) (fr : Fr) (o : Oper) : Bool :=
  match o.guard with
  | none => false
  | some (j, want) => match dstOf ops j with
    | some t => Nat.blt t n && (match lk fr t with
      | some (.bool b) => b != want
      | some _ => true
      | none => false)
    | none => true
def okAt (n : Nat) (ops : Array Oper) (fr : Fr) (o : Oper) : Bool := wantedAt ops fr o && hasAll fr (opsOf o.op) && served o.op && fits n o.dst
theorem yielded_at {a : Act} (ha : Ag n fr a) {j t : Nat} {v : Value} (hd : dstOf ops j = some t) (hv : lk fr t = some v) (hne : ∀ b, v = .bool b → True) :
    (match ((ops[j]?).bind (·.dst)).bind (a.tmps[·]?) with | some u => u | none => undef) = v := by
  have e : (ops[j]?).bind (·.dst) = some t := hd
  rw [e]
  have := ha.slots t v hv
  rw [Array.getD_eq_getD_getElem?] at this
  simp only [Option.bind_some]
  cases hx : a.tmps[t]? with
  | none => rw [hx] at this; exact this
  | some u => rw [hx] at this; exact this
theorem wanted_of {a : Act} (ha : Ag n fr a) {o : Oper} (h : wantedAt ops fr o = true) : Region.wanted o (yielded ops a.tmps) = true := by
  unfold wantedAt at h
  unfold Region.wanted
  cases hg : o.guard with
  | none => rfl
  | some p =>
    obtain ⟨j, want⟩ := p
    simp only [hg] at h ⊢
    cases hd : dstOf ops j with
    | none => simp [hd] at h
    | some t =>
      simp only [hd] at h
      cases hv : lk fr t with
      | none => simp [hv] at h
      | some v =>
        have hy := yielded_at ha hd hv (fun _ _ => trivial)
        unfold yielded
        cases v <;> simp [hv] at h
        rename_i b
        cases hx : ((ops[j]?).bind (·.dst)).bind (a.tmps[·]?) with
        | none => rw [hx] at hy; simp [undef] at hy
        | some u => rw [hx] at hy; simp at hy; subst hy; simp [h]
theorem unwanted_of {a : Act} (ha : Ag n fr a) {o : Oper} (h : unwantedAt n ops fr o = true) : Region.wanted o (yielded ops a.tmps) = false := by
  unfold unwantedAt at h
  unfold Region.wanted
  cases hg : o.guard with
  | none => simp [hg] at h
  | some p =>
    obtain ⟨j, want⟩ := p
    simp only [hg] at h ⊢
    unfold yielded
    cases hd : dstOf ops j with
    | none =>
      have e : (ops[j]?).bind (·.dst) = none := hd
      rw [e]; simp
    | some t =>
      simp only [hd, Bool.and_eq_true] at h
      cases hv : lk fr t with
      | none => simp [hv] at h
      | some v =>
        have hy := yielded_at ha hd hv (fun _ _ => trivial)
        cases hx : ((ops[j]?).bind (·.dst)).bind (a.tmps[·]?) with
        | none => simp
        | some u =>
          rw [hx] at hy; simp only at hy; subst hy
          cases u <;> simp [hv] at h ⊢
          · rename_i b; cases b <;> cases want <;> simp_all

theorem Ag.congr {a : Act} (ha : Ag n fr a) {o : Oper} (hs : served o.op = true) (hh : hasAll fr (opsOf o.op) = true) : execOp a.eval o = execOp (Gv.ev fr) o :=
  execOp_congr o hs fun x hx => ha.ev (List.all_eq_true.1 hh x hx)

/-- An operation that leaves the world as it is. -/
theorem WO.val' {i : Nat} {o : Oper} (ho : ops[i]? = some o) (hok : okAt n ops fr o = true) (v : Value)
    (hr : ∀ w', (execOp (ev fr) o).run P w' = .ok (.value v) w') (h : WO P n K qt z ops Q l (pt fr o.dst v) w) : WO P n K qt z ops Q (i :: l) fr w := by
  intro hK a ha
  simp only [okAt, Bool.and_eq_true] at hok
  obtain ⟨⟨⟨hw, hh⟩, hs⟩, hf⟩ := hok
  have e := ha.congr hs hh
  simp only [wpK, ho]
  rw [if_pos (wanted_of ha hw)]
  by_cases hq : (qt o.op && Nat.blt i z) = true
  · rw [if_pos hq]
    exact ⟨v, fun w' _ => by rw [e]; exact hr w', h hK _ (ha.put hf v)⟩
  · rw [if_neg hq]
    unfold effK
    rw [e, hr w]
    exact ⟨.inr hK, h hK _ (ha.put hf v)⟩
theorem WO.val {i : Nat} {o : Oper} (ho : ops[i]? = some o) (hok : okAt n ops fr o = true) (v : Value)
    (hr : ∀ w', Kx K (qt o.op) w w' → (execOp (ev fr) o).run P w' = .ok (.value v) w') (h : WO P n K qt z ops Q l (pt fr o.dst v) w) (hsp : spOp o.op = false := by rfl) : WO P n K qt z ops Q (i :: l) fr w := by
  intro hK a ha
  simp only [okAt, Bool.and_eq_true] at hok
  obtain ⟨⟨⟨hw, hh⟩, hs⟩, hf⟩ := hok
  have e := ha.congr hs hh
  simp only [wpK, ho]
  rw [if_pos (wanted_of ha hw)]
  by_cases hq : (qt o.op && Nat.blt i z) = true
  · rw [if_pos hq]
    refine ⟨v, fun w' hw' => ?_, h hK _ (ha.put hf v)⟩
    rw [e]
    rw [hsp] at hw'
    rcases hw' with (x | x) | x
    · exact hr w' (.inl ⟨(Bool.and_eq_true _ _ ▸ hq).1, x⟩)
    · exact hr w' (.inr x)
    · cases x
  · rw [if_neg hq]
    unfold effK
    rw [e, hr w (.inr rfl)]
    exact ⟨.inr hK, h hK _ (ha.put hf v)⟩
/-- An operation that is passed over. -/
theorem WO.pass {i : Nat} {o : Oper} (ho : ops[i]? = some o) (hun : unwantedAt n ops fr o = true) (hf : fits n o.dst = true) (h : WO P n K qt z ops Q l (pt fr o.dst undef) w) : WO P n K qt z ops Q (i :: l) fr w := by
  intro hK a ha
  simp only [wpK, ho]
  rw [if_neg (by rw [unwanted_of ha hun]; simp)]
  exact h hK _ (ha.put hf undef)
/-- An operation that acts and is done at once. -/
theorem WO.act {i : Nat} {o : Oper} (ho : ops[i]? = some o) (hok : okAt n ops fr o = true) (hq : qt o.op = false) {v : Value} {w' : World}
    (hr : (execOp (ev fr) o).run P w = .ok (.value v) w') (hK' : K w') (h : WO P n K qt z ops Q l (pt fr o.dst v) w') : WO P n K qt z ops Q (i :: l) fr w := by
  intro hK a ha
  simp only [okAt, Bool.and_eq_true] at hok
  obtain ⟨⟨⟨hw, hh⟩, hs⟩, hf⟩ := hok
  have e := ha.congr hs hh
  simp only [wpK, ho]
  rw [if_pos (wanted_of ha hw), if_neg (by rw [hq]; simp)]
  unfold effK
  rw [e, hr]
  exact ⟨.inr hK', h hK' _ (ha.put hf v)⟩
theorem WO.acts {i : Nat} {o : Oper} (ho : ops[i]? = some o) (hok : okAt n ops fr o = true) (hq : qt o.op = false) {w' : World}
    (hr : (execOp (ev fr) o).run P w = .ok .skip w') (hK' : K w') (h : WO P n K qt z ops Q l (pt fr o.dst undef) w') : WO P n K qt z ops Q (i :: l) fr w := by
  intro hK a ha
  simp only [okAt, Bool.and_eq_true] at hok
  obtain ⟨⟨⟨hw, hh⟩, hs⟩, hf⟩ := hok
  have e := ha.congr hs hh
  simp only [wpK, ho]
  rw [if_pos (wanted_of ha hw), if_neg (by rw [hq]; simp)]
  unfold effK
  rw [e, hr]
  exact ⟨.inr hK', h hK' _ (ha.put hf undef)⟩
/-- A call. -/
theorem WO.call {i : Nat} {o : Oper} (ho : ops[i]? = some o) (hok : okAt n ops fr o = true) (hq : qt o.op = false) {f : FuncId} {args : Array Value}
    (hr : (execOp (ev fr) o).run P w = .ok (.enter f args) w) {R : Ending → World → Prop} (hc : Calls P f args w R)
    (h : ∀ e w', R e w' → ∃ v, e = .returned v ∧ K w' ∧ WO P n K qt z ops Q l (pt fr o.dst v) w') : WO P n K qt z ops Q (i :: l) fr w := by
  intro hK a ha
  simp only [okAt, Bool.and_eq_true] at hok
  obtain ⟨⟨⟨hw, hh⟩, hs⟩, hf⟩ := hok
  have e := ha.congr hs hh
  simp only [wpK, ho]
  rw [if_pos (wanted_of ha hw), if_neg (by rw [hq]; simp)]
  unfold effK
  rw [e, hr]
  refine hc.mono ?_
  intro e w' hR
  obtain ⟨v, rfl, hK', hn⟩ := h e w' hR
  exact ⟨v, rfl, .inr hK', hn hK' _ (ha.put hf v)⟩

/-! Several reckonings at once -/
def resL (P : Program) (ops : Array Oper) (w : World) : List (Nat × Nat × Value) → Fr → List (Result Next)
  | [], _ => []
  | (i, d, v) :: r, fr => match ops[i]? with
    | some o => (execOp (ev fr) o).run P w :: resL P ops w r ((d, v) :: fr)
    | none => .ok (.value v) w :: resL P ops w r fr
def wantL (w : World) : List (Nat × Nat × Value) → List (Result Next)
  | [] => []
  | (i, d, v) :: r => .ok (.value v) w :: wantL w r
def isDst (d : Nat) : Option Tmp → Bool
  | some t => Nat.beq t d
  | none => false
def okL (n : Nat) (ops : Array Oper) : List (Nat × Nat × Value) → Fr → Bool
  | [], _ => true
  | (i, d, v) :: r, fr => match ops[i]? with
    | some o => okAt n ops fr o && isDst d o.dst && okL n ops r ((d, v) :: fr)
    | none => false
def ptL : List (Nat × Nat × Value) → Fr → Fr
  | [], fr => fr
  | (_, d, v) :: r, fr => ptL r ((d, v) :: fr)
theorem isDst_eq {d : Nat} {t : Option Tmp} (h : isDst d t = true) : t = some d := by
  cases t with
  | none => cases h
  | some x => simp only [isDst] at h; rw [Nat.eq_of_beq_eq_true h]
theorem WO.vals : ∀ (vs : List (Nat × Nat × Value)) {fr : Fr}, okL n ops vs fr = true → (∀ w', resL P ops w' vs fr = wantL w' vs) → WO P n K qt z ops Q l (ptL vs fr) w →
    WO P n K qt z ops Q (vs.map (·.1) ++ l) fr w
  | [], fr, _, _, h => h
  | (i, d, v) :: vs, fr, hok, hr, h => by
    cases ho : ops[i]? with
    | none => simp [okL, ho] at hok
    | some o =>
      simp only [okL, ho, Bool.and_eq_true] at hok
      have hd := isDst_eq hok.1.2
      have hr' : ∀ w', (execOp (ev fr) o).run P w' = .ok (.value v) w' ∧ resL P ops w' vs ((d, v) :: fr) = wantL w' vs := by
        intro w'
        have := hr w'
        simp only [resL, ho, wantL, List.cons.injEq] at this
        exact this
      refine WO.val' ho hok.1.1 v (fun w' => (hr' w').1) ?_
      have hpt : pt fr o.dst v = (d, v) :: fr := by rw [hd]; rfl
      rw [hpt]
      exact WO.vals vs hok.2 (fun w' => (hr' w').2) h
/-- Ways that meet again. -/
theorem W.join {c : Code} (J : Fr → World → Prop) (hrest : ∀ fr w, J fr w → En n Q .normal fr w) (h : W P n c (Rd n J Q) fr w) : W P n c Q fr w :=
  fun a ha => wp_mono (h a ha) fun e a' w' hq => by
    cases e with
    | normal => obtain ⟨fr', ha', hJ⟩ := hq; exact hrest fr' w' hJ a' ha'
    | _ => exact hq
/-- The operations that wait for all before them: nothing need hold behind them. -/
theorem WO.tail (hz : (l.all fun i => Nat.ble z i) = true) (h : WO P n KT qF z ops Q l fr w) : WO P n K qt z ops Q l fr w := by
  intro _ a ha
  have key : ∀ (l : List Nat) (a : Act) (w : World), (∀ i ∈ l, z ≤ i) → wpK P KT qF z ops Q l a w → wpK P K qt z ops Q l a w := by
    intro l
    induction l with
    | nil => intro a w _ h; exact h
    | cons i r ih =>
      intro a w hl h
      have hi := hl i (by simp)
      have hb : Nat.blt i z = false := by
        cases hx : Nat.blt i z with
        | false => rfl
        | true => have h2 : i + 1 ≤ z := Nat.le_of_ble_eq_true hx; omega
      simp only [wpK, hb, Bool.and_false] at h ⊢
      cases ho : ops[i]? with
      | none => rw [ho] at h; exact ih a w (fun x hx => hl x (by simp [hx])) h
      | some o =>
        simp only [ho] at h ⊢
        by_cases hw : Region.wanted o (yielded ops a.tmps) = true
        · rw [if_pos hw] at h ⊢
          simp only [Bool.false_eq_true, if_false] at h ⊢
          exact h.mono fun v w' ⟨_, hr⟩ => ⟨.inl hi, ih _ _ (fun x hx => hl x (by simp [hx])) hr⟩
        · rw [if_neg hw] at h ⊢
          exact ih _ _ (fun x hx => hl x (by simp [hx])) h
  exact key l a w (fun i hi => Nat.le_of_ble_eq_true (List.all_eq_true.1 hz i hi)) (h trivial a ha)
/-- Ways through operations that meet again; the world's condition is known to hold there. -/
theorem WO.join {l1 l2 : List Nat} (J : Fr → World → Prop) (hrest : ∀ fr w, J fr w → WO P n K qt z ops Q l2 fr w) (h : WO P n K qt z ops (Rd n (fun fr w => J fr w ∧ K w) Q) l1 fr w) : WO P n K qt z ops Q (l1 ++ l2) fr w := by
  intro hK a ha
  have key : ∀ (l1 : List Nat) (a : Act) (w : World), wpK P K qt z ops (Rd n (fun fr w => J fr w ∧ K w) Q) l1 a w → wpK P K qt z ops Q (l1 ++ l2) a w := by
    intro l1
    induction l1 with
    | nil => intro a w h; obtain ⟨fr', ha', hJ, hK'⟩ := h; exact hrest fr' w hJ hK' a ha'
    | cons i r ih =>
      intro a w h
      simp only [List.cons_append, wpK] at h ⊢
      cases ho : ops[i]? with
      | none => rw [ho] at h; exact ih a w h
      | some o =>
        simp only [ho] at h ⊢
        by_cases hw : Region.wanted o (yielded ops a.tmps) = true
        · rw [if_pos hw] at h ⊢
          by_cases hq : (qt o.op && Nat.blt i z) = true
          · rw [if_pos hq] at h ⊢
            obtain ⟨v, hv, h⟩ := h
            exact ⟨v, hv, ih _ _ h⟩
          · rw [if_neg hq] at h ⊢
            exact h.mono fun v w' ⟨hK', h⟩ => ⟨hK', ih _ _ h⟩
        · rw [if_neg hw] at h ⊢
          exact ih _ _ h
  exact key l1 a w (h hK a ha)
/-- Where such ways meet. -/
theorem WO.meet {J : Fr → World → Prop} (h : J fr w) : WO P n K qt z ops (Rd n (fun fr w => J fr w ∧ K w) Q) [] fr w := fun hK a ha => ⟨fr, ha, h, hK⟩
end
end Go.Gv
