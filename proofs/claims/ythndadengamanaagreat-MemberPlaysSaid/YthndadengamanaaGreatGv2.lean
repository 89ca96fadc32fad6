/- What a walk knows of memory: parts that stay as they are, parts that are owned, what lies in them. Conditions: none. -/
import Derived.Test.YthndadengamanaaGreatGv1
import Derived.Laws.AppendOwn
import Derived.Laws.IdiomCopy
namespace Go.Gv
open Go

/-! ### Parts of memory -/
abbrev Mem := Nat → Option Obj
def Mem.no : Mem := fun _ => none
def Mem.set (C : Mem) (b : Nat) (o : Obj) : Mem := fun i => if i = b then some o else C i
def one (b : Nat) (o : Obj) : Mem := Mem.no.set b o
def Mem.Le (I J : Mem) : Prop := ∀ b o, I b = some o → J b = some o
def Mem.with (I C : Mem) : Mem := fun b => match I b with | some o => some o | none => C b
theorem Mem.Le.refl (I : Mem) : I.Le I := fun _ _ h => h
theorem Mem.Le.trans {I J K : Mem} (h : I.Le J) (k : J.Le K) : I.Le K := fun b o x => k b o (h b o x)
theorem Mem.le_with (I C : Mem) : I.Le (I.with C) := fun b o h => by simp [Mem.with, h]
theorem one_at (b : Nat) (o : Obj) : one b o b = some o := by simp [one, Mem.set]
theorem one_ne {b i : Nat} {o : Obj} (h : i ≠ b) : one b o i = none := by simp [one, Mem.set, Mem.no, h]
theorem one_some {b i : Nat} {o o' : Obj} (h : one b o i = some o') : i = b ∧ o' = o := by
  by_cases e : i = b
  · subst e; rw [one_at] at h; injection h with h; exact ⟨rfl, h.symm⟩
  · rw [one_ne e] at h; cases h

/-- What a part says stands in memory. -/
def Rdb (w : World) (H : Mem) : Prop := ∀ b o, H b = some o → w.heap[b]? = some o
def Apt (C D : Mem) : Prop := ∀ b, C b = none ∨ D b = none
theorem Apt.symm {C D : Mem} (h : Apt C D) : Apt D C := fun b => (h b).symm

/-- The world w, entered from E: I stands and stays, Os are owned, each apart from the others. -/
structure St (E w : World) (I : Mem) (Os : List Mem) : Prop where
  os : w.os = E.os
  tape : w.tape = E.tape
  output : w.output = E.output
  im : Rdb w I
  ow : ∀ C ∈ Os, Rdb w C ∧ Apt C I
  dj : Os.Pairwise Apt

section
variable {E w : World} {I : Mem} {Os : List Mem}
theorem St.rd (h : St E w I Os) {C : Mem} (hc : C ∈ Os) : Rdb w C := (h.ow C hc).1
theorem St.rd0 {C : Mem} (h : St E w I (C :: Os)) : Rdb w C := h.rd (by simp)
theorem St.drop {C : Mem} (h : St E w I (C :: Os)) : St E w I Os :=
  ⟨h.os, h.tape, h.output, h.im, fun D hd => h.ow D (by simp [hd]), (List.pairwise_cons.1 h.dj).2⟩
theorem St.sub {Os' : List Mem} (h : St E w I Os) (hs : Os'.Sublist Os) : St E w I Os' :=
  ⟨h.os, h.tape, h.output, h.im, fun D hd => h.ow D (hs.subset hd), h.dj.sublist hs⟩
theorem St.perm {Os' : List Mem} (h : St E w I Os) (hp : Os.Perm Os') : St E w I Os' :=
  ⟨h.os, h.tape, h.output, h.im, fun D hd => h.ow D (hp.mem_iff.2 hd), (hp.pairwise_iff fun h => h.symm).1 h.dj⟩
theorem St.front1 {A B : Mem} (h : St E w I (A :: B :: Os)) : St E w I (B :: A :: Os) := h.perm (.swap ..)
theorem St.front2 {A B C : Mem} (h : St E w I (A :: B :: C :: Os)) : St E w I (C :: A :: B :: Os) := h.perm ((List.Perm.cons A (.swap ..)).trans (.swap ..))
theorem St.front3 {A B C D : Mem} (h : St E w I (A :: B :: C :: D :: Os)) : St E w I (D :: A :: B :: C :: Os) :=
  h.perm (((List.Perm.cons A (List.Perm.cons B (.swap ..))).trans (.cons A (.swap ..))).trans (.swap ..))
theorem St.back1 {A B : Mem} (h : St E w I (A :: B :: Os)) : St E w I (B :: A :: Os) := h.front1
theorem St.back2 {A B C : Mem} (h : St E w I (C :: A :: B :: Os)) : St E w I (A :: B :: C :: Os) := h.perm ((List.Perm.swap ..).trans (.cons A (.swap ..)))
theorem St.back3 {A B C D : Mem} (h : St E w I (D :: A :: B :: C :: Os)) : St E w I (A :: B :: C :: D :: Os) :=
  h.perm (((List.Perm.swap ..).trans (.cons A (.swap ..))).trans (.cons A (.cons B (.swap ..))))

theorem St.front4 {A B C D F : Mem} (h : St E w I (A :: B :: C :: D :: F :: Os)) : St E w I (F :: A :: B :: C :: D :: Os) :=
  h.perm ((((List.Perm.cons A (List.Perm.cons B (List.Perm.cons C (.swap ..)))).trans (.cons A (.cons B (.swap ..)))).trans (.cons A (.swap ..))).trans (.swap ..))
theorem St.front5 {A B C D F G : Mem} (h : St E w I (A :: B :: C :: D :: F :: G :: Os)) : St E w I (G :: A :: B :: C :: D :: F :: Os) :=
  h.perm (((List.Perm.cons A (List.Perm.cons B (List.Perm.cons C (List.Perm.cons D (.swap ..))))).trans (((List.Perm.cons A (List.Perm.cons B (List.Perm.cons C (.swap ..)))).trans (.cons A (.cons B (.swap ..)))).trans (.cons A (.swap ..)))).trans (.swap ..))

theorem St.drewN (h : St E w I Os) (k : Nat) : St E (w.drewN k) I Os := ⟨h.os, h.tape, h.output, h.im, h.ow, h.dj⟩
theorem St.drew (h : St E w I Os) : St E w.drew I Os := ⟨h.os, h.tape, h.output, h.im, h.ow, h.dj⟩

theorem Rdb.lt {w : World} {H : Mem} (h : Rdb w H) {b : Nat} {o : Obj} (hb : H b = some o) : b < w.heap.size := by
  have := h b o hb
  exact (Array.getElem?_eq_some_iff.1 this).1
theorem Rdb.none_of_ge {w : World} {H : Mem} (h : Rdb w H) {b : Nat} (hb : w.heap.size ≤ b) : H b = none := by
  cases he : H b with
  | none => rfl
  | some o => exact absurd (h.lt he) (by omega)

/-- A new block. -/
theorem St.alloc (h : St E w I Os) (o : Obj) : St E (w.alloc o) I (one w.heap.size o :: Os) := by
  have key : ∀ {H : Mem}, Rdb w H → Rdb (w.alloc o) H := by
    intro H hH b u hb
    have hlt := hH.lt hb
    show (w.heap.push o)[b]? = _
    rw [Array.getElem?_push, if_neg (by omega)]
    exact hH b u hb
  have fresh : ∀ {H : Mem}, Rdb w H → Apt (one w.heap.size o) H := by
    intro H hH b
    by_cases e : b = w.heap.size
    · subst e; exact .inr (hH.none_of_ge (Nat.le_refl _))
    · exact .inl (one_ne e)
  refine ⟨h.os, h.tape, h.output, key h.im, ?_, ?_⟩
  · intro C hC
    cases hC with
    | head =>
      refine ⟨?_, fresh h.im⟩
      intro b u hb
      obtain ⟨rfl, e⟩ := one_some hb
      rw [e]
      show (w.heap.push o)[w.heap.size]? = _
      rw [Array.getElem?_push, if_pos rfl]
    | tail _ hm => exact ⟨key (h.ow C hm).1, (h.ow C hm).2⟩
  · exact List.pairwise_cons.2 ⟨fun D hD => fresh (h.ow D hD).1, h.dj⟩

/-- A block of an owned part becomes another one. -/
theorem St.put {C : Mem} {b : Nat} {o o' : Obj} (h : St E w I (C :: Os)) (hb : C b = some o) {w' : World} (hos : w'.os = w.os) (htape : w'.tape = w.tape) (hout : w'.output = w.output)
    (hnew : w'.heap[b]? = some o') (hold : ∀ i, i ≠ b → w'.heap[i]? = w.heap[i]?) : St E w' I (C.set b o' :: Os) := by
  have hC := h.ow C (by simp)
  have key : ∀ {H : Mem}, Rdb w H → H b = none → Rdb w' H := by
    intro H hH hn i u hi
    have hne : i ≠ b := by rintro rfl; rw [hn] at hi; cases hi
    rw [hold i hne]; exact hH i u hi
  have hIb : I b = none := by
    rcases hC.2 b with e | e
    · rw [e] at hb; cases hb
    · exact e
  have hD : ∀ D ∈ Os, D b = none := by
    intro D hd
    rcases (List.pairwise_cons.1 h.dj).1 D hd b with e | e
    · rw [e] at hb; cases hb
    · exact e
  have apt : ∀ {H : Mem}, H b = none → Apt C H → Apt (C.set b o') H := by
    intro H hn hA i
    by_cases e : i = b
    · subst e; exact .inr hn
    · rcases hA i with x | x
      · exact .inl (by simp [Mem.set, e, x])
      · exact .inr x
  refine ⟨hos.trans h.os, htape.trans h.tape, hout.trans h.output, key h.im hIb, ?_, ?_⟩
  · intro D hd
    cases hd with
    | head =>
      refine ⟨?_, apt hIb hC.2⟩
      intro i u hi
      by_cases e : i = b
      · subst e
        simp [Mem.set] at hi
        subst hi
        exact hnew
      · simp [Mem.set, e] at hi
        rw [hold i e]; exact hC.1 i u hi
    | tail _ hm => exact ⟨key (h.ow D (List.mem_cons_of_mem _ hm)).1 (hD D hm), (h.ow D (List.mem_cons_of_mem _ hm)).2⟩
  · have hp := List.pairwise_cons.1 h.dj
    exact List.pairwise_cons.2 ⟨fun D hd => apt (hD D hd) (hp.1 D hd), hp.2⟩
theorem one_set (b : Nat) (o o' : Obj) : (one b o).set b o' = one b o' := by
  funext i
  by_cases e : i = b <;> simp [one, Mem.set, e]

/-- What is owned is written no more. -/
theorem St.publish {C : Mem} (h : St E w I (C :: Os)) : St E w (I.with C) Os := by
  have hC := h.ow C (by simp)
  have hp := List.pairwise_cons.1 h.dj
  refine ⟨h.os, h.tape, h.output, ?_, ?_, hp.2⟩
  · intro b o hb
    cases hi : I b with
    | some u => simp [Mem.with, hi] at hb; subst hb; exact h.im b u hi
    | none => simp [Mem.with, hi] at hb; exact hC.1 b o hb
  · intro D hd
    refine ⟨(h.ow D (by simp [hd])).1, fun b => ?_⟩
    rcases (h.ow D (by simp [hd])).2 b with e | e
    · exact .inl e
    · rcases hp.1 D hd b with x | x
      · exact .inr (by simp [Mem.with, e, x])
      · exact .inl x
theorem St.with_right {C : Mem} (h : St E w I (C :: Os)) : C.Le (I.with C) := by
  intro b o hb
  rcases (h.ow C (by simp)).2 b with e | e
  · rw [e] at hb; cases hb
  · simp [Mem.with, e, hb]
end

/-! ### Cells -/
def CellsAt (H : Mem) (b off : Nat) (cs : List Value) : Prop := ∃ c T fz, H b = some (.cells c T fz) ∧ ∀ j v, cs[j]? = some v → c[off + j]? = some v
theorem CellsAt.mono {H J : Mem} {b off : Nat} {cs : List Value} (h : CellsAt H b off cs) (hl : H.Le J) : CellsAt J b off cs := by
  obtain ⟨c, T, fz, hb, hc⟩ := h
  exact ⟨c, T, fz, hl _ _ hb, hc⟩
theorem CellsAt.cell {H : Mem} {b off : Nat} {cs : List Value} (h : CellsAt H b off cs) {w : World} (hr : Rdb w H) {j : Nat} {v : Value} (hj : cs[j]? = some v) : w.cell? ⟨b, off + j, none⟩ = some v := by
  obtain ⟨c, T, fz, hb, hc⟩ := h
  simp [World.cell?, hr _ _ hb, hc j v hj]
theorem CellsAt.part {H : Mem} {b off : Nat} {cs ds : List Value} (h : CellsAt H b off cs) (k : Nat) (hd : ∀ j v, ds[j]? = some v → cs[k + j]? = some v) : CellsAt H b (off + k) ds := by
  obtain ⟨c, T, fz, hb, hc⟩ := h
  exact ⟨c, T, fz, hb, fun j v hj => by rw [Nat.add_assoc]; exact hc _ _ (hd j v hj)⟩

theorem add_plain (b off k : Nat) : (⟨b, off, none⟩ : Addr).add k = ⟨b, off + k, none⟩ := by
  unfold Addr.add
  split <;> simp_all

theorem run_loadCellsFrom {P : Program} {w : World} {b off : Nat} : ∀ (cs : List Value) (i : Nat) (acc : Array Value),
    (∀ j v, cs[j]? = some v → w.cell? ⟨b, off + (i + j), none⟩ = some v) → (loadCellsFrom ⟨b, off, none⟩ i cs.length acc).run P w = .ok (acc ++ cs.toArray) w
  | [], i, acc, _ => by simp [loadCellsFrom, pure]
  | v :: cs, i, acc, h => by
    have h0 := h 0 v rfl
    simp only [Nat.add_zero] at h0
    have ih := run_loadCellsFrom (P := P) (w := w) (b := b) (off := off) cs (i + 1) (acc.push v) (fun j u hj => by
      have := h (j + 1) u (by simpa using hj)
      rwa [show i + (j + 1) = i + 1 + j from by omega] at this)
    simp only [List.length_cons, loadCellsFrom, bind, Sem.bind, load, add_plain, Sem.run, h0]
    rw [ih]
    congr 1
    apply Array.ext'
    simp

/-- A relation between cells and a plain value that holds on where memory grows. -/
class Mono {α : Type} (rel : Mem → List Value → α → Prop) : Prop where
  mono : ∀ {I J : Mem} {cs : List Value} {x : α}, I.Le J → rel I cs x → rel J cs x
  one : ∀ {I : Mem} {cs : List Value} {x : α}, rel I cs x → ∀ v ∈ cs, v.oneCell' = true

/-! ### Slices -/
def big : Nat := 9223372036854775808
def bl (a : Option Addr) : Nat := (a.getD ⟨0, 0, none⟩).block
def of (a : Option Addr) : Nat := (a.getD ⟨0, 0, none⟩).off
/-- A slice at a, of capacity cap, whose cells lie in H and whose elements say (with I) what xs are. -/
structure SlAt {α : Type} (sz : Nat) (rel : Mem → List Value → α → Prop) (H I : Mem) (a : Option Addr) (cap : Nat) (xs : List α) : Prop where
  le : xs.length ≤ cap
  lt : cap < big
  el : ∀ i x, xs[i]? = some x → a = some ⟨bl a, of a, none⟩ ∧ ∃ cs, cs.length = sz ∧ rel I cs x ∧ CellsAt H (bl a) (of a + i * sz) cs
abbrev RSl {α : Type} (sz : Nat) (rel : Mem → List Value → α → Prop) (I : Mem) (a : Option Addr) (cap : Nat) (xs : List α) : Prop := SlAt sz rel I I a cap xs
section
variable {α : Type} {sz : Nat} {rel : Mem → List Value → α → Prop} {H I J : Mem} {a : Option Addr} {cap : Nat} {xs : List α}
theorem SlAt.mono [Mono rel] (h : SlAt sz rel H I a cap xs) (hl : I.Le J) : SlAt sz rel H J a cap xs :=
  ⟨h.le, h.lt, fun i x hx => by
    obtain ⟨e, cs, hn, hr, hc⟩ := h.el i x hx
    exact ⟨e, cs, hn, Mono.mono hl hr, hc⟩⟩
theorem SlAt.moved {H' : Mem} (h : SlAt sz rel H I a cap xs) (hl : H.Le H') : SlAt sz rel H' I a cap xs :=
  ⟨h.le, h.lt, fun i x hx => by
    obtain ⟨e, cs, hn, hr, hc⟩ := h.el i x hx
    exact ⟨e, cs, hn, hr, hc.mono hl⟩⟩
theorem RSl.mono [Mono rel] (h : RSl sz rel I a cap xs) (hl : I.Le J) : RSl sz rel J a cap xs := (SlAt.mono h hl).moved hl
theorem SlAt.ad (h : SlAt sz rel H I a cap xs) : xs = [] ∨ a = some ⟨bl a, of a, none⟩ := by
  cases xs with
  | nil => exact .inl rfl
  | cons x r => exact .inr (h.el 0 x rfl).1
theorem SlAt.nil : SlAt sz rel H I none 0 ([] : List α) := ⟨Nat.le_refl _, by unfold big; omega, fun i x hx => by cases hx⟩
theorem SlAt.len_lt (h : SlAt sz rel H I a cap xs) : xs.length < big := Nat.lt_of_le_of_lt h.le h.lt
theorem SlAt.none_nil (h : SlAt sz rel H I none cap xs) : xs = [] := by
  cases xs with
  | nil => rfl
  | cons x r =>
    obtain ⟨e, _⟩ := h.el 0 x rfl
    cases e
end

/-- A slice that is owned: nil, or in a block that nobody else has. -/
structure OwnSl {α : Type} (T sz : Nat) (rel : Mem → List Value → α → Prop) (I C : Mem) (a : Option Addr) (cap : Nat) (xs : List α) : Prop where
  sl : SlAt sz rel C I a cap xs
  own : (a = none ∧ cap = 0 ∧ C = Mem.no) ∨ ∃ b off c, a = some ⟨b, off, none⟩ ∧ C = one b (.cells c T (0, 0)) ∧ off + cap * sz ≤ c.size
section
variable {α : Type} {T sz : Nat} {rel : Mem → List Value → α → Prop} {I J C : Mem} {a : Option Addr} {cap : Nat} {xs : List α}
theorem OwnSl.mono [Mono rel] (h : OwnSl T sz rel I C a cap xs) (hl : I.Le J) : OwnSl T sz rel J C a cap xs := ⟨h.sl.mono hl, h.own⟩
theorem OwnSl.nil : OwnSl T sz rel I Mem.no none 0 ([] : List α) := ⟨SlAt.nil, .inl ⟨rfl, rfl, rfl⟩⟩
theorem St.no {E w : World} {I : Mem} {Os : List Mem} (h : St E w I Os) : St E w I (Mem.no :: Os) :=
  ⟨h.os, h.tape, h.output, h.im, fun C hC => by
    cases hC with
    | head => exact ⟨(fun b o hb => by cases hb), fun b => .inl rfl⟩
    | tail _ hm => exact h.ow C hm, List.pairwise_cons.2 ⟨fun D _ b => .inl rfl, h.dj⟩⟩
theorem OwnSl.publish [Mono rel] {E w : World} {Os : List Mem} (h : OwnSl T sz rel I C a cap xs) (hS : St E w I (C :: Os)) : RSl sz rel (I.with C) a cap xs :=
  (h.sl.mono (Mem.le_with I C)).moved hS.with_right
end

/-- Where a slice stands, and its capacity; where a map stands, and its part. -/
structure SW where
  a : Option Addr
  c : Nat
structure SM where
  m : Nat
  C : Mem
structure SO where
  a : Option Addr
  c : Nat
  C : Mem

/-! ### Plain relations -/
/-- One cell, a whole number. -/
def RInt (k : IntKind) (_ : Mem) (cs : List Value) (x : Int) : Prop := cs = [.int k x]
def RBool (_ : Mem) (cs : List Value) (x : Bool) : Prop := cs = [.bool x]
def RStr (_ : Mem) (cs : List Value) (x : ByteArray) : Prop := cs = [.string x]
instance {k : IntKind} : Mono (RInt k) := ⟨fun _ h => h, fun h v hv => by rw [h] at hv; simp at hv; subst hv; rfl⟩
instance : Mono RBool := ⟨fun _ h => h, fun h v hv => by rw [h] at hv; simp at hv; subst hv; rfl⟩
instance : Mono RStr := ⟨fun _ h => h, fun h v hv => by rw [h] at hv; simp at hv; subst hv; rfl⟩
/-- One cell, a slice. -/
def RSlC {α : Type} (sz : Nat) (rel : Mem → List Value → α → Prop) (I : Mem) (cs : List Value) (xs : List α) : Prop := ∃ a cap, cs = [.slice a xs.length cap] ∧ RSl sz rel I a cap xs
instance {α : Type} {sz : Nat} {rel : Mem → List Value → α → Prop} [Mono rel] : Mono (RSlC sz rel) := ⟨fun hl ⟨a, cap, e, h⟩ => ⟨a, cap, e, RSl.mono h hl⟩, fun ⟨a, cap, e, h⟩ v hv => by rw [e] at hv; simp at hv; subst hv; rfl⟩
end Go.Gv
