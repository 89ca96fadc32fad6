/- Small words for printed walks. Conditions: none. -/
import Derived.Test.YthndadengamanaaGreatGv7
namespace Go.Gv
open Go
abbrev w64 (n : Int) : Int := IntKind.i64.wrap n
def sEq (a b : ByteArray) : Bool := a.toList == b.toList
def sLt (a b : ByteArray) : Bool := Op.bytesLess a.toList b.toList
/-- A string's byte. -/
def sAt (s : ByteArray) (i : Int) : Option Int := if 0 ≤ i then (s[i.toNat]?).map fun b => (b.toNat : Int) else none
def sSub (s : ByteArray) (lo hi : Int) : Option ByteArray := if 0 ≤ lo ∧ lo ≤ hi ∧ hi ≤ (s.size : Int) then some (s.extract lo.toNat hi.toNat) else none
/-- b, or it goes wrong. -/
def must (b : Bool) : Option Unit := if b then some () else none
theorem must_some {b : Bool} {u : Unit} (h : must b = some u) : b = true := by
  unfold must at h
  split at h
  · assumption
  · cases h
theorem wrap64_in {n : Int} (h0 : -9223372036854775808 ≤ n) (h1 : n < 9223372036854775808) : IntKind.i64.wrap n = n := by
  rw [IntKind.wrap_i64]
  omega
/-- A world at which the parts stand, whatever else. -/
def KR (I : Mem) (F : List Mem) (w : World) : Prop := Rdb w I ∧ ∀ C ∈ F, Rdb w C
theorem KR.nil {I : Mem} {w : World} (h : Rdb w I) : KR I [] w := ⟨h, fun _ hc => by cases hc⟩
theorem KR.cons {I C : Mem} {F : List Mem} {w : World} (h : Rdb w C) (t : KR I F w) : KR I (C :: F) w :=
  ⟨t.1, fun D hd => by
    cases hd with
    | head => exact h
    | tail _ hm => exact t.2 D hm⟩
theorem Rdb.of_le {w : World} {I J : Mem} (h : Rdb w J) (hl : I.Le J) : Rdb w I := fun b o x => h b o (hl b o x)
theorem rd_f {K : World → Prop} {w : World} {H : Mem} (h : Rdb w H) : ∀ w', Kx K false w w' → Rdb w' H := by
  rintro w' (⟨h, _⟩ | rfl)
  · cases h
  · exact h
theorem rd_i {q : Bool} {w : World} {I : Mem} {F : List Mem} (h : Rdb w I) : ∀ w', Kx (KR I F) q w w' → Rdb w' I := by
  rintro w' (⟨_, h⟩ | rfl)
  · exact h.1
  · exact h
theorem rd_c {q : Bool} {w : World} {I C : Mem} {F : List Mem} (hm : C ∈ F) (h : Rdb w C) : ∀ w', Kx (KR I F) q w w' → Rdb w' C := by
  rintro w' (⟨_, h⟩ | rfl)
  · exact h.2 C hm
  · exact h
theorem cells_one {w : World} {b off : Nat} {c : Array Value} {T : TypeId} {fz : Nat × Nat} {cs : List Value} (h : Rdb w (one b (.cells c T fz))) (hc : (c.toList.drop off).take cs.length = cs) :
    ∀ j v, cs[j]? = some v → w.cell? ⟨b, off + j, none⟩ = some v := by
  intro j v hj
  refine cell_one h ?_
  rw [← hc, List.getElem?_take, List.getElem?_drop] at hj
  split at hj
  · simpa using hj
  · cases hj
theorem CellsAt.cells {H : Mem} {b o off k : Nat} {cs ds : List Value} (h : CellsAt H b o cs) (hk : (cs.drop k).take ds.length = ds) (ho : off = o + k) {w : World} (hr : Rdb w H) :
    ∀ j v, ds[j]? = some v → w.cell? ⟨b, off + j, none⟩ = some v := by
  intro j v hj
  subst ho
  rw [← hk, List.getElem?_take, List.getElem?_drop] at hj
  split at hj
  · rw [Nat.add_assoc]; exact h.cell hr hj
  · cases hj
theorem CellsAt.cellk {H : Mem} {b o : Nat} {cs : List Value} (h : CellsAt H b o cs) (k : Nat) {v : Value} (hk : cs[k]? = some v) {w : World} (hr : Rdb w H) : w.cell? ⟨b, o + k, none⟩ = some v := h.cell hr hk
theorem CellsAt.cell0 {H : Mem} {b o : Nat} {cs : List Value} (h : CellsAt H b o cs) {v : Value} (hk : cs[0]? = some v) {w : World} (hr : Rdb w H) : w.cell? ⟨b, o, none⟩ = some v := h.cell hr hk
/-- What was owned is lent, and comes back. -/
theorem St.back {E w w' : World} {I I' C : Mem} {Os : List Mem} (h0 : St E w I (C :: Os)) (hl : (I.with C).Le I') (h : St E w' I' Os) : St E w' I (C :: Os) := by
  have hp := List.pairwise_cons.1 h0.dj
  refine ⟨h.os, h.tape, h.output, h.im.of_le ((Mem.le_with I C).trans hl), ?_, h0.dj⟩
  intro D hd
  refine ⟨?_, (h0.ow D hd).2⟩
  cases hd with
  | head => exact h.im.of_le (h0.with_right.trans hl)
  | tail _ hm => exact (h.ow D hm).1

section
variable {P : Program} {n : Nat} {K : World → Prop} {qt : Op → Bool} {z : Nat} {ops : Array Oper} {Q : Exit → Act → World → Prop} {fr : Fr} {w : World} {l : List Nat} {i : Nat}
  {dst : Option Tmp} {ty : TypeId} {pos : String} {after : Array Edge} {guard : Option (Nat × Bool)}
/-- A counter goes on. -/
theorem WO.incr {t t' : TypeId} {x : Operand} (ho : ops[i]? = some ⟨dst, .binOp .add t x (.const (.int .i64 1)) t', ty, pos, after, guard⟩) (hok : okAt n ops fr ⟨dst, .binOp .add t x (.const (.int .i64 1)) t', ty, pos, after, guard⟩ = true)
    {j : Nat} (hx : ev fr x = .int .i64 (j : Int)) (hj : j + 1 < big) (h : WO P n K qt z ops Q l (pt fr dst (.int .i64 ((j + 1 : Nat) : Int))) w) : WO P n K qt z ops Q (i :: l) fr w := by
  refine WO.val' ho hok _ (fun w' => ?_) h
  have e : IntKind.i64.wrap ((j : Int) + 1) = ((j + 1 : Nat) : Int) := by
    unfold big at hj
    rw [wrap64_in (by omega) (by omega)]
    omega
  have ec : ev fr (.const (.int .i64 1)) = .int .i64 1 := rfl
  simp only [execOp, hx, ec]
  show Result.ok (Next.value (Value.int .i64 (IntKind.i64.wrap ((j : Int) + 1)))) w' = _
  rw [e]
/-- A sum by its plain name. -/
theorem WO.named {o : Oper} (ho : ops[i]? = some o) (hok : okAt n ops fr o = true) {v u : Value} (hr : ∀ w', (execOp (ev fr) o).run P w' = .ok (.value v) w') (e : v = u) (h : WO P n K qt z ops Q l (pt fr o.dst u) w) : WO P n K qt z ops Q (i :: l) fr w := by
  subst e
  exact WO.val' ho hok v hr h
theorem run_indexStr {t : TypeId} (ht : P.underlying t = some .string) {s : ByteArray} {k : IntKind} {j x : Int} (hj : sAt s j = some x) : (Instr.index t (.string s) (.int k j)).run P w = .ok (.int .u8 x) w := by
  unfold sAt at hj
  split at hj
  · rename_i h0
    cases hb : s[j.toNat]? with
    | none => rw [hb] at hj; cases hj
    | some b =>
      rw [hb] at hj
      simp only [Option.map_some, Option.some.injEq] at hj
      subst hj
      simp [Instr.index, asIntOf, run_underlying' ht, h0, hb]
  · cases hj
theorem WO.indexStr {t : TypeId} {x ix : Operand} (ho : ops[i]? = some ⟨dst, .index t x ix, ty, pos, after, guard⟩) (hok : okAt n ops fr ⟨dst, .index t x ix, ty, pos, after, guard⟩ = true)
    (ht : P.underlying t = some .string) {s : ByteArray} (hx : ev fr x = .string s) {k : IntKind} {j u : Int} (hi : ev fr ix = .int k j) (hu : sAt s j = some u)
    (h : WO P n K qt z ops Q l (pt fr dst (.int .u8 u)) w) : WO P n K qt z ops Q (i :: l) fr w := by
  refine WO.val ho hok _ (fun w' _ => ?_) h
  simp only [execOp, hx, hi]
  rw [run_bind (run_indexStr ht hu)]
  rfl
/-- Either way. -/
theorem WO.caseb (b : Bool) (ht : b = true → WO P n K qt z ops Q l fr w) (hf : b = false → WO P n K qt z ops Q l fr w) : WO P n K qt z ops Q l fr w := by
  cases hb : b
  · exact hf hb
  · exact ht hb
def Callable (P : Program) (g : FuncId) : Prop := ∀ args w, (callFunc g args).run P w = .ok (.enter g args) w
/-- A function value is called. -/
theorem WO.callv {f : Operand} {as : Array Operand} {ats : Array TypeId} (ho : ops[i]? = some ⟨dst, .call ⟨.value f, as, ats⟩, ty, pos, after, guard⟩) (hok : okAt n ops fr ⟨dst, .call ⟨.value f, as, ats⟩, ty, pos, after, guard⟩ = true)
    (hq : qt (.call ⟨.value f, as, ats⟩) = false) {g : FuncId} {kk args : List Value} (hx : ev fr f = .func (.func g) #[] kk.toArray) (ha : as.map (ev fr) = args.toArray) (hg : Callable P g) {R : Ending → World → Prop}
    (hc : Calls P g (args ++ kk).toArray w R) (h : ∀ e w', R e w' → ∃ v, e = .returned v ∧ K w' ∧ WO P n K qt z ops Q l (pt fr dst v) w') : WO P n K qt z ops Q (i :: l) fr w := by
  refine WO.call ho hok hq (f := g) (args := (args ++ kk).toArray) ?_ hc h
  simp only [execOp, resolve, hx, ha, Deferred.ofValue]
  rw [run_bind (a := ({ target := .fn (.func g) kk.toArray, args := #[] ++ args.toArray } : Deferred)) (w' := w) rfl]
  simp only [invoke]
  have e : #[] ++ args.toArray ++ kk.toArray = (args ++ kk).toArray := by simp
  rw [e]
  exact hg _ w
theorem OwnSl.pub {α : Type} {T sz : Nat} {rel : Mem → List Value → α → Prop} [Mono rel] {E w : World} {I C : Mem} {Os : List Mem} {a : Option Addr} {cap : Nat} {xs : List α} (h : OwnSl T sz rel I C a cap xs) (hS : St E w I (C :: Os)) :
    ∃ I', I.Le I' ∧ St E w I' Os ∧ RSl sz rel I' a cap xs := ⟨I.with C, Mem.le_with I C, hS.publish, h.publish hS⟩
end
def mk (b : Nat) (n : Int) : Option Nat := if 0 ≤ n ∧ n * (b : Int) ≤ 140737488355328 then some n.toNat else none
theorem mk_some {b m : Nat} {n : Int} (h : mk b n = some m) : m * b ≤ 140737488355328 ∧ n = (m : Int) := by
  unfold mk at h
  split at h
  · rename_i hc
    injection h with h
    have e : n = (m : Int) := by omega
    refine ⟨?_, e⟩
    have := hc.2
    rw [e] at this
    have h2 : ((m * b : Nat) : Int) ≤ 140737488355328 := by rw [Int.natCast_mul]; exact this
    omega
  · cases h
theorem sub_ok {α : Type} {sz : Nat} {rel : Mem → List Value → α → Prop} {H I : Mem} {a : Option Addr} {cap : Nat} {xs ys : List α} (h : SlAt sz rel H I a cap xs) {lo hi : Int} (h0 : 0 ≤ lo) (h1 : lo ≤ hi) (h2 : hi ≤ (xs.length : Int))
    (he : ys = (xs.take hi.toNat).drop lo.toNat) : ∃ a' c', SlAt sz rel H I a' c' ys ∧ Value.slice (subA a cap lo.toNat sz) (hi.toNat - lo.toNat) (cap - lo.toNat) = Value.slice a' ys.length c' := by
  subst he
  refine ⟨_, _, h.sub (lo := lo.toNat) (hi := hi.toNat) (by omega) (by omega), ?_⟩
  congr 1
  simp
  omega
inductive Elr {α : Type} (rel : Mem → List Value → α → Prop) (I : Mem) : List (List Value) → List α → Prop
  | nil : Elr rel I [] []
  | cons {cs : List Value} {x : α} {css : List (List Value)} {xs : List α} : rel I cs x → Elr rel I css xs → Elr rel I (cs :: css) (x :: xs)
theorem Elr.len {α : Type} {rel : Mem → List Value → α → Prop} {I : Mem} {css : List (List Value)} {xs : List α} (h : Elr rel I css xs) : css.length = xs.length := by
  induction h with
  | nil => rfl
  | cons _ _ ih => simp [ih]
theorem Elr.at_ {α : Type} {rel : Mem → List Value → α → Prop} {I : Mem} {sz : Nat} {css : List (List Value)} {xs : List α} (h : Elr rel I css xs) : (∀ c ∈ css, c.length = sz) →
    ∀ i x, xs[i]? = some x → ∃ cs, cs.length = sz ∧ rel I cs x ∧ ∀ j v, cs[j]? = some v → css.flatten[i * sz + j]? = some v := by
  induction h with
  | nil => intro _ i x hx; cases hx
  | cons hr _ ih =>
    rename_i cs x css xs _
    intro hsz i y hy
    have hc := hsz cs (by simp)
    cases i with
    | zero =>
      simp at hy
      subst hy
      refine ⟨cs, hc, hr, fun j v hj => ?_⟩
      have hlt : j < cs.length := (List.getElem?_eq_some_iff.1 hj).1
      rw [List.flatten_cons, Nat.zero_mul, Nat.zero_add, List.getElem?_append_left hlt]
      exact hj
    | succ i =>
      obtain ⟨ds, h1, h2, h3⟩ := ih (fun c hc => hsz c (by simp [hc])) i y (by simpa using hy)
      refine ⟨ds, h1, h2, fun j v hj => ?_⟩
      have hm : (i + 1) * sz = i * sz + sz := by rw [Nat.add_mul, Nat.one_mul]
      rw [List.flatten_cons, List.getElem?_append_right (by omega), show (i + 1) * sz + j - cs.length = i * sz + j from by omega]
      exact h3 j v hj
section
variable {P : Program} {n : Nat} {K : World → Prop} {qt : Op → Bool} {z : Nat} {ops : Array Oper} {Q : Exit → Act → World → Prop} {fr : Fr} {w : World} {l : List Nat} {i : Nat}
theorem WO.newSlice {α : Type} {rel : Mem → List Value → α → Prop} {xs : List α} {E : World} {I : Mem} {Os : List Mem} (hS : St E w I Os) {o : Oper} (ho : ops[i]? = some o) (hok : okAt n ops fr o = true) (hq : qt o.op = false)
    (T sz : Nat) (css : List (List Value)) (hr : (execOp (ev fr) o).run P w = .ok (.value (.slice (some ⟨w.heap.size, 0, none⟩) css.length css.length)) (w.alloc (.cells css.flatten.toArray T (0, 0))))
    (hsz : (Nat.blt css.length 1048576 && css.all fun c => Nat.beq c.length sz) = true) (hel : Elr rel I css xs) (hK : ∀ C w', St E w' I (C :: Os) → K w')
    (h : ∀ a C w', St E w' I (C :: Os) → OwnSl T sz rel I C a css.length xs → WO P n K qt z ops Q l (pt fr o.dst (.slice a css.length css.length)) w') : WO P n K qt z ops Q (i :: l) fr w := by
  have hS' := hS.alloc (.cells css.flatten.toArray T (0, 0))
  simp only [Bool.and_eq_true] at hsz
  have hlt : css.length + 1 ≤ 1048576 := Nat.le_of_ble_eq_true hsz.1
  have hall : ∀ c ∈ css, c.length = sz := fun c hc => Nat.eq_of_beq_eq_true (List.all_eq_true.1 hsz.2 c hc)
  refine WO.act ho hok hq hr (hK _ _ hS') (h _ _ _ hS' ⟨⟨by rw [hel.len]; exact Nat.le_refl _, by unfold big; omega, fun j x hx => ⟨rfl, ?_⟩⟩, .inr ⟨_, 0, _, rfl, rfl, ?_⟩⟩)
  · obtain ⟨cs, h1, h2, h3⟩ := hel.at_ hall j x hx
    refine ⟨cs, h1, h2, _, T, (0, 0), one_at _ _, fun p v hp => ?_⟩
    show (css.flatten.toArray)[0 + j * sz + p]? = some v
    rw [Nat.zero_add]
    simpa using h3 p v hp
  · have : ∀ l : List (List Value), (∀ c ∈ l, c.length = sz) → l.flatten.length = l.length * sz := by
      intro l
      induction l with
      | nil => intro _; simp
      | cons c r ih => intro hl; rw [List.flatten_cons, List.length_append, ih (fun d hd => hl d (by simp [hd])), hl c (by simp), List.length_cons, Nat.add_mul]; omega
    rw [List.size_toArray, this css hall]
    omega
end
section
variable {P : Program} {n : Nat} {Q : Exit → Act → World → Prop} {fr : Fr} {w : World} {fn : Func} {R : Ending → World → Prop}
theorem En.toRet (h : En n (bodyPost P fn R) .ret fr w) : En n (bodyPost P fn R) .normal fr w := h
end
end Go.Gv
