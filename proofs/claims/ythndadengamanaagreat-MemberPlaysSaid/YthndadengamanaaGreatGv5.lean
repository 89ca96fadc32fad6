/- What single operations do to memory that is known: loads, stores, new variables, indexes; calls and returns. Conditions: none. -/
import Derived.Test.YthndadengamanaaGreatGv4
namespace Go.Gv
open Go

/-! ### Facts of types, as reckonings -/
def aggOf (P : Program) (t : TypeId) : Option Bool :=
  match P.underlying t with
  | some (.struct _) | some (.array _ _) => some true
  | some _ => some false
  | none => none
def zeroOf (P : Program) (t : TypeId) : Option (Array Value) := (P.info? t).bind fun i => i.zero.map Value.cells
def sizeIs (P : Program) (t : TypeId) : Option Nat := (P.info? t).map (·.size)
def bytesIs (P : Program) (t : TypeId) : Option Nat := (P.info? t).map (·.bytes)
def sliceOf (P : Program) (t : TypeId) : Option TypeId :=
  match P.underlying t with
  | some (.slice e) => some e
  | _ => none
section
variable {P : Program} {w : World}
theorem run_underlying' {t : TypeId} {d : TypeDesc} (h : P.underlying t = some d) : (underlying t).run P w = .ok d w := by
  simp [underlying, program, bind, Sem.bind, Sem.run, h, pure]
theorem run_isAgg {t : TypeId} {b : Bool} (h : aggOf P t = some b) : (isAgg t).run P w = .ok b w := by
  unfold aggOf at h
  simp only [isAgg, underlying, program, bind, Sem.bind, Sem.run]
  cases hu : P.underlying t with
  | none => simp [hu] at h
  | some d => cases d <;> simp [hu] at h <;> subst h <;> rfl
theorem run_bind {α β : Type} {x : Sem α} {f : α → Sem β} {a : α} {w' : World} (h : x.run P w = .ok a w') : (x >>= f).run P w = (f a).run P w' := by
  simp [h]
theorem run_sizeOf {t n : Nat} (h : sizeIs P t = some n) : (sizeOf t).run P w = .ok n w := by
  unfold sizeIs at h
  cases hi : P.info? t with
  | none => simp [hi] at h
  | some i =>
    simp [hi] at h
    simp [sizeOf, typeInfo, hi, h]
theorem run_zeroValue {t : TypeId} {z : Array Value} (h : zeroOf P t = some z) : ∃ v, v.cells = z ∧ (zeroValue t).run P w = .ok v w := by
  unfold zeroOf at h
  cases hi : P.info? t with
  | none => simp [hi] at h
  | some i =>
    simp [hi] at h
    obtain ⟨v, hv, e⟩ := h
    exact ⟨v, e, by simp [zeroValue, typeInfo, hi, hv]⟩
theorem sliceOf_eq {t e : TypeId} (h : sliceOf P t = some e) : P.underlying t = some (.slice e) := by
  unfold sliceOf at h
  split at h
  · rename_i e' hu; injection h with h; subst h; exact hu
  · cases h
end

/-! ### Loads -/
section
variable {P : Program} {n : Nat} {K : World → Prop} {qt : Op → Bool} {z : Nat} {ops : Array Oper} {Q : Exit → Act → World → Prop} {fr : Fr} {w : World} {l : List Nat} {i : Nat}
  {dst : Option Tmp} {ty : TypeId} {pos : String} {after : Array Edge} {guard : Option (Nat × Bool)}
theorem cell_one {w : World} {b off : Nat} {c : Array Value} {T : TypeId} {fz : Nat × Nat} {v : Value} (h : Rdb w (one b (.cells c T fz))) (hv : c[off]? = some v) : w.cell? ⟨b, off, none⟩ = some v := by
  simp [World.cell?, h _ _ (one_at b _), hv]
theorem run_loadVar1 {t : TypeId} (ht : aggOf P t = some false) {b off : Nat} {v : Value} (hc : w.cell? ⟨b, off, none⟩ = some v) : (loadVar t ⟨b, off, none⟩).run P w = .ok v w := by
  unfold loadVar
  rw [run_bind (run_isAgg ht)]
  simp [load, Sem.run, hc]
theorem run_loadVarN {t : TypeId} (ht : aggOf P t = some true) {b off : Nat} {cs : List Value} (hs : sizeIs P t = some cs.length) (hc : ∀ j v, cs[j]? = some v → w.cell? ⟨b, off + j, none⟩ = some v) :
    (loadVar t ⟨b, off, none⟩).run P w = .ok (.agg cs.toArray) w := by
  unfold loadVar
  rw [run_bind (run_isAgg ht)]
  simp only [if_true]
  rw [run_bind (run_sizeOf hs)]
  unfold loadCells
  rw [run_bind (f := fun cs => pure (Value.agg cs)) (run_loadCellsFrom cs 0 #[] (fun j v hj => by rw [Nat.zero_add]; exact hc j v hj))]
  simp [pure]
/-- One cell is read. -/
theorem WO.load {t : TypeId} {x : Operand} (ho : ops[i]? = some ⟨dst, .load t x, ty, pos, after, guard⟩) (hok : okAt n ops fr ⟨dst, .load t x, ty, pos, after, guard⟩ = true)
    (ht : aggOf P t = some false) {b off : Nat} (hx : ev fr x = .pointer (some ⟨b, off, none⟩)) {v : Value} (hc : ∀ w', Kx K (qt (.load t x)) w w' → w'.cell? ⟨b, off, none⟩ = some v)
    (h : WO P n K qt z ops Q l (pt fr dst v) w) : WO P n K qt z ops Q (i :: l) fr w := by
  refine WO.val ho hok v (fun w' hw' => ?_) h
  simp only [execOp, hx, Instr.loadAt, Instr.sureAddr]
  rw [run_bind (a := v) (w' := w') (by
    rw [run_bind (a := (⟨b, off, none⟩ : Addr)) (w' := w') rfl]
    exact run_loadVar1 ht (hc w' hw'))]
  rfl
/-- A variable of several cells is read. -/
theorem WO.loadN {t : TypeId} {x : Operand} (ho : ops[i]? = some ⟨dst, .load t x, ty, pos, after, guard⟩) (hok : okAt n ops fr ⟨dst, .load t x, ty, pos, after, guard⟩ = true)
    (ht : aggOf P t = some true) {b off : Nat} (hx : ev fr x = .pointer (some ⟨b, off, none⟩)) (cs : List Value) (hs : sizeIs P t = some cs.length)
    (hc : ∀ w', Kx K (qt (.load t x)) w w' → ∀ j v, cs[j]? = some v → w'.cell? ⟨b, off + j, none⟩ = some v)
    (h : WO P n K qt z ops Q l (pt fr dst (.agg cs.toArray)) w) : WO P n K qt z ops Q (i :: l) fr w := by
  refine WO.val ho hok (.agg cs.toArray) (fun w' hw' => ?_) h
  simp only [execOp, hx, Instr.loadAt, Instr.sureAddr]
  rw [run_bind (a := Value.agg cs.toArray) (w' := w') (by
    rw [run_bind (a := (⟨b, off, none⟩ : Addr)) (w' := w') rfl]
    exact run_loadVarN ht hs (hc w' hw'))]
  rfl

/-! ### Indexes -/
theorem run_indexAt {t e sz : Nat} (ht : sliceOf P t = some e) (hsz : sizeIs P e = some sz) (b off len cap : Nat) (k : IntKind) {j : Int} (h0 : 0 ≤ j) (h1 : j < (len : Int)) :
    (Instr.indexAt t (.slice (some ⟨b, off, none⟩) len cap) (.int k j)).run P w = .ok (.pointer (some ⟨b, off + j.toNat * sz, none⟩)) w := by
  have hs := run_sizeOf (P := P) (w := w) hsz
  have hu := run_underlying' (P := P) (w := w) (sliceOf_eq ht)
  simp [Instr.indexAt, asIntOf, hu, hs, h0, h1, add_plain]
theorem WO.indexAddr {t : TypeId} {x ix : Operand} (ho : ops[i]? = some ⟨dst, .indexAddr t x ix, ty, pos, after, guard⟩) (hok : okAt n ops fr ⟨dst, .indexAddr t x ix, ty, pos, after, guard⟩ = true)
    {e sz : Nat} (ht : sliceOf P t = some e) (hsz : sizeIs P e = some sz) {a : Option Addr} {len cap : Nat} (hx : ev fr x = .slice a len cap) (ha : a = some ⟨bl a, of a, none⟩)
    {k : IntKind} {j : Int} (hi : ev fr ix = .int k j) (h0 : 0 ≤ j) (h1 : j < (len : Int))
    (h : WO P n K qt z ops Q l (pt fr dst (.pointer (some ⟨bl a, of a + j.toNat * sz, none⟩))) w) : WO P n K qt z ops Q (i :: l) fr w := by
  refine WO.val ho hok _ (fun w' hw' => ?_) h
  simp only [execOp, hx, hi]
  generalize bl a = p at *
  generalize of a = q at *
  subst ha
  rw [run_bind (run_indexAt ht hsz p q len cap k h0 h1)]
  rfl

/-! ### New blocks -/
/-- An operation that lays one new block. -/
theorem WO.new {E : World} {I : Mem} {Os : List Mem} (hS : St E w I Os) {o : Oper} (ho : ops[i]? = some o) (hok : okAt n ops fr o = true) (hq : qt o.op = false)
    (obj : Obj) (mk : Nat → Value) (hr : (execOp (ev fr) o).run P w = .ok (.value (mk w.heap.size)) (w.alloc obj)) (hK : ∀ b w', St E w' I (one b obj :: Os) → K w')
    (h : ∀ b w', St E w' I (one b obj :: Os) → WO P n K qt z ops Q l (pt fr o.dst (mk b)) w') : WO P n K qt z ops Q (i :: l) fr w :=
  WO.act ho hok hq hr (hK _ _ (hS.alloc obj)) (h _ _ (hS.alloc obj))

/-! ### Stores -/
def wrt (c : Array Value) : Nat → List Value → Array Value
  | _, [] => c
  | o, v :: r => wrt (c.setIfInBounds o v) (o + 1) r
theorem wrt_size : ∀ (vs : List Value) (c : Array Value) (o : Nat), (wrt c o vs).size = c.size
  | [], c, o => rfl
  | v :: r, c, o => by rw [wrt, wrt_size r]; simp
theorem wrt_out : ∀ (vs : List Value) (c : Array Value) (o j : Nat), j < o ∨ o + vs.length ≤ j → (wrt c o vs)[j]? = c[j]?
  | [], c, o, j, _ => rfl
  | v :: r, c, o, j, h => by
    rw [wrt, wrt_out r _ (o + 1) j (by simp at h; omega), Array.getElem?_setIfInBounds, if_neg (by simp at h; omega)]
theorem wrt_in : ∀ (vs : List Value) (c : Array Value) (o j : Nat), j < vs.length → o + vs.length ≤ c.size → (wrt c o vs)[o + j]? = vs[j]?
  | [], c, o, j, h, _ => by simp at h
  | v :: r, c, o, 0, h, hs => by
    simp at hs
    show (wrt (c.setIfInBounds o v) (o + 1) r)[o]? = _
    rw [ wrt_out r _ (o + 1) o (by omega), Array.getElem?_setIfInBounds, if_pos rfl, if_pos (by omega)]
    rfl
  | v :: r, c, o, j + 1, h, hs => by
    simp at h hs
    rw [wrt]
    have := wrt_in r (c.setIfInBounds o v) (o + 1) j h (by simp; omega)
    rw [show o + (j + 1) = o + 1 + j from by omega, this]
    rfl
theorem Mem.set_set (C : Mem) (b : Nat) (o o' : Obj) : (C.set b o).set b o' = C.set b o' := by
  funext i
  by_cases e : i = b <;> simp [Mem.set, e]
theorem Mem.set_self (C : Mem) (b : Nat) (o : Obj) (h : C b = some o) : C.set b o = C := by
  funext i
  by_cases e : i = b <;> simp [Mem.set, e, h]
theorem St.setCell {E w : World} {I C : Mem} {Os : List Mem} (h : St E w I (C :: Os)) {b off : Nat} {c : Array Value} {T : TypeId} {fz : Nat × Nat} (hb : C b = some (.cells c T fz)) (v : Value) :
    St E (w.setCell ⟨b, off, none⟩ v) I (C.set b (.cells (c.setIfInBounds off v) T fz) :: Os) := by
  refine h.put hb rfl rfl rfl ?_ ?_
  · have := h.rd0 b _ hb
    simp [World.setCell, Array.getElem?_modify, this]
  · intro i hi
    simp only [World.setCell, Array.getElem?_modify]
    rw [if_neg (fun e => hi e.symm)]
theorem St.setCells {E : World} {I : Mem} {Os : List Mem} {b : Nat} {T : TypeId} {fz : Nat × Nat} : ∀ (vs : List Value) {w : World} {C : Mem} {off : Nat} {c : Array Value}, St E w I (C :: Os) → C b = some (.cells c T fz) →
    St E (w.setCells b off vs) I (C.set b (.cells (wrt c off vs) T fz) :: Os)
  | [], w, C, off, c, h, hb => by rw [World.setCells, wrt, Mem.set_self C b _ hb]; exact h
  | v :: r, w, C, off, c, h, hb => by
    rw [World.setCells, wrt]
    have := St.setCells r (off := off + 1) (h.setCell hb (off := off) v) (b := b) (T := T) (fz := fz) (c := c.setIfInBounds off v) (by simp [Mem.set])
    rwa [Mem.set_set] at this
theorem run_storeVar {t : TypeId} {v : Value} (hs : sizeIs P t = some v.cells.size) (h1 : ∀ u ∈ v.cells.toList, u.oneCell' = true) {E : World} {I C : Mem} {Os : List Mem} (hS : St E w I (C :: Os)) {b off : Nat} {c : Array Value} {T : TypeId}
    (hb : C b = some (.cells c T (0, 0))) (hlt : off + v.cells.size ≤ c.size) : (storeVar t ⟨b, off, none⟩ v).run P w = .ok () (w.setCells b off v.cells.toList) := by
  unfold storeVar
  rw [run_bind (run_sizeOf hs)]
  simp only [ne_eq, not_true, if_false]
  have hcell : ∀ j, j < v.cells.toList.length → (w.cell? ⟨b, off + 0 + j, none⟩).isSome = true := by
    intro j hj
    simp at hj
    have := hS.rd0 b _ hb
    simp [World.cell?, this]
    omega
  have hfr : ∀ j, j < v.cells.toList.length → w.frozen? ⟨b, off + 0 + j, none⟩ = false := by
    intro j hj
    have := hS.rd0 b _ hb
    simp [World.frozen?, this]
  have := run_storeCells_cells (P := P) b off v.cells.toList 0 w hcell hfr h1
  simpa [bind, Sem.bind] using this
theorem WO.store {E : World} {I C : Mem} {Os : List Mem} (hS : St E w I (C :: Os)) {t : TypeId} {x y : Operand} (ho : ops[i]? = some ⟨dst, .store t x y, ty, pos, after, guard⟩) (hok : okAt n ops fr ⟨dst, .store t x y, ty, pos, after, guard⟩ = true)
    (hq : qt (.store t x y) = false) {b off : Nat} (hx : ev fr x = .pointer (some ⟨b, off, none⟩)) {v : Value} (hy : ev fr y = v) (hs : sizeIs P t = some v.cells.size) (h1 : ∀ u ∈ v.cells.toList, u.oneCell' = true)
    {c : Array Value} {T : TypeId} (hb : C b = some (.cells c T (0, 0))) (hlt : off + v.cells.size ≤ c.size)
    (hK : ∀ w', St E w' I (C.set b (.cells (wrt c off v.cells.toList) T (0, 0)) :: Os) → K w')
    (h : ∀ w', St E w' I (C.set b (.cells (wrt c off v.cells.toList) T (0, 0)) :: Os) → WO P n K qt z ops Q l (pt fr dst undef) w') : WO P n K qt z ops Q (i :: l) fr w := by
  have hS' := hS.setCells (off := off) v.cells.toList hb
  refine WO.acts ho hok hq ?_ (hK _ hS') (h _ hS')
  simp only [execOp, hx, hy, Instr.storeAt, Instr.sureAddr]
  rw [run_bind (a := ()) (w' := w.setCells b off v.cells.toList) (by
    rw [run_bind (a := (⟨b, off, none⟩ : Addr)) (w' := w) rfl]
    exact run_storeVar hs h1 hS hb hlt)]
  rfl
/-- Into a variable of one's own that is known whole. -/
theorem WO.storeBox {E : World} {I : Mem} {Os : List Mem} {b : Nat} {c : Array Value} {T : TypeId} (hS : St E w I (one b (.cells c T (0, 0)) :: Os)) {t : TypeId} {x y : Operand}
    (ho : ops[i]? = some ⟨dst, .store t x y, ty, pos, after, guard⟩) (hok : okAt n ops fr ⟨dst, .store t x y, ty, pos, after, guard⟩ = true)
    (hq : qt (.store t x y) = false) (off : Nat) (hx : ev fr x = .pointer (some ⟨b, off, none⟩)) {v : Value} (hy : ev fr y = v) (hs : sizeIs P t = some v.cells.size) (h1 : v.cells.toList.all Value.oneCell' = true)
    (hlt : Nat.ble (off + v.cells.size) c.size = true) (c' : Array Value) (hc : wrt c off v.cells.toList = c')
    (hK : ∀ w', St E w' I (one b (.cells c' T (0, 0)) :: Os) → K w')
    (h : ∀ w', St E w' I (one b (.cells c' T (0, 0)) :: Os) → WO P n K qt z ops Q l (pt fr dst undef) w') : WO P n K qt z ops Q (i :: l) fr w := by
  subst hc
  refine WO.store hS ho hok hq hx hy hs (fun u hu => List.all_eq_true.1 h1 u hu) (one_at b _) (Nat.le_of_ble_eq_true hlt) ?_ ?_
  · intro w' hS'; rw [one_set] at hS'; exact hK w' hS'
  · intro w' hS'; rw [one_set] at hS'; exact h w' hS'

/-! ### The beginning and the end of a call -/
def argFr : Nat → List Value → Fr
  | _, [] => []
  | k, v :: r => (k, v) :: argFr (k + 1) r
theorem lk_argFr : ∀ (vs : List Value) (k i : Nat) (v : Value), lk (argFr k vs) i = some v → k ≤ i ∧ vs[i - k]? = some v
  | [], _, _, _, h => by cases h
  | u :: r, k, i, v, h => by
    rw [argFr, lk_cons] at h
    by_cases e : i = k
    · subst e; simp at h; subst h; simp
    · rw [if_neg e] at h
      obtain ⟨h1, h2⟩ := lk_argFr r (k + 1) i v h
      refine ⟨by omega, ?_⟩
      rw [show i - k = (i - (k + 1)) + 1 from by omega]
      simpa using h2
theorem calls_W {f : FuncId} {fn : Func} {c : Code} {args : List Value} {R : Ending → World → Prop} (hf : P.funcs[f]? = some fn) (hb : fn.body = some c) (hn : Nat.ble args.length fn.ntmps = true)
    (h : W P fn.ntmps c (bodyPost P fn R) (argFr 0 args) w) : Calls P f args.toArray w R := by
  have hn' := Nat.le_of_ble_eq_true hn
  refine calls_of_wp hf hb (h _ ⟨rfl, by simp; omega, fun i v hv => ?_⟩)
  obtain ⟨_, h2⟩ := lk_argFr args 0 i v hv
  rw [Nat.sub_zero] at h2
  have hlt : i < args.length := (List.getElem?_eq_some_iff.1 h2).1
  rw [Array.getD_eq_getD_getElem?, Array.getElem?_append, if_pos (by simpa using hlt)]
  simp [h2]
section
variable {fn : Func} {a : Act} {R : Ending → World → Prop}
theorem En.ret0 {m : Nat} (h1 : fn.results = #[]) (h : R (.returned (.tuple #[])) w) : En m (bodyPost P fn R) .ret fr w := fun a ha => by
  refine ⟨ha.defers, _, ?_, h⟩
  simp [results, h1]
theorem En.end0 {m : Nat} (h1 : fn.results = #[]) (h : R (.returned (.tuple #[])) w) : En m (bodyPost P fn R) .normal fr w := En.ret0 h1 h
theorem En.ret1 {m : Nat} {t : Nat} (h1 : fn.results = #[.tmp t]) (v : Value) (hv : lk fr t = some v) (h : R (.returned v) w) : En m (bodyPost P fn R) .ret fr w := fun a ha => by
  refine ⟨ha.defers, v, ?_, h⟩
  have := ha.slots t v hv
  simp only [Array.getD_eq_getD_getElem?] at this
  simp [results, h1, this]
theorem En.ret2 {m : Nat} {t t' : Nat} (h1 : fn.results = #[.tmp t, .tmp t']) (v v' : Value) (hv : lk fr t = some v) (hv' : lk fr t' = some v') (h : R (.returned (.tuple #[v, v'])) w) : En m (bodyPost P fn R) .ret fr w := fun a ha => by
  refine ⟨ha.defers, _, ?_, h⟩
  have e1 := ha.slots t v hv
  have e2 := ha.slots t' v' hv'
  simp only [Array.getD_eq_getD_getElem?] at e1 e2
  simp [results, h1, e1, e2]
theorem En.ret3 {m : Nat} {t t' t'' : Nat} (h1 : fn.results = #[.tmp t, .tmp t', .tmp t'']) (v v' v'' : Value) (hv : lk fr t = some v) (hv' : lk fr t' = some v') (hv'' : lk fr t'' = some v'') (h : R (.returned (.tuple #[v, v', v''])) w) : En m (bodyPost P fn R) .ret fr w := fun a ha => by
  refine ⟨ha.defers, _, ?_, h⟩
  have e1 := ha.slots t v hv
  have e2 := ha.slots t' v' hv'
  have e3 := ha.slots t'' v'' hv''
  simp only [Array.getD_eq_getD_getElem?] at e1 e2 e3
  simp [results, h1, e1, e2, e3]
/-- What a result's variable holds. -/
def ResVal (P : Program) (fr : Fr) (w : World) : ResultVar → Value → Prop
  | .tmp t, v => lk fr t = some v
  | .cell t ty, v => ∃ b off, lk fr t = some (.pointer (some ⟨b, off, none⟩)) ∧ (loadVar ty ⟨b, off, none⟩).run P w = .ok v w
theorem resVal_shape {m : Nat} {a : Act} (ha : Ag m fr a) {r : ResultVar} {v : Value} (h : ResVal P fr w r v) :
    (∃ t, r = .tmp t ∧ (a.tmps[t]?).getD undef = v) ∨ ∃ x ty b off, r = .cell x ty ∧ (a.tmps[x]?).getD undef = .pointer (some ⟨b, off, none⟩) ∧ (loadVar ty ⟨b, off, none⟩).run P w = .ok v w := by
  cases r with
  | tmp t => exact .inl ⟨t, rfl, by rw [← Array.getD_eq_getD_getElem?]; exact ha.slots t v h⟩
  | cell x ty =>
    obtain ⟨b, off, h1, h2⟩ := h
    exact .inr ⟨x, ty, b, off, rfl, by rw [← Array.getD_eq_getD_getElem?]; exact ha.slots x _ h1, h2⟩
theorem En.retc1 {m : Nat} {r1 : ResultVar} (h1 : fn.results = #[r1]) (v1 : Value) (g1 : ResVal P fr w r1 v1) (h : R (.returned v1) w) : En m (bodyPost P fn R) .ret fr w := fun a ha => by
  refine ⟨ha.defers, _, ?_, h⟩
  obtain e1 := resVal_shape ha g1
  rcases e1 with ⟨t1, rfl, e1⟩ | ⟨x1, y1, b1, o1, rfl, e1, f1⟩ <;> simp [results, h1, asAddr, *]
theorem En.retc2 {m : Nat} {r1 r2 : ResultVar} (h1 : fn.results = #[r1, r2]) (v1 v2 : Value) (g1 : ResVal P fr w r1 v1) (g2 : ResVal P fr w r2 v2) (h : R (.returned (.tuple #[v1, v2])) w) : En m (bodyPost P fn R) .ret fr w := fun a ha => by
  refine ⟨ha.defers, _, ?_, h⟩
  obtain e1 := resVal_shape ha g1
  obtain e2 := resVal_shape ha g2
  rcases e1 with ⟨t1, rfl, e1⟩ | ⟨x1, y1, b1, o1, rfl, e1, f1⟩ <;> rcases e2 with ⟨t2, rfl, e2⟩ | ⟨x2, y2, b2, o2, rfl, e2, f2⟩ <;> simp [results, h1, asAddr, *]
theorem En.retc3 {m : Nat} {r1 r2 r3 : ResultVar} (h1 : fn.results = #[r1, r2, r3]) (v1 v2 v3 : Value) (g1 : ResVal P fr w r1 v1) (g2 : ResVal P fr w r2 v2) (g3 : ResVal P fr w r3 v3) (h : R (.returned (.tuple #[v1, v2, v3])) w) : En m (bodyPost P fn R) .ret fr w := fun a ha => by
  refine ⟨ha.defers, _, ?_, h⟩
  obtain e1 := resVal_shape ha g1
  obtain e2 := resVal_shape ha g2
  obtain e3 := resVal_shape ha g3
  rcases e1 with ⟨t1, rfl, e1⟩ | ⟨x1, y1, b1, o1, rfl, e1, f1⟩ <;> rcases e2 with ⟨t2, rfl, e2⟩ | ⟨x2, y2, b2, o2, rfl, e2, f2⟩ <;> rcases e3 with ⟨t3, rfl, e3⟩ | ⟨x3, y3, b3, o3, rfl, e3, f3⟩ <;> simp [results, h1, asAddr, *]
end
end
end Go.Gv
