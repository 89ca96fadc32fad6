/- From a call that says true, at plain arguments, to the row. Conditions: none. -/
import Derived.Test.YthndadengamanaaGreatGv11
import Derived.JoinedOf
import Derived.ProofKit
import Derived.Carry
import Derived.Deep.Slices
namespace Go.Gv
open Go
def memOf (w : World) : Mem := fun b => w.heap[b]?
theorem st_start (w : World) : St w w (memOf w) [] := ⟨rfl, rfl, rfl, fun b o h => h, fun C hC => (by cases hC), List.Pairwise.nil⟩
/-- What is read as a datum says something plain. -/
def Opens {α : Type} (P : Program) (t : TypeId) (rel : Mem → List Value → α → Prop) (wf : α → Prop) : Prop :=
  ∀ (H : Type) (enc : TypeId × Value → H) (w : World) (fuel : Nat) (cs : List Value) (x : DataW H × List MemPlace), DataW.trod enc P w 0 (fun _ => true) true fuel t cs = some x → ∃ a, rel (memOf w) cs a ∧ wf a
section
variable {P : Program} {t : TypeId}
theorem opens_int {k : IntKind} (ht : P.underlying t = some (.int k)) : Opens P t (RInt k) (fun n => k.min ≤ n ∧ n ≤ k.max) := by
  intro H enc w fuel cs x h
  obtain ⟨n, rfl, _, hw⟩ := DataW.trod_int ht h
  refine ⟨n, rfl, ?_⟩
  simpa [Lit.wf] using hw
theorem opens_bool (ht : P.underlying t = some .bool) : Opens P t RBool (fun _ => True) := by
  intro H enc w fuel cs x h
  obtain ⟨b, rfl, _⟩ := DataW.trod_bool ht h
  exact ⟨b, rfl, trivial⟩
theorem opens_str (ht : P.underlying t = some .string) : Opens P t RStr (fun s => s.size ≤ maxLen) := by
  intro H enc w fuel cs x h
  obtain ⟨s, rfl, _, hs⟩ := DataW.trod_string ht h
  exact ⟨s, rfl, hs⟩
theorem pick_list {α : Type} {q : Nat → α → Prop} : ∀ (n : Nat), (∀ i, i < n → ∃ x, q i x) → ∃ xs : List α, xs.length = n ∧ ∀ i x, xs[i]? = some x → q i x
  | 0, _ => ⟨[], rfl, fun i x h => by cases h⟩
  | n + 1, h => by
    obtain ⟨xs, h1, h2⟩ := pick_list n (fun i hi => h i (by omega))
    obtain ⟨x, hx⟩ := h n (by omega)
    refine ⟨xs ++ [x], by simp [h1], fun i y hy => ?_⟩
    by_cases hi : i < xs.length
    · rw [List.getElem?_append_left hi] at hy
      exact h2 i y hy
    · rw [List.getElem?_append_right (by omega)] at hy
      have hlt : i - xs.length < 1 := by simpa using (List.getElem?_eq_some_iff.1 hy).1
      have e : i = n := by omega
      subst e
      rw [h1, Nat.sub_self] at hy
      simp at hy
      subst hy
      exact hx
theorem opens_slice {α : Type} {e sz : Nat} {rel : Mem → List Value → α → Prop} {wf : α → Prop} (ht : P.underlying t = some (.slice e)) (hc : P.cellsOf e = sz) (hsz : Nat.blt 0 sz = true) (he : Opens P e rel wf) :
    Opens P t (RSlC sz rel) (fun xs => xs.length ≤ maxLen ∧ ∀ x ∈ xs, wf x) := by
  intro H enc w fuel cs x h
  have hsz : 0 < sz := Nat.le_of_ble_eq_true hsz
  rcases Deep.open_slice ht h with ⟨rfl, _⟩ | ⟨a, len, cap, m, n, D, Pl, rfl, _, hl, hm, hmm, _, hx⟩
  · exact ⟨[], ⟨none, 0, rfl, SlAt.nil⟩, by simp [maxLen], fun x hx => by cases hx⟩
  · simp only [if_true] at hmm
    have hsp : 0 < len → a.spot = none := by
      intro hpos
      obtain ⟨cs', e1, e2⟩ := hx 0 (by omega)
      rw [hc, Nat.zero_mul] at e1
      obtain ⟨_, e3, e4⟩ := World.cells?_some e1
      have h0 := e4 0 (by omega)
      have : cs'[0]? = some (cs'[0]'(by omega)) := List.getElem?_eq_getElem (by omega)
      rw [this] at h0
      have := World.cell?_spot h0
      simpa [Addr.add] using this
    subst hmm
    obtain ⟨xs, h1, h2⟩ := pick_list (q := fun i y => wf y ∧ ∃ cs' : List Value, cs'.length = sz ∧ rel (memOf w) cs' y ∧ some a = some (⟨bl (some a), of (some a), none⟩ : Addr) ∧ CellsAt (memOf w) a.block (a.off + i * sz) cs') len (fun i hi => by
      obtain ⟨cs', e1, e2⟩ := hx i (by omega)
      rw [hc] at e1
      obtain ⟨_, e3, e4⟩ := World.cells?_some e1
      obtain ⟨y, hy, hw⟩ := he H enc w _ _ _ e2
      have hsp := hsp (by omega)
      obtain ⟨b, off, sp⟩ := a
      simp only at hsp
      subst hsp
      refine ⟨y, hw, cs', e3, hy, rfl, ?_⟩
      have hcell : ∀ j v, cs'[j]? = some v → w.cell? ⟨b, off + i * sz + j, none⟩ = some v := by
        intro j v hj
        have hj' : j < sz := by have := (List.getElem?_eq_some_iff.1 hj).1; omega
        have := e4 j hj'
        rw [add_plain, add_plain] at this
        rw [this, hj]
      have h0 : w.cell? ⟨b, off + i * sz + 0, none⟩ = some (cs'[0]'(by omega)) := hcell 0 _ (List.getElem?_eq_getElem (by omega))
      simp only [World.cell?] at h0
      split at h0
      · rename_i c T fz hb
        refine ⟨c, T, fz, hb, fun j v hj => ?_⟩
        have := hcell j v hj
        simp only [World.cell?, hb] at this
        exact this
      · cases h0)
    refine ⟨xs, ⟨some a, m, by rw [h1], ⟨by omega, ?_, fun i y hy => ?_⟩⟩, by omega, fun y hy => ?_⟩
    · simp only [maxLen] at hm
      unfold big
      omega
    · obtain ⟨_, cs', e1, e2, e3, e4⟩ := h2 i y hy
      exact ⟨e3, cs', e1, e2, e4⟩
    · obtain ⟨i, hi, rfl⟩ := List.mem_iff_getElem.1 hy
      exact (h2 i _ (List.getElem?_eq_getElem hi)).1
theorem opens_field {α : Type} {rel : Mem → List Value → α → Prop} {wf : α → Prop} {H : Type} {enc : TypeId × Value → H} {w : World} {fuel : Nat} {cs : List Value} {x : DataW H × List MemPlace} (ht : P.underlying t = some (.struct (P.fieldsOf t)))
    (h : DataW.trod enc P w 0 (fun _ => true) true fuel t cs = some x) (i : Nat) {ft off sz : Nat} (hi : ((P.fieldsOf t)[i]?).map (fun f => (f.type, f.offset, P.cellsOf f.type)) = some (ft, off, sz)) (ho : Opens P ft rel wf) :
    ∃ a, rel (memOf w) ((cs.drop off).take sz) a ∧ wf a := by
  obtain ⟨xs, n, _, _, _, hlen, hf⟩ := DataW.trod_struct ht h
  cases hfi : (P.fieldsOf t)[i]? with
  | none => rw [hfi] at hi; cases hi
  | some f =>
    rw [hfi] at hi
    simp only [Option.map_some, Option.some.injEq, Prod.mk.injEq] at hi
    obtain ⟨rfl, rfl, rfl⟩ := hi
    have h1 := hf i f hfi
    have hlt : i < xs.length := by rw [hlen]; exact (Array.getElem?_eq_some_iff.1 hfi).1
    rw [List.getElem?_eq_getElem hlt] at h1
    exact ho _ _ _ _ _ _ h1
theorem opens_len {H : Type} {enc : TypeId × Value → H} {w : World} {fuel : Nat} {cs : List Value} {x : DataW H × List MemPlace} (ht : P.underlying t = some (.struct (P.fieldsOf t)))
    (h : DataW.trod enc P w 0 (fun _ => true) true fuel t cs = some x) {n : Nat} (hn : P.cellsOf t = n) : cs.drop n = [] := by
  obtain ⟨xs, m, _, _, hl, _, _⟩ := DataW.trod_struct ht h
  exact List.drop_eq_nil_of_le (by omega)
theorem cut {α : Type} {cs p r : List α} {o s : Nat} (h : (cs.drop o).take s = p) (hr : cs.drop (o + s) = r) : cs.drop o = p ++ r := by
  rw [← h, ← hr, ← List.drop_drop]
  exact (List.take_append_drop _ _).symm

/-! ### An argument -/
/-- What an argument of a type is: its value, and what it says. -/
def ArgIs {α : Type} (rel : Mem → List Value → α → Prop) (I : Mem) (v : Value) (x : α) : Prop := rel I v.cells.toList x
variable {H : Type} {enc : TypeId × Value → H} {w : World} {v : Value} {d : DataW H} {ps : List MemPlace} {b : Nat}
theorem arg_int {k : IntKind} (ht : P.underlying t = some (.int k)) (hv : Value.okWide P w .any b t v) (h : DataW.Trod enc P w 0 (fun _ => true) true t v d ps) : ∃ n, v = .int k n ∧ k.min ≤ n ∧ n ≤ k.max := by
  obtain ⟨n, rfl, _, _, hw⟩ := ChangeShapes.open_int ht hv h
  exact ⟨n, rfl, by simpa [Lit.wf] using hw⟩
theorem arg_bool (ht : P.underlying t = some .bool) (hv : Value.okWide P w .any b t v) (h : DataW.Trod enc P w 0 (fun _ => true) true t v d ps) : ∃ n, v = .bool n := by
  obtain ⟨n, rfl, _, _⟩ := RowKit.open_bool ht hv h
  exact ⟨n, rfl⟩
theorem arg_str (ht : P.underlying t = some .string) (hv : Value.okWide P w .any b t v) (h : DataW.Trod enc P w 0 (fun _ => true) true t v d ps) : ∃ s, v = .string s ∧ s.size ≤ maxLen := by
  obtain ⟨n, rfl, _, _, hw⟩ := ChangeMaps.open_string ht hv h
  exact ⟨n, rfl, hw⟩
theorem arg_slice {α : Type} {e sz : Nat} {rel : Mem → List Value → α → Prop} {wf : List α → Prop} (ht : P.underlying t = some (.slice e)) (ho : Opens P t (RSlC sz rel) wf) (hv : Value.okWide P w .any b t v)
    (h : DataW.Trod enc P w 0 (fun _ => true) true t v d ps) : ∃ xs a cap, v = .slice a xs.length cap ∧ RSl sz rel (memOf w) a cap xs ∧ wf xs := by
  obtain ⟨a, len, cap, rfl⟩ := WideShapes.okWide_slice ht hv
  obtain ⟨fuel, hf⟩ := h
  obtain ⟨xs, ⟨a', cap', e1, e2⟩, hw⟩ := ho _ _ _ _ _ _ hf
  simp [Value.cells] at e1
  obtain ⟨rfl, rfl, rfl⟩ := e1
  exact ⟨xs, a, cap, rfl, e2, hw⟩
theorem arg_struct {α : Type} {rel : Mem → List Value → α → Prop} {wf : α → Prop} {fs : Array Field} (ht : P.underlying t = some (.struct fs)) (ho : Opens P t rel wf) (hv : Value.okWide P w .any b t v)
    (h : DataW.Trod enc P w 0 (fun _ => true) true t v d ps) : ∃ x cs, v = .agg cs ∧ rel (memOf w) cs.toList x ∧ wf x := by
  obtain ⟨cs, rfl, _⟩ := WideShapes.okWide_struct ht hv
  obtain ⟨fuel, hf⟩ := h
  obtain ⟨x, e1, hw⟩ := ho _ _ _ _ _ _ hf
  exact ⟨x, cs, rfl, e1, hw⟩

theorem below_of_st {E w' : World} {I' : Mem} {Os : List Mem} (hl : (memOf E).Le I') (hS : St E w' I' Os) : RowKit.Below E.heap.size E w' := by
  have hb : ∀ k, k < E.heap.size → w'.heap[k]? = E.heap[k]? := by
    intro k hk
    have h0 : memOf E k = some E.heap[k] := Array.getElem?_eq_getElem hk
    rw [hS.im k _ (hl k _ h0)]
    exact h0.symm
  refine ⟨hS.os, hS.tape, hS.output, ?_, hb⟩
  by_cases hs : E.heap.size = 0
  · omega
  · have := hb (E.heap.size - 1) (by omega)
    rw [Array.getElem?_eq_getElem (xs := E.heap) (by omega)] at this
    have := (Array.getElem?_eq_some_iff.1 this).1
    omega

/-- All arguments read again, where old blocks are as they were. -/
theorem trodAll_stays (hl : laidOutB P = true) {W W' : World} (hb : RowKit.Below W.heap.size W W') : ∀ (ts : List TypeId) (vs : List Value) (ds : List (DataW H)) (ps : List MemPlace), (ts.all fun t => P.readableRec t && Nat.blt t P.types.size) = true →
    DataW.TrodAll enc P W 0 (fun _ => true) true ts vs ds ps → (∀ x ∈ ps, x.block < W.heap.size) → DataW.TrodAll enc P W' 0 (fun b => decide (b < W.heap.size)) true ts vs ds ps
  | [], vs, ds, ps, _, h, _ => by
    obtain ⟨rfl, rfl, rfl⟩ := ChangeShapes.trodAll_nil h
    rfl
  | t :: ts, vs, ds, ps, ht, h, hp => by
    obtain ⟨v, vs', d, ds', p, q, rfl, rfl, rfl, hd, hr⟩ := ChangeShapes.trodAll_cons h
    simp only [List.all_cons, Bool.and_eq_true] at ht
    refine ⟨p, q, RowKit.Below.trod hl ht.1.1 (Nat.le_of_ble_eq_true ht.1.2) hd hb (fun x hx => hp x (by simp [hx])), trodAll_stays hl hb ts vs' ds' q ht.2 hr (fun x hx => hp x (by simp [hx])), rfl⟩
end

/-- The row's own sentence, from a call that says true. -/
theorem row_lift {C : Checked} {os : Os} {f : FuncId} {fn : Func} {s : ChangeSpec} {conds : List PathCond} {tb : TypeId} {apart fresh handsOn : Bool} {H : Type} {enc : TypeId × Value → H}
    (own : ownKnob C.prog.godebug = none) (started : os.Started) (noInit : C.prog.inits.idxOf? f = none) (hfn : C.prog.funcs[f]? = some fn)
    (witness : ∃ (w : World) (tape : Tape) (i : Input), w.os = os ∧ (w.forCall tape i).Shaped C.prog ∧ i.vars = [] ∧ Input.okWide C.prog (w.forCall tape i) .any w.heap.size f i ∧
      s.pre6 enc C.prog fn conds apart (w.forCall tape i).memory i.args ∧ ({} : Assume).holds C.prog (lone (Frame.enter C.prog f i.args .normal) [] (w.forCall tape i)))
    (hl : laidOutB C.prog = true) (hts : (fn.params.toList.all fun t => C.prog.readableRec t && Nat.blt t C.prog.types.size) = true)
    (hrt : fn.resultTypes = #[tb]) (htb : C.prog.underlying tb = some .bool) (hvars : s.vars = [])
    (hspec : ∀ ds : List (DataW H), ds.length = fn.params.size → s.fn H ds = { results := [.lit (.bool true)], args := ds })
    (law : ∀ (W : World) (base : Nat) (args : Array Value) (ds : List (DataW H)) (ps : List MemPlace), (∀ (j : Nat) t v, fn.params[j]? = some t → args[j]? = some v → Value.okWide C.prog W .any base t v) →
      DataW.TrodAll enc C.prog W 0 (fun _ => true) true fn.params.toList args.toList ds ps →
      Calls C.prog f args W fun e W' => ∃ I', e = .returned (.bool true) ∧ (memOf W).Le I' ∧ St W W' I' []) :
    ReturnsInHanded {} C os f .any (s.pre6 enc C.prog fn conds apart) (s.post enc C.prog fn apart fresh handsOn false) := by
  refine returnsInHanded_of_change own started noInit hfn witness ?_
  intro W base args ds gs before hval hW _ _
  have hW' := hW
  obtain ⟨p, q, hA, hV, rfl, hfz, hnd⟩ := hW
  rw [hvars] at hV
  have hgs : gs = [] ∧ q = [] := by
    cases gs with
    | nil => exact ⟨rfl, hV⟩
    | cons g r => exact hV.elim
  obtain ⟨rfl, rfl⟩ := hgs
  have hlen : ds.length = fn.params.size := by
    have key : ∀ (ts : List TypeId) (vs : List Value) (ds : List (DataW H)) (ps : List MemPlace), DataW.TrodAll enc C.prog W 0 (fun _ => true) true ts vs ds ps → ds.length = ts.length := by
      intro ts
      induction ts with
      | nil => intro vs ds ps h; obtain ⟨_, rfl, _⟩ := ChangeShapes.trodAll_nil h; rfl
      | cons t ts ih =>
        intro vs ds ps h
        obtain ⟨v, vs', d, ds', p, q, rfl, rfl, rfl, hd, hr⟩ := ChangeShapes.trodAll_cons h
        simp [ih _ _ _ hr]
    simpa using key _ _ _ _ hA
  refine (law W base args ds p hval hA).mono fun e W' ⟨I', he, hl', hS⟩ => ?_
  subst he
  have hb := below_of_st hl' hS
  have hsp := hspec ds hlen
  refine ⟨_, rfl, ds, [], p ++ [], [], p, [], hW', ?_, ?_, ?_, hb.frame _, fun h => by cases h⟩
  · rw [List.append_nil, hsp, hrt]
    exact ChangeShapes.trodAll_mk1 (RowKit.shut_bool htb true)
  · rw [List.append_nil, hsp]
    exact trodAll_stays hl hb _ _ _ _ hts hA (fun x hx => by simpa using hW'.lt x (by simpa using hx))
  · rw [List.append_nil, hsp, hvars]
    rfl
end Go.Gv
