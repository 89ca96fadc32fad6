/- Words and rules for walks and plain laws. Conditions: none. -/
import Derived.RangeFuncCalls
import Derived.RangeFuncRecord
import Derived.RangeFuncSeq
import Derived.Shelf.SlIter.Nil
import Derived.Shelf.SlIterI.Nil
import Derived.Shelf.SortM.Plain
import Derived.Shelf.SortM.SortNone
import Derived.Test.YtpgmbifboopfmaaGreatLA
namespace Go.Gv
open Go
abbrev Pt (b o : Nat) : Value := .pointer (some ⟨b, o, none⟩)
abbrev Sl {α : Type} (a : Option Addr) (xs : List α) (c : Nat) : Value := .slice a xs.length c
abbrev Nv (x : Nat) : Value := .int .i64 (x : Int)
abbrev Iv (x : Int) : Value := .int .i64 x
abbrev Bx (b : Nat) (cs : List Value) (T : TypeId) : Mem := one b (.cells cs.toArray T (0, 0))
section
variable {α : Type}
theorem m0 {a : α} {l : List α} : a ∈ a :: l := List.Mem.head _
theorem m1 {a b : α} {l : List α} : a ∈ b :: a :: l := .tail _ m0
theorem m2 {a b c : α} {l : List α} : a ∈ b :: c :: a :: l := .tail _ m1
theorem m3 {a b c d : α} {l : List α} : a ∈ b :: c :: d :: a :: l := .tail _ m2
theorem m4 {a b c d e : α} {l : List α} : a ∈ b :: c :: d :: e :: a :: l := .tail _ m3
theorem m5 {a b c d e f : α} {l : List α} : a ∈ b :: c :: d :: e :: f :: a :: l := .tail _ m4
theorem m6 {a b c d e f g : α} {l : List α} : a ∈ b :: c :: d :: e :: f :: g :: a :: l := .tail _ m5
theorem m7 {a b c d e f g h : α} {l : List α} : a ∈ b :: c :: d :: e :: f :: g :: h :: a :: l := .tail _ m6
theorem m8 {a b c d e f g h i : α} {l : List α} : a ∈ b :: c :: d :: e :: f :: g :: h :: i :: a :: l := .tail _ m7
theorem m9 {a b c d e f g h i j : α} {l : List α} : a ∈ b :: c :: d :: e :: f :: g :: h :: i :: j :: a :: l := .tail _ m8
end
section
variable {P : Program} {n : Nat} {K : World → Prop} {qt : Op → Bool} {z : Nat} {ops : Array Oper} {Q : Exit → Act → World → Prop} {fr fr' : Fr} {w : World} {l : List Nat} {i : Nat}
  {dst : Option Tmp} {ty : TypeId} {pos : String} {after : Array Edge} {guard : Option (Nat × Bool)} {v : Value} {y : Code} {id : Nat}
theorem WO.vl (vs : List (Nat × Nat × Value)) (h : WO P n K qt z ops Q l (ptL vs fr) w) (h1 : okL n ops vs fr = true := by kernel_rfl) (h2 : ∀ w', resL P ops w' vs fr = wantL w' vs := by intro _; kernel_rfl) :
    WO P n K qt z ops Q (vs.map (·.1) ++ l) fr w := yba vs h1 h2 h
theorem WO.ln {t : TypeId} {x : Operand} {b off : Nat} {c : Array Value} {T : TypeId} {fz : Nat × Nat} (cs : List Value) (hrd : ∀ w', Kx K (qt (.load t x)) w w' → Rdb w' (one b (.cells c T fz))) (h : WO P n K qt z ops Q l (pt fr dst (.agg cs.toArray)) w)
    (ho : ops[i]? = some ⟨dst, .load t x, ty, pos, after, guard⟩ := by exact rfl) (hok : okAt n ops fr ⟨dst, .load t x, ty, pos, after, guard⟩ = true := by kernel_rfl)
    (ht : aggOf P t = some true := by kernel_rfl) (hx : ev fr x = .pointer (some ⟨b, off, none⟩) := by exact rfl) (hs : sizeIs P t = some cs.length := by kernel_rfl) (hv : (c.toList.drop off).take cs.length = cs := by kernel_rfl) : WO P n K qt z ops Q (i :: l) fr w :=
  WO.loadN ho hok ht hx cs hs (fun w' hw' => cells_one (hrd w' hw') hv) h
theorem WO.le {t : TypeId} {x : Operand} {H : Mem} {b o : Nat} {cs : List Value} (hc : CellsAt H b o cs) (k : Nat) (hrd : ∀ w', Kx K (qt (.load t x)) w w' → Rdb w' H) (h : WO P n K qt z ops Q l (pt fr dst v) w)
    (ho : ops[i]? = some ⟨dst, .load t x, ty, pos, after, guard⟩ := by exact rfl) (hok : okAt n ops fr ⟨dst, .load t x, ty, pos, after, guard⟩ = true := by kernel_rfl)
    (ht : aggOf P t = some false := by kernel_rfl) (hx : ev fr x = .pointer (some ⟨b, o + k, none⟩) := by exact rfl) (hv : cs[k]? = some v := by kernel_rfl) : WO P n K qt z ops Q (i :: l) fr w :=
  ybn ho hok ht hx (fun w' hw' => hc.cellk k hv (hrd w' hw')) h
theorem WO.l0 {t : TypeId} {x : Operand} {H : Mem} {b o : Nat} {cs : List Value} (hc : CellsAt H b o cs) (hrd : ∀ w', Kx K (qt (.load t x)) w w' → Rdb w' H) (h : WO P n K qt z ops Q l (pt fr dst v) w)
    (ho : ops[i]? = some ⟨dst, .load t x, ty, pos, after, guard⟩ := by exact rfl) (hok : okAt n ops fr ⟨dst, .load t x, ty, pos, after, guard⟩ = true := by kernel_rfl)
    (ht : aggOf P t = some false := by kernel_rfl) (hx : ev fr x = .pointer (some ⟨b, o, none⟩) := by exact rfl) (hv : cs[0]? = some v := by kernel_rfl) : WO P n K qt z ops Q (i :: l) fr w :=
  ybn ho hok ht hx (fun w' hw' => hc.cell0 hv (hrd w' hw')) h
theorem WO.lE {t : TypeId} {x : Operand} {H : Mem} {b o off : Nat} {cs : List Value} (ds : List Value) (hc : CellsAt H b o cs) (k : Nat) (hrd : ∀ w', Kx K (qt (.load t x)) w w' → Rdb w' H) (h : WO P n K qt z ops Q l (pt fr dst (.agg ds.toArray)) w)
    (ho : ops[i]? = some ⟨dst, .load t x, ty, pos, after, guard⟩ := by exact rfl) (hok : okAt n ops fr ⟨dst, .load t x, ty, pos, after, guard⟩ = true := by kernel_rfl)
    (ht : aggOf P t = some true := by kernel_rfl) (hx : ev fr x = .pointer (some ⟨b, off, none⟩) := by exact rfl) (hs : sizeIs P t = some ds.length := by kernel_rfl) (hk : (cs.drop k).take ds.length = ds := by kernel_rfl) (hof : off = o + k := by exact rfl) : WO P n K qt z ops Q (i :: l) fr w :=
  WO.loadN ho hok ht hx ds hs (fun w' hw' => hc.cells hk hof (hrd w' hw')) h
theorem WO.nw {E : World} {I : Mem} {Os : List Mem} (hS : St E w I Os) (cs : List Value) (T : TypeId) {o : Oper} (h : ∀ b w', St E w' I (one b (.cells cs.toArray T (0, 0)) :: Os) → WO P n KT qF z ops Q l (pt fr o.dst (Pt b 0)) w')
    (ho : ops[i]? = some o := by exact rfl) (hok : okAt n ops fr o = true := by kernel_rfl) (hq : qF o.op = false := by exact rfl)
    (hr : (execOp (ev fr) o).run P w = .ok (.value (Pt w.heap.size 0)) (w.alloc (.cells cs.toArray T (0, 0))) := by kernel_rfl) : WO P n KT qF z ops Q (i :: l) fr w :=
  ybb hS ho hok hq (.cells cs.toArray T (0, 0)) (fun b => Pt b 0) hr (fun _ _ _ => trivial) h
theorem WO.st {E : World} {I : Mem} {Os : List Mem} {b : Nat} {c : Array Value} {T : TypeId} (hS : St E w I (one b (.cells c T (0, 0)) :: Os)) (off : Nat) (cs' : List Value) {t : TypeId} {x y : Operand}
    (h : ∀ w', St E w' I (one b (.cells cs'.toArray T (0, 0)) :: Os) → WO P n KT qF z ops Q l (pt fr dst undef) w')
    (ho : ops[i]? = some ⟨dst, .store t x y, ty, pos, after, guard⟩ := by exact rfl) (hok : okAt n ops fr ⟨dst, .store t x y, ty, pos, after, guard⟩ = true := by kernel_rfl)
    (hx : ev fr x = .pointer (some ⟨b, off, none⟩) := by exact rfl) (hy : ev fr y = v := by exact rfl) (hs : sizeIs P t = some v.cells.size := by kernel_rfl) (h1 : v.cells.toList.all Value.oneCell' = true := by kernel_rfl)
    (hlt : Nat.ble (off + v.cells.size) c.size = true := by kernel_rfl) (hc : wrt c off v.cells.toList = cs'.toArray := by kernel_rfl) : WO P n KT qF z ops Q (i :: l) fr w :=
  ybj hS ho hok rfl off hx hy hs h1 hlt cs'.toArray hc (fun _ _ => trivial) h
theorem ya4 (e sz : Nat) {t : TypeId} {x ix : Operand} {a : Option Addr} {len cap : Nat} (ha : a = some ⟨bl a, of a, none⟩) {k : IntKind} {j : Int} (h0 : 0 ≤ j) (h1 : j < (len : Int))
    (h : WO P n K qt z ops Q l (pt fr dst (.pointer (some ⟨bl a, of a + j.toNat * sz, none⟩))) w)
    (ho : ops[i]? = some ⟨dst, .indexAddr t x ix, ty, pos, after, guard⟩ := by exact rfl) (hok : okAt n ops fr ⟨dst, .indexAddr t x ix, ty, pos, after, guard⟩ = true := by kernel_rfl)
    (ht : sliceOf P t = some e := by kernel_rfl) (hsz : sizeIs P e = some sz := by kernel_rfl) (hx : ev fr x = .slice a len cap := by exact rfl) (hi : ev fr ix = .int k j := by exact rfl) : WO P n K qt z ops Q (i :: l) fr w :=
  ybq ho hok ht hsz hx ha hi h0 h1 h
theorem yy {J : Fr → World → Prop} (h : J fr' w) (hs : Sub fr' fr := by (repeat refine Sub.cons rfl ?_); exact Sub.nil) : WO P n K qt z ops (Rd n (fun fr w => J fr w ∧ K w) Q) [] fr w := WO.weaken (WO.meet h) hs
theorem WO.mb {d : Nat} {w0 : World} (h : lk fr d = some v) (hs : Sub fr' fr := by (repeat refine Sub.cons rfl ?_); exact Sub.nil) (hw : w0 = w := by exact rfl) : WO P n K qt z ops (Rd n (fun fr w => (fr = (d, v) :: fr' ∧ w0 = w) ∧ K w) Q) [] fr w :=
  WO.weaken (WO.meet (J := fun fr w => fr = (d, v) :: fr' ∧ w0 = w) ⟨rfl, hw⟩) (Sub.cons h hs)
theorem yv {J : Fr → World → Prop} (h : J fr' w) (hs : Sub fr' fr := by (repeat refine Sub.cons rfl ?_); exact Sub.nil) : En n (Rd n J Q) .normal fr w := En.weaken (En.round h) hs
theorem W.wk {c : Code} (h : W P n c Q fr' w) (hs : Sub fr' fr := by (repeat refine Sub.cons rfl ?_); exact Sub.nil) : W P n c Q fr w := W.weaken h hs
theorem En.wk {e : Exit} (h : En n Q e fr' w) (hs : Sub fr' fr := by (repeat refine Sub.cons rfl ?_); exact Sub.nil) : En n Q e fr w := En.weaken h hs
theorem yai (l : List Nat) (h : WO P n KT qF 0 ops Q l fr w) (hl : List.range ops.size = l := by kernel_rfl) : W P n (.region id ops false) Q fr w := W.region hl h
theorem yg (l : List Nat) (h : WO P n KT qF 0 ops (nx P y Q) l fr w) (hl : List.range ops.size = l := by kernel_rfl) : W P n (.seq (.region id ops false) y) Q fr w := W.seq (W.region hl h)
theorem yb (h : W P n y Q fr w) : WO P n K qt z ops (nx P y Q) [] fr w := yt (ye h)
theorem yac {ops' : Array Oper} {y' : Code} (l : List Nat) (h : WO P n KT qF 0 ops' (nx P y' Q) l fr w) (hl : List.range ops'.size = l := by kernel_rfl) : WO P n K qt z ops (nx P (.seq (.region id ops' false) y') Q) [] fr w := yt (ye (W.seq (W.region hl h)))
theorem WO.ps {o : Oper} (h : WO P n K qt z ops Q l (pt fr o.dst undef) w) (ho : ops[i]? = some o := by exact rfl) (hun : unwantedAt n ops fr o = true := by kernel_rfl) (hf : fits n o.dst = true := by exact rfl) : WO P n K qt z ops Q (i :: l) fr w := WO.pass ho hun hf h
theorem yz (t : Nat) {b b' : Bool} (e : b = b') (h : WO P n K qt z ops Q l ((t, .bool b') :: fr) w) (h0 : lk fr t = some (.bool b) := by exact rfl) : WO P n K qt z ops Q l fr w := y8 t h0 (congrArg Value.bool e) h
theorem W.cd {c : Operand} {x y : Code} {b : Bool} (ht : b = true → W P n x Q fr w) (hf : b = false → W P n y Q fr w) (hc : ev fr c = .bool b := by exact rfl) (hh : has fr c = true := by exact rfl) : W P n (.cond c x y) Q fr w := W.cond hc hh ht hf
theorem yae {o : Oper} {f : FuncId} {args : Array Value} {R : Ending → World → Prop} (hc : Calls P f args w R) (h : ∀ e w', R e w' → ∃ v, e = .returned v ∧ K w' ∧ WO P n K qt z ops Q l (pt fr o.dst v) w')
    (ho : ops[i]? = some o := by exact rfl) (hok : okAt n ops fr o = true := by kernel_rfl) (hq : qt o.op = false := by exact rfl) (hr : (execOp (ev fr) o).run P w = .ok (.enter f args) w := by kernel_rfl) : WO P n K qt z ops Q (i :: l) fr w :=
  WO.call ho hok hq hr hc h
theorem sl_at {α β : Type} {sz : Nat} {rel : Mem → List Value → α → Prop} {H I : Mem} {a : Option Addr} {cap : Nat} {xs : List α} {j : Int} {k : α → Option β} {r : β} (h : SlAt sz rel H I a cap xs) (hr : (idx xs j).bind k = some r) :
    ∃ x, k x = some r ∧ 0 ≤ j ∧ j < (xs.length : Int) ∧ xs[j.toNat]? = some x ∧ a = some ⟨bl a, of a, none⟩ ∧ ∃ cs, cs.length = sz ∧ rel I cs x ∧ CellsAt H (bl a) (of a + j.toNat * sz) cs := by
  obtain ⟨x, hx, hr⟩ := bind_some hr
  obtain ⟨h0, h1, hx⟩ := idx_some hx
  obtain ⟨ha, cs, hn, hr', hc⟩ := h.el _ _ hx
  exact ⟨x, hr, h0, h1, hx, ha, cs, hn, hr', hc⟩
theorem y6 {α : Type} {c : Operand} {x y : Code} {b : Bool} {A B : Option α} {r : α} (hr : (bif b then A else B) = some r) (ht : b = true → A = some r → W P n x Q fr w) (hf : b = false → B = some r → W P n y Q fr w)
    (hc : ev fr c = .bool b := by exact rfl) (hh : has fr c = true := by exact rfl) : W P n (.cond c x y) Q fr w := W.cond hc hh (fun h => ht h (cond_t h hr)) (fun h => hf h (cond_f h hr))
theorem yal {α : Type} {b : Bool} {A B : Option α} {r : α} (hr : (bif b then A else B) = some r) (ht : b = true → A = some r → WO P n K qt z ops Q l fr w) (hf : b = false → B = some r → WO P n K qt z ops Q l fr w) : WO P n K qt z ops Q l fr w :=
  WO.caseb b (fun h => ht h (cond_t h hr)) (fun h => hf h (cond_f h hr))
theorem yat {c : Operand} {x y : Code} {b : Bool} (ht : b = true → W P n x Q fr w) (hc : ev fr c = .bool b := by exact rfl) (hh : has fr c = true := by exact rfl) (hno : ¬ b = false := by first | (simp; done) | (simp; omega)) : W P n (.cond c x y) Q fr w := W.cond hc hh ht (fun h => absurd h hno)
theorem yas {c : Operand} {x y : Code} {b : Bool} (hf : b = false → W P n y Q fr w) (hc : ev fr c = .bool b := by exact rfl) (hh : has fr c = true := by exact rfl) (hno : ¬ b = true := by first | (simp; done) | (simp; omega)) : W P n (.cond c x y) Q fr w := W.cond hc hh (fun h => absurd h hno) hf
def ExtR (g : Nat) (b : Bool) (f f' : Fr) : Prop := (∀ i v, i ≠ g → lk f i = some v → lk f' i = some v) ∧ lk f' g = some (.bool b)
def frO (d : Option Tmp) (f : Fr) (g : Nat) : Bool := match d with | none => true | some d => (lk f d).isNone && !(d == g)
def frL (f : Fr) (g : Nat) : List (Nat × Nat × Value) → Bool
  | [] => true
  | (_, d, _) :: r => frO (some d) f g && frL f g r
theorem ExtR.base {g : Nat} {b : Bool} {f : Fr} : ExtR g b f ((g, .bool b) :: f) := ⟨fun i v hi h => by rw [lk_cons, if_neg hi]; exact h, by rw [lk_cons, if_pos rfl]⟩
theorem ExtR.cons {g d : Nat} {b : Bool} {f f' : Fr} {u : Value} (h : ExtR g b f f') (hn : frO (some d) f g = true := by kernel_rfl) : ExtR g b f ((d, u) :: f') := by
  simp only [frO, Bool.and_eq_true, Bool.not_eq_true', beq_eq_false_iff_ne] at hn
  refine ⟨fun i v hi hv => ?_, ?_⟩
  · rw [lk_cons, if_neg]
    · exact h.1 i v hi hv
    · intro e
      subst e
      rw [hv] at hn
      cases hn.1
  · rw [lk_cons, if_neg (fun e => hn.2 e.symm)]
    exact h.2
theorem ExtR.pt {g : Nat} {d : Option Tmp} {b : Bool} {f f' : Fr} {u : Value} (h : ExtR g b f f') (hn : frO d f g = true := by kernel_rfl) : ExtR g b f (pt f' d u) := by
  cases d with
  | none => exact h
  | some d => exact h.cons hn
theorem ExtR.vl {g : Nat} {b : Bool} {f : Fr} : ∀ (vs : List (Nat × Nat × Value)) {f' : Fr}, ExtR g b f f' → frL f g vs = true → ExtR g b f (ptL vs f')
  | [], f', h, _ => h
  | (_, d, v) :: r, f', h, hn => by
    simp only [frL, Bool.and_eq_true] at hn
    exact ExtR.vl r (h.cons hn.1) hn.2
theorem ExtR.vs {g : Nat} {b : Bool} {f f' : Fr} {vs : List (Nat × Nat × Value)} (h : ExtR g b f f') (hn : frL f g vs = true := by kernel_rfl) : ExtR g b f (ptL vs f') := ExtR.vl vs h hn
theorem WO.mk {f : Fr} {A b : Bool} {tp : Nat} {w0 : World} (g : Nat) (hc : A = b) (hv : lk fr tp = some v) (he : ExtR g b f fr := by repeat first | exact ExtR.base | refine ExtR.vs ?_ | refine ExtR.pt ?_ | refine ExtR.cons ?_) (hg : lk f g = some (.bool A) := by exact rfl) (hw : w0 = w := by exact rfl) :
    WO P n K qt z ops (Rd n (fun fr w => (fr = (tp, v) :: f ∧ w0 = w) ∧ K w) Q) [] fr w := fun hK a ha => ⟨(tp, v) :: f, ha.weaken (fun i u hi => by
  rw [lk_cons] at hi
  split at hi
  · rename_i e
    subst e
    rw [← hi]
    exact hv
  · by_cases e : i = g
    · subst e
      rw [hg] at hi
      injection hi with hi
      rw [← hi, hc]
      exact he.2
    · exact he.1 i u e hi), ⟨rfl, hw⟩, hK⟩
theorem WO.jp {l1 l2 : List Nat} (tp : Nat) (V : Bool) (h : WO P n K qt z ops (Rd n (fun fr' w' => (fr' = (tp, .bool V) :: fr ∧ w = w') ∧ K w') Q) l1 fr w) (hrest : WO P n K qt z ops Q l2 ((tp, .bool V) :: fr) w) : WO P n K qt z ops Q (l1 ++ l2) fr w :=
  WO.join (fun fr' w' => fr' = (tp, .bool V) :: fr ∧ w = w') (by rintro _ _ ⟨rfl, rfl⟩; exact hrest) h
theorem ya1 (l : List Nat) (z : Nat) {I : Mem} {F : List Mem} (hK : KR I F w.drew) (h : WO P n (KR I F) qR z ops Q l fr w.drew) (hl : List.range ops.size = l := by kernel_rfl) (hb : Sched ops := by exact .back (by kernel_rfl)) (hp : passOk qR z ops = true := by kernel_rfl) : W P n (.region id ops true) Q fr w :=
  ybl hl z (KR I F) qR hb hp hK h
theorem bsm {α β : Type} {x : Option α} {f : α → Option β} {r : β} (h : x.bind f = some r) : ∃ a, x = some a ∧ f a = some r := bind_some h
theorem lr {I : Mem} : I.Le I := Mem.Le.refl I
def mkL : Nat → List (Nat × Value) → List (Nat × Nat × Value)
  | _, [] => []
  | i, (d, v) :: r => (i, d, v) :: mkL (i + 1) r
theorem WO.vs (k : Nat) (vs : List (Nat × Value)) (h : WO P n K qt z ops Q l (ptL (mkL k vs) fr) w) (h1 : okL n ops (mkL k vs) fr = true := by kernel_rfl) (h2 : ∀ w', resL P ops w' (mkL k vs) fr = wantL w' (mkL k vs) := by intro _; kernel_rfl) :
    WO P n K qt z ops Q ((mkL k vs).map (·.1) ++ l) fr w := yba (mkL k vs) h1 h2 h
theorem yaf (k d : Nat) (v : Value) (h : WO P n K qt z ops Q l (ptL [(k, d, v)] fr) w) (h1 : okL n ops [(k, d, v)] fr = true := by kernel_rfl) (h2 : ∀ w', resL P ops w' [(k, d, v)] fr = wantL w' [(k, d, v)] := by intro _; kernel_rfl) :
    WO P n K qt z ops Q (k :: l) fr w := yba [(k, d, v)] h1 h2 h
theorem yam {l1 l2 : List Nat} (J : Fr → World → Prop) (h : WO P n K qt z ops (Rd n (fun fr w => J fr w ∧ K w) Q) l1 fr w) (hrest : ∀ fr w, J fr w → WO P n K qt z ops Q l2 fr w) : WO P n K qt z ops Q (l1 ++ l2) fr w := WO.join J hrest h
theorem yay {c : Code} (J : Fr → World → Prop) (h : W P n c (Rd n J Q) fr w) (hrest : ∀ fr w, J fr w → En n Q .normal fr w) : W P n c Q fr w := W.join J hrest h
theorem sj {α : Type} {a b : α} (h : some a = some b) : a = b := Option.some.inj h
theorem St.rf {E w : World} {I C : Mem} {Os : List Mem} {K : World → Prop} (h : St E w I Os) (hm : C ∈ Os) : ∀ w', Kx K false w w' → Rdb w' C := rd_f (h.rd hm)
theorem St.rm {E w : World} {I : Mem} {Os : List Mem} {K : World → Prop} (h : St E w I Os) : ∀ w', Kx K false w w' → Rdb w' I := rd_f h.im
theorem WO.cc {o : Oper} {f : FuncId} {args : Array Value} {E : World} {I : Mem} {Os : List Mem} (hc : Calls P f args w (fun e w' => ∃ (I' : Mem), e = .returned v ∧ I.Le I' ∧ St E w' I' Os)) (h : ∀ I' w', I.Le I' → St E w' I' Os → WO P n KT qF z ops Q l (pt fr o.dst v) w')
    (ho : ops[i]? = some o := by exact rfl) (hok : okAt n ops fr o = true := by kernel_rfl) (hq : qF o.op = false := by exact rfl) (hr : (execOp (ev fr) o).run P w = .ok (.enter f args) w := by kernel_rfl) : WO P n KT qF z ops Q (i :: l) fr w :=
  WO.call ho hok hq hr hc (fun _ w' ⟨I', e, hl, hS⟩ => ⟨v, e, trivial, h I' w' hl hS⟩)
theorem WO.ap {α : Type} {T sz : Nat} {rel : Mem → List Value → α → Prop} [Mono rel] {E : World} {I C H : Mem} {Os : List Mem} (e' b : Nat) (zs : List Value) (hS : St E w I (C :: Os)) {a : Option Addr} {cap : Nat} {xs : List α} (hown : OwnSl T sz rel I C a cap xs) {t tx : TypeId} {s x : Operand}
    {a2 : Option Addr} {cap2 : Nat} {ys : List α} (hsrc : SlAt sz rel H I a2 cap2 ys) (hr : Rdb w H) (hfit : (xs.length + ys.length) * b ≤ 140737488355328) {us : List α} (hus : us = xs ++ ys)
    (h : ∀ a' cap' w' C', St E w' I (C' :: Os) → OwnSl T sz rel I C' a' cap' us → WO P n KT qF z ops Q l (pt fr dst (.slice a' us.length cap')) w')
    (ho : ops[i]? = some ⟨dst, .call ⟨.builtin .append, #[s, x], #[t, tx]⟩, ty, pos, after, guard⟩ := by exact rfl) (hok : okAt n ops fr ⟨dst, .call ⟨.builtin .append, #[s, x], #[t, tx]⟩, ty, pos, after, guard⟩ = true := by kernel_rfl)
    (ht : sliceOf P t = some T := by kernel_rfl) (hx : sliceOf P tx = some e' := by kernel_rfl) (hT : elOf P T = some (sz, b, zs.toArray) := by kernel_rfl) (hz : zs.toArray.size = sz := by exact rfl) (hb : Nat.ble 1 b = true := by exact rfl)
    (es : ev fr s = .slice a xs.length cap := by exact rfl) (ex : ev fr x = .slice a2 ys.length cap2 := by exact rfl) : WO P n KT qF z ops Q (i :: l) fr w :=
  ya6 hS hown ho hok rfl ht hx hT hz hb es ex hsrc hr hfit hus (fun _ _ _ => trivial) h
variable {fn : Func} {R : Ending → World → Prop}
theorem yw {t : Nat} (h : R (.returned v) w) (h1 : fn.results = #[.tmp t] := by exact rfl) (hv : lk fr t = some v := by exact rfl) : En n (bodyPost P fn R) .ret fr w := En.ret1 h1 v hv h
theorem yaz {t t' : Nat} {v v' : Value} (h : R (.returned (.tuple #[v, v'])) w) (h1 : fn.results = #[.tmp t, .tmp t'] := by exact rfl) (hv : lk fr t = some v := by exact rfl) (hv' : lk fr t' = some v' := by exact rfl) : En n (bodyPost P fn R) .ret fr w := En.ret2 h1 v v' hv hv' h
theorem En.c1 {b t : Nat} {c : Array Value} {T : TypeId} {fz : Nat × Nat} {tyx : TypeId} (cs : List Value) (hrd : Rdb w (one b (.cells c T fz))) (h : R (.returned (.agg cs.toArray)) w) (h1 : fn.results = #[.cell t tyx] := by exact rfl) (hb : lk fr t = some (Pt b 0) := by exact rfl)
    (ht : aggOf P tyx = some true := by kernel_rfl) (hs : sizeIs P tyx = some cs.length := by kernel_rfl) (hv : (c.toList.drop 0).take cs.length = cs := by kernel_rfl) : En n (bodyPost P fn R) .ret fr w :=
  En.retc1 h1 _ ⟨b, 0, hb, run_loadVarN (cs := cs) ht hs (cells_one hrd hv)⟩ h
theorem ya5 {b t t' : Nat} {c : Array Value} {T : TypeId} {fz : Nat × Nat} {tyx : TypeId} (cs : List Value) (hrd : Rdb w (one b (.cells c T fz))) (h : R (.returned (.tuple #[.agg cs.toArray, v])) w) (h1 : fn.results = #[.cell t tyx, .tmp t'] := by exact rfl) (hb : lk fr t = some (Pt b 0) := by exact rfl) (hv' : lk fr t' = some v := by exact rfl)
    (ht : aggOf P tyx = some true := by kernel_rfl) (hs : sizeIs P tyx = some cs.length := by kernel_rfl) (hv : (c.toList.drop 0).take cs.length = cs := by kernel_rfl) : En n (bodyPost P fn R) .ret fr w :=
  En.retc2 h1 _ _ ⟨b, 0, hb, run_loadVarN (cs := cs) ht hs (cells_one hrd hv)⟩ hv' h
end
abbrev nL2 : List Nat := [0, 1]
abbrev nL3 : List Nat := [0, 1, 2]
abbrev nL4 : List Nat := [0, 1, 2, 3]
abbrev nL5 : List Nat := [0, 1, 2, 3, 4]
abbrev nL6 : List Nat := [0, 1, 2, 3, 4, 5]
abbrev nL7 : List Nat := [0, 1, 2, 3, 4, 5, 6]
abbrev nL8 : List Nat := [0, 1, 2, 3, 4, 5, 6, 7]
abbrev nL9 : List Nat := [0, 1, 2, 3, 4, 5, 6, 7, 8]
abbrev nL10 : List Nat := [0, 1, 2, 3, 4, 5, 6, 7, 8, 9]
abbrev nL11 : List Nat := [0, 1, 2, 3, 4, 5, 6, 7, 8, 9, 10]
abbrev nL12 : List Nat := [0, 1, 2, 3, 4, 5, 6, 7, 8, 9, 10, 11]
abbrev nL13 : List Nat := [0, 1, 2, 3, 4, 5, 6, 7, 8, 9, 10, 11, 12]
abbrev nL14 : List Nat := [0, 1, 2, 3, 4, 5, 6, 7, 8, 9, 10, 11, 12, 13]
abbrev nL15 : List Nat := [0, 1, 2, 3, 4, 5, 6, 7, 8, 9, 10, 11, 12, 13, 14]
abbrev nL16 : List Nat := [0, 1, 2, 3, 4, 5, 6, 7, 8, 9, 10, 11, 12, 13, 14, 15]
abbrev nL17 : List Nat := [0, 1, 2, 3, 4, 5, 6, 7, 8, 9, 10, 11, 12, 13, 14, 15, 16]
abbrev nL18 : List Nat := [0, 1, 2, 3, 4, 5, 6, 7, 8, 9, 10, 11, 12, 13, 14, 15, 16, 17]
abbrev nL19 : List Nat := [0, 1, 2, 3, 4, 5, 6, 7, 8, 9, 10, 11, 12, 13, 14, 15, 16, 17, 18]
abbrev nL20 : List Nat := [0, 1, 2, 3, 4, 5, 6, 7, 8, 9, 10, 11, 12, 13, 14, 15, 16, 17, 18, 19]
abbrev nL21 : List Nat := [0, 1, 2, 3, 4, 5, 6, 7, 8, 9, 10, 11, 12, 13, 14, 15, 16, 17, 18, 19, 20]
abbrev nL22 : List Nat := [0, 1, 2, 3, 4, 5, 6, 7, 8, 9, 10, 11, 12, 13, 14, 15, 16, 17, 18, 19, 20, 21]
abbrev nL23 : List Nat := [0, 1, 2, 3, 4, 5, 6, 7, 8, 9, 10, 11, 12, 13, 14, 15, 16, 17, 18, 19, 20, 21, 22]
abbrev nL24 : List Nat := [0, 1, 2, 3, 4, 5, 6, 7, 8, 9, 10, 11, 12, 13, 14, 15, 16, 17, 18, 19, 20, 21, 22, 23]
abbrev nL25 : List Nat := [0, 1, 2, 3, 4, 5, 6, 7, 8, 9, 10, 11, 12, 13, 14, 15, 16, 17, 18, 19, 20, 21, 22, 23, 24]
abbrev nL26 : List Nat := [0, 1, 2, 3, 4, 5, 6, 7, 8, 9, 10, 11, 12, 13, 14, 15, 16, 17, 18, 19, 20, 21, 22, 23, 24, 25]
abbrev nL27 : List Nat := [0, 1, 2, 3, 4, 5, 6, 7, 8, 9, 10, 11, 12, 13, 14, 15, 16, 17, 18, 19, 20, 21, 22, 23, 24, 25, 26]
abbrev nL29 : List Nat := [0, 1, 2, 3, 4, 5, 6, 7, 8, 9, 10, 11, 12, 13, 14, 15, 16, 17, 18, 19, 20, 21, 22, 23, 24, 25, 26, 27, 28]
abbrev nL32 : List Nat := [0, 1, 2, 3, 4, 5, 6, 7, 8, 9, 10, 11, 12, 13, 14, 15, 16, 17, 18, 19, 20, 21, 22, 23, 24, 25, 26, 27, 28, 29, 30, 31]
abbrev nL34 : List Nat := [0, 1, 2, 3, 4, 5, 6, 7, 8, 9, 10, 11, 12, 13, 14, 15, 16, 17, 18, 19, 20, 21, 22, 23, 24, 25, 26, 27, 28, 29, 30, 31, 32, 33]
abbrev nL35 : List Nat := [0, 1, 2, 3, 4, 5, 6, 7, 8, 9, 10, 11, 12, 13, 14, 15, 16, 17, 18, 19, 20, 21, 22, 23, 24, 25, 26, 27, 28, 29, 30, 31, 32, 33, 34]
abbrev nL38 : List Nat := [0, 1, 2, 3, 4, 5, 6, 7, 8, 9, 10, 11, 12, 13, 14, 15, 16, 17, 18, 19, 20, 21, 22, 23, 24, 25, 26, 27, 28, 29, 30, 31, 32, 33, 34, 35, 36, 37]
abbrev nL41 : List Nat := [0, 1, 2, 3, 4, 5, 6, 7, 8, 9, 10, 11, 12, 13, 14, 15, 16, 17, 18, 19, 20, 21, 22, 23, 24, 25, 26, 27, 28, 29, 30, 31, 32, 33, 34, 35, 36, 37, 38, 39, 40]
abbrev nL43 : List Nat := [0, 1, 2, 3, 4, 5, 6, 7, 8, 9, 10, 11, 12, 13, 14, 15, 16, 17, 18, 19, 20, 21, 22, 23, 24, 25, 26, 27, 28, 29, 30, 31, 32, 33, 34, 35, 36, 37, 38, 39, 40, 41, 42]
abbrev nL46 : List Nat := [0, 1, 2, 3, 4, 5, 6, 7, 8, 9, 10, 11, 12, 13, 14, 15, 16, 17, 18, 19, 20, 21, 22, 23, 24, 25, 26, 27, 28, 29, 30, 31, 32, 33, 34, 35, 36, 37, 38, 39, 40, 41, 42, 43, 44, 45]
end Go.Gv
namespace Go.Gv
open Go
def OpensF {α : Type} (P : Program) (t : TypeId) (rel : Mem → List Value → α → Prop) (wf : α → Prop) (N : Nat) : Prop :=
  ∀ (H : Type) (enc : TypeId × Value → H) (w : World) (fuel : Nat) (cs : List Value) (x : DataW H × List MemPlace), fuel ≤ N → DataW.trod enc P w 0 (fun _ => true) true fuel t cs = some x → ∃ a, rel (memOf w) cs a ∧ wf a
section
variable {P : Program} {t : TypeId}
theorem Opens.atF {α : Type} {rel : Mem → List Value → α → Prop} {wf : α → Prop} (h : Opens P t rel wf) (N : Nat) : OpensF P t rel wf N := fun H enc w fuel cs x _ hx => h H enc w fuel cs x hx
theorem OpensF.all {α : Type} {rel : Mem → List Value → α → Prop} {wf : α → Prop} (h : ∀ N, OpensF P t rel wf N) : Opens P t rel wf := fun H enc w fuel cs x hx => h fuel H enc w fuel cs x (Nat.le_refl _) hx
theorem OpensF.zero {α : Type} {rel : Mem → List Value → α → Prop} {wf : α → Prop} : OpensF P t rel wf 0 := fun H enc w fuel cs x hN hx => by
  have : fuel = 0 := by omega
  subst this
  simp [DataW.trod] at hx
theorem opensF_slice {α : Type} {e sz N : Nat} {rel : Mem → List Value → α → Prop} {wf : α → Prop} (ht : P.underlying t = some (.slice e)) (hc : P.cellsOf e = sz) (hsz : Nat.blt 0 sz = true) (he : OpensF P e rel wf N) :
    OpensF P t (RSlC sz rel) (fun xs => xs.length ≤ maxLen ∧ ∀ x ∈ xs, wf x) N := by
  intro H enc w fuel cs x hN h
  have hsz : 0 < sz := Nat.le_of_ble_eq_true hsz
  rcases DataW.trod_slice ht h with ⟨rfl, _⟩ | ⟨a, len, cap, elems, rest, n, hfu, rfl, rfl, hb, hl, hm, hlen, hel, hsp0, hns⟩
  · exact ⟨[], ⟨none, 0, rfl, SlAt.nil⟩, by simp [maxLen], fun x hx => by cases hx⟩
  · obtain ⟨m, hmm⟩ : ∃ m, m = cap := ⟨_, rfl⟩
    have hx : ∀ i, i < m → ∃ cs', w.cells? 0 (a.add (i * P.cellsOf e)) (P.cellsOf e) = some cs' ∧ ∃ y, DataW.trod enc P w 0 (fun _ => true) true n e cs' = some y := by
      intro i hi
      by_cases hil : i < len
      · have := hel i hil
        rw [List.getElem?_eq_getElem (by omega)] at this
        obtain ⟨cs', h1, h2⟩ := Option.bind_eq_some_iff.1 this
        exact ⟨cs', h1, _, h2⟩
      · have h3 := hsp0 rfl
        have := h3.2 (i - len) (by omega)
        rw [show len + (i - len) = i by omega, List.getElem?_eq_getElem (by omega)] at this
        obtain ⟨cs', h1, h2⟩ := Option.bind_eq_some_iff.1 this
        exact ⟨cs', h1, _, h2⟩
    have hsp : 0 < len → a.spot = none := by
      intro hpos
      obtain ⟨cs', e1, e2⟩ := hx 0 (by omega)
      rw [hc, Nat.zero_mul] at e1
      obtain ⟨_, e3, e4⟩ := World.cells?_some e1
      have h0 := e4 0 (by omega)
      have : cs'[0]? = some (cs'[0]'(by omega)) := List.getElem?_eq_getElem (by omega)
      rw [this] at h0
      have := World.cell?_spot h0
      simpa [Addr.add] using this
    subst hmm
    obtain ⟨xs, h1, h2⟩ := pick_list (q := fun i y => wf y ∧ ∃ cs' : List Value, cs'.length = sz ∧ rel (memOf w) cs' y ∧ some a = some (⟨bl (some a), of (some a), none⟩ : Addr) ∧ CellsAt (memOf w) a.block (a.off + i * sz) cs') len (fun i hi => by
      obtain ⟨cs', e1, e2⟩ := hx i (by omega)
      rw [hc] at e1
      obtain ⟨_, e3, e4⟩ := World.cells?_some e1
      obtain ⟨e2', e2⟩ := e2
      obtain ⟨y, hy, hw⟩ := he H enc w _ _ _ (by omega) e2
      have hsp := hsp (by omega)
      obtain ⟨b, off, sp⟩ := a
      simp only at hsp
      subst hsp
      refine ⟨y, hw, cs', e3, hy, rfl, ?_⟩
      have hcell : ∀ j v, cs'[j]? = some v → w.cell? ⟨b, off + i * sz + j, none⟩ = some v := by
        intro j v hj
        have hj' : j < sz := by have := (List.getElem?_eq_some_iff.1 hj).1; omega
        have := e4 j hj'
        rw [add_plain, add_plain] at this
        rw [this, hj]
      have h0 : w.cell? ⟨b, off + i * sz + 0, none⟩ = some (cs'[0]'(by omega)) := hcell 0 _ (List.getElem?_eq_getElem (by omega))
      simp only [World.cell?] at h0
      split at h0
      · rename_i c T fz hb
        refine ⟨c, T, fz, hb, fun j v hj => ?_⟩
        have := hcell j v hj
        simp only [World.cell?, hb] at this
        exact this
      · cases h0)
    refine ⟨xs, ⟨some a, m, by rw [h1], ⟨by omega, ?_, fun i y hy => ?_⟩⟩, by omega, fun y hy => ?_⟩
    · simp only [maxLen] at hm
      unfold big
      omega
    · obtain ⟨_, cs', e1, e2, e3, e4⟩ := h2 i y hy
      exact ⟨e3, cs', e1, e2, e4⟩
    · obtain ⟨i, hi, rfl⟩ := List.mem_iff_getElem.1 hy
      exact (h2 i _ (List.getElem?_eq_getElem hi)).1
theorem opensF_field {α : Type} {N : Nat} {rel : Mem → List Value → α → Prop} {wf : α → Prop} {H : Type} {enc : TypeId × Value → H} {w : World} {fuel : Nat} {cs : List Value} {x : DataW H × List MemPlace} (ht : P.underlying t = some (.struct (P.fieldsOf t)))
    (hN : fuel ≤ N + 1) (h : DataW.trod enc P w 0 (fun _ => true) true fuel t cs = some x) (i : Nat) {ft off sz : Nat} (hi : ((P.fieldsOf t)[i]?).map (fun f => (f.type, f.offset, P.cellsOf f.type)) = some (ft, off, sz)) (ho : OpensF P ft rel wf N) :
    ∃ a, rel (memOf w) ((cs.drop off).take sz) a ∧ wf a := by
  obtain ⟨xs, n, hfu, _, _, hlen, hf⟩ := DataW.trod_struct ht h
  cases hfi : (P.fieldsOf t)[i]? with
  | none => rw [hfi] at hi; cases hi
  | some f =>
    rw [hfi] at hi
    simp only [Option.map_some, Option.some.injEq, Prod.mk.injEq] at hi
    obtain ⟨rfl, rfl, rfl⟩ := hi
    have h1 := hf i f hfi
    have hlt : i < xs.length := by rw [hlen]; exact (Array.getElem?_eq_some_iff.1 hfi).1
    rw [List.getElem?_eq_getElem hlt] at h1
    exact ho _ _ _ _ _ _ (by omega) h1
end
end Go.Gv
namespace Go.Gv
open Go
section
variable {α β σ τ : Type} {b : Prop} {Q : α → Prop}
abbrev TT {α : Type} : α → Prop := fun _ => True
theorem yah {xs : List β} {i : Nat} {f : β → Option α} (h : i < xs.length) (hf : ∀ x, xs[i]? = some x → x ∈ xs → RB b (f x) Q) : RB b ((idx xs (i : Int)).bind f) Q := by
  rw [idx_mem h]
  exact hf _ (List.getElem?_eq_getElem h) (List.getElem_mem h)
theorem ybc {xs : List β} {i : Int} {f : β → Option α} (h0 : 0 ≤ i) (h1 : i < (xs.length : Int)) (hf : ∀ x, xs[i.toNat]? = some x → x ∈ xs → RB b (f x) Q) : RB b ((idx xs i).bind f) Q := by
  obtain ⟨x, hx, hx'⟩ := idx_lt h0 h1
  rw [hx]
  exact hf x hx' (List.mem_of_getElem? hx')
theorem yax {k : Nat} {xs ys : List β} {f : List β → Option α} (h : (xs.length + ys.length) * k ≤ 140737488355328) (hf : RB b (f (xs ++ ys)) Q) : RB b ((app k xs ys).bind f) Q := by
  rw [app_le h]
  exact hf
theorem yaj {x : β} {f : β → Option α} (h : RB b (f x) Q) : RB b ((some x).bind f) Q := h
theorem RB.tt {m : Option α} (h : RB b m Q) : RB b m TT := h.mono fun _ _ => trivial
theorem RB.ex {m : Option α} (h : ∃ r, m = some r ∧ Q r) : RB b m Q := let ⟨_, h1, h2⟩ := h; ybm h1 h2
theorem forE_tt {step : Nat → σ → Option σ} {n : Nat} {s : σ} (hs : ∀ j s, j < n → RB b (step j s) TT) : RB b (forE step n 0 s) TT := (forE_ret (fun _ _ => True) trivial fun j s hj _ => hs j s hj).tt
theorem forN_tt {step : Nat → σ → Option (σ ⊕ τ)} {n : Nat} {s : σ} (hs : ∀ j s, j < n → RB b (step j s) TT) : RB b (forN step n 0 s) TT := by
  have h : RB b (forN step n 0 s) (fun r => match r with | .inl s' => True | .inr t => True) := forN_ret (fun _ _ => True) (Q := fun _ => True) trivial fun j s hj _ => (hs j s hj).mono fun r _ => by cases r <;> trivial
  exact h.tt
theorem fuel_tt {f : Nat → Option α} (N : Nat) (h : ∀ n, RB (N ≤ n) (f n) Q) : RB b (anyFuel f) Q := (RB.fuel h).weak fun _ => trivial
end
end Go.Gv
namespace Go.Gv
open Go
theorem obs {α β : Type} (a : α) (f : α → Option β) : (some a).bind f = f a := rfl
theorem gE {α : Type} {l : List α} {i : Nat} (h : i < l.length) : l[i]? = some l[i] := List.getElem?_eq_getElem h
theorem kr {p : Prop} (h : p := by kernel_rfl) : p := h
theorem tv {p : Prop} (h : p := by intros; exact trivial) : p := h
theorem om {p : Prop} (h : p := by omega) : p := h
theorem rt {p b : Prop} {α : Type} {x : α} {Q : α → Prop} (h : Q x := by exact trivial) : p → RB b (some x) Q := fun _ => yc h
theorem z {α : Sort _} {a : α} : a = a := rfl
abbrev By8 := ByteArray
abbrev eB : ByteArray := ⟨#[]⟩
abbrev JI (E : World) (I0 : Mem) (F : Fr) (L : List Mem) (fr : Fr) (w : World) : Prop := ∃ I, fr = F ∧ I0.Le I ∧ St E w I L
abbrev RT (E : World) (I : Mem) (Os : List Mem) (v : Value) (e : Ending) (w' : World) : Prop := ∃ I', e = .returned v ∧ I.Le I' ∧ St E w' I' Os
def frc {β : Type} (v : Value) (k : Value → Option β) : Option β := match v with
  | .int a b => k (.int a b)
  | .bool b => k (.bool b)
  | .string s => k (.string s)
  | .slice a n c => k (.slice a n c)
  | .pointer p => k (.pointer p)
  | .map m => k (.map m)
  | .func f xs ys => k (.func f xs ys)
  | .agg cs => k (.agg cs)
  | .tuple vs => k (.tuple vs)
  | _ => none
def gi {β : Type} (b : BinOp) (q : IntKind) (x y : Int) (k : Value → Option β) : Option β := match b with
  | .lss => k (.bool (decide (x < y)))
  | .leq => k (.bool (decide (x ≤ y)))
  | .gtr => k (.bool (decide (x > y)))
  | .geq => k (.bool (decide (x ≥ y)))
  | .eql => k (.bool (x == y))
  | .neq => k (.bool (x != y))
  | .add => match q with | .i64 => k (.int .i64 (w64 (x + y))) | _ => none
  | .sub => match q with | .i64 => k (.int .i64 (w64 (x - y))) | _ => none
  | .mul => match q with | .i64 => k (.int .i64 (w64 (x * y))) | _ => none
  | _ => none
def gs1 {β : Type} (op : Op) (e : Operand → Value) (k : Value → Option β) : Option β := match op with
  | .move x => frc (e x) k
  | .pick c a b => match e c with
    | .bool true => frc (e a) k
    | .bool false => frc (e b) k
    | _ => none
  | .assign x => frc (e x) k
  | .nilCheck x => frc (e x) k
  | .extract x i => match e x with
    | .tuple vs => match vs[i]? with
      | some v => frc v k
      | none => none
    | _ => none
  | .binOp b _ x y _ => match e x, e y with
    | .int q m, .int _ n => gi b q m n k
    | .string s, .string t => match b with
      | .eql => k (.bool (sEq s t))
      | .neq => k (.bool (!sEq s t))
      | _ => none
    | .bool s, .bool t => match b with
      | .eql => k (.bool (s == t))
      | _ => none
    | _, _ => none
  | .unOp .not _ x => match e x with
    | .bool b => k (.bool (!b))
    | _ => none
  | .call c => match c.callee, c.args.toList with
    | .builtin .len, [x] => match e x with
      | .slice _ n _ => k (.int .i64 (n : Int))
      | .string s => k (.int .i64 (s.size : Int))
      | _ => none
    | _, _ => none
  | _ => none
def gs (ops : Array Oper) : Nat → Nat → List Nat → Fr → Option (List (Nat × Nat × Value))
  | _, 0, _, _ => some []
  | i, k + 1, fs, fr => match ops[i]? with
    | some ⟨some d, op, _, _, _, _⟩ => match op with
      | .fieldAddr _ x _ => match ev fr x with
        | .pointer (some ⟨b, o, p⟩) => match fs with
          | [] => none
          | 0 :: fs => match gs ops (i + 1) k fs ((d, .pointer (some ⟨b, o, p⟩)) :: fr) with
            | some r => some ((i, d, .pointer (some ⟨b, o, p⟩)) :: r)
            | none => none
          | f :: fs => match gs ops (i + 1) k fs ((d, .pointer (some ⟨b, o + f, p⟩)) :: fr) with
            | some r => some ((i, d, .pointer (some ⟨b, o + f, p⟩)) :: r)
            | none => none
        | _ => none
      | op => gs1 op (ev fr) fun v => match gs ops (i + 1) k fs ((d, v) :: fr) with
        | some r => some ((i, d, v) :: r)
        | none => none
    | _ => none
def rgn : Nat → Nat → List Nat
  | _, 0 => []
  | i, k + 1 => i :: rgn (i + 1) k
theorem frc_some {β : Type} {v : Value} {k : Value → Option β} {r : β} (h : frc v k = some r) : ∃ u, k u = some r := by
  unfold frc at h
  split at h <;> first | exact ⟨_, h⟩ | cases h
theorem gi_some {β : Type} {b : BinOp} {q : IntKind} {x y : Int} {k : Value → Option β} {r : β} (h : gi b q x y k = some r) : ∃ u, k u = some r := by
  unfold gi at h
  repeat' split at h
  all_goals first | exact ⟨_, h⟩ | cases h
theorem gs1_some {β : Type} {op : Op} {e : Operand → Value} {k : Value → Option β} {r : β} (h : gs1 op e k = some r) : ∃ u, k u = some r := by
  unfold gs1 at h
  repeat' split at h
  all_goals first | exact frc_some h | exact gi_some h | exact ⟨_, h⟩ | cases h
theorem gs_at {ops : Array Oper} : ∀ (k i : Nat) (fs : List Nat) (fr : Fr) {vs : List (Nat × Nat × Value)}, gs ops i k fs fr = some vs → vs.map (·.1) = rgn i k
  | 0, i, fs, fr, vs, h => by unfold gs at h; cases h; rfl
  | k + 1, i, fs, fr, vs, h => by
    unfold gs at h
    split at h
    · split at h
      · repeat' split at h
        all_goals first
          | (cases h; rename_i hh; exact congrArg (i :: ·) (gs_at k (i + 1) _ _ hh))
          | cases h
      · obtain ⟨u, hu⟩ := gs1_some h
        split at hu
        · cases hu; rename_i hh; exact congrArg (i :: ·) (gs_at k (i + 1) _ _ hh)
        · cases hu
    · cases h
def ld1 (ops : Array Oper) (i : Nat) (fr : Fr) (c : Array Value) : Option (Nat × Value) := match ops[i]? with
  | some ⟨some d, .load _ x, _, _, _, _⟩ => match ev fr x with
    | .pointer (some ⟨_, o, _⟩) => match c[o]? with
      | some v => frc v fun v => some (d, v)
      | none => none
    | _ => none
  | _ => none
def ldk (ops : Array Oper) (i : Nat) (cs : List Value) (k : Nat) : Option (Nat × Value) := match ops[i]? with
  | some ⟨some d, _, _, _, _, _⟩ => match cs[k]? with
    | some v => frc v fun v => some (d, v)
    | none => none
  | _ => none
def dsO (ops : Array Oper) (i : Nat) : Option Nat := match ops[i]? with
  | some ⟨some d, _, _, _, _, _⟩ => some d
  | _ => none
def Ixs (a : Option Addr) (len : Nat) (j : Int) : Prop := 0 ≤ j ∧ j < (len : Int) ∧ a = some ⟨bl a, of a, none⟩
section
variable {P : Program} {n : Nat} {K : World → Prop} {qt : Op → Bool} {z : Nat} {ops : Array Oper} {Q : Exit → Act → World → Prop} {fr fr' : Fr} {w : World} {l : List Nat} {i : Nat}
  {dst : Option Tmp} {ty : TypeId} {pos : String} {after : Array Edge} {guard : Option (Nat × Bool)} {v : Value} {y : Code} {id : Nat}
theorem yf {vs : List (Nat × Nat × Value)} (i k : Nat) (fs : List Nat) (hg : gs ops i k fs fr = some vs) (h : WO P n K qt z ops Q l (ptL vs fr) w) (h1 : okL n ops vs fr = true := by kernel_rfl)
    (h2 : ∀ w', resL P ops w' vs fr = wantL w' vs := by intro _; kernel_rfl) : WO P n K qt z ops Q (rgn i k ++ l) fr w := gs_at k i _ fr hg ▸ yba vs h1 h2 h
theorem ya {vs : List (Nat × Nat × Value)} (i k : Nat) (hg : gs ops i k [] fr = some vs) (h : WO P n K qt z ops Q l (ptL vs fr) w) (h1 : okL n ops vs fr = true := by kernel_rfl)
    (h2 : ∀ w', resL P ops w' vs fr = wantL w' vs := by intro _; kernel_rfl) : WO P n K qt z ops Q (rgn i k ++ l) fr w := gs_at k i _ fr hg ▸ yba vs h1 h2 h
theorem yj {d : Nat} {t : TypeId} {x : Operand} {b off : Nat} {c : Array Value} {T : TypeId} {fz : Nat × Nat} (hrd : ∀ w', Kx K (qt (.load t x)) w w' → Rdb w' (one b (.cells c T fz))) (hg : ld1 ops i fr c = some (d, v)) (h : WO P n K qt z ops Q l ((d, v) :: fr) w)
    (ho : ops[i]? = some ⟨some d, .load t x, ty, pos, after, guard⟩ := by exact rfl) (hok : okAt n ops fr ⟨some d, .load t x, ty, pos, after, guard⟩ = true := by kernel_rfl)
    (ht : aggOf P t = some false := by kernel_rfl) (hx : ev fr x = .pointer (some ⟨b, off, none⟩) := by exact rfl) (hv : c[off]? = some v := by kernel_rfl) : WO P n K qt z ops Q (i :: l) fr w :=
  ybn ho hok ht hx (fun w' hw' => cell_one (hrd w' hw') hv) h
theorem yar {d : Nat} {t : TypeId} {x : Operand} {H : Mem} {b o : Nat} {cs : List Value} (hc : CellsAt H b o cs) (k : Nat) (hrd : ∀ w', Kx K (qt (.load t x)) w w' → Rdb w' H) (hg : ldk ops i cs k = some (d, v)) (h : WO P n K qt z ops Q l ((d, v) :: fr) w)
    (ho : ops[i]? = some ⟨some d, .load t x, ty, pos, after, guard⟩ := by exact rfl) (hok : okAt n ops fr ⟨some d, .load t x, ty, pos, after, guard⟩ = true := by kernel_rfl)
    (ht : aggOf P t = some false := by kernel_rfl) (hx : ev fr x = .pointer (some ⟨b, o + k, none⟩) := by exact rfl) (hv : cs[k]? = some v := by kernel_rfl) : WO P n K qt z ops Q (i :: l) fr w :=
  ybn ho hok ht hx (fun w' hw' => hc.cellk k hv (hrd w' hw')) h
theorem yan {d : Nat} {t : TypeId} {x : Operand} {H : Mem} {b o : Nat} {cs : List Value} (hc : CellsAt H b o cs) (hrd : ∀ w', Kx K (qt (.load t x)) w w' → Rdb w' H) (hg : ldk ops i cs 0 = some (d, v)) (h : WO P n K qt z ops Q l ((d, v) :: fr) w)
    (ho : ops[i]? = some ⟨some d, .load t x, ty, pos, after, guard⟩ := by exact rfl) (hok : okAt n ops fr ⟨some d, .load t x, ty, pos, after, guard⟩ = true := by kernel_rfl)
    (ht : aggOf P t = some false := by kernel_rfl) (hx : ev fr x = .pointer (some ⟨b, o, none⟩) := by exact rfl) (hv : cs[0]? = some v := by kernel_rfl) : WO P n K qt z ops Q (i :: l) fr w :=
  ybn ho hok ht hx (fun w' hw' => hc.cell0 hv (hrd w' hw')) h
theorem yao {d : Nat} {t t' : TypeId} {x : Operand} (j : Nat) (hg : dsO ops i = some d) (h : WO P n K qt z ops Q l ((d, .int .i64 ((j + 1 : Nat) : Int)) :: fr) w)
    (ho : ops[i]? = some ⟨some d, .binOp .add t x (.const (.int .i64 1)) t', ty, pos, after, guard⟩ := by exact rfl) (hok : okAt n ops fr ⟨some d, .binOp .add t x (.const (.int .i64 1)) t', ty, pos, after, guard⟩ = true := by kernel_rfl)
    (hx : ev fr x = .int .i64 (j : Int) := by exact rfl) (hj : j + 1 < big := by first | omega | (dsimp only at *; omega) | (simp only [List.length_cons, List.length_nil] at *; omega)) : WO P n K qt z ops Q (i :: l) fr w :=
  WO.incr ho hok hx hj h
theorem y0 (e sz : Nat) {d : Nat} {t : TypeId} {x ix : Operand} {a : Option Addr} {len cap : Nat} {k : IntKind} {j : Int} (hb : Ixs a len j) (hg : dsO ops i = some d)
    (h : WO P n K qt z ops Q l ((d, .pointer (some ⟨bl a, of a + j.toNat * sz, none⟩)) :: fr) w)
    (ho : ops[i]? = some ⟨some d, .indexAddr t x ix, ty, pos, after, guard⟩ := by exact rfl) (hok : okAt n ops fr ⟨some d, .indexAddr t x ix, ty, pos, after, guard⟩ = true := by kernel_rfl)
    (ht : sliceOf P t = some e := by kernel_rfl) (hsz : sizeIs P e = some sz := by kernel_rfl) (hx : ev fr x = .slice a len cap := by exact rfl) (hi : ev fr ix = .int k j := by exact rfl) : WO P n K qt z ops Q (i :: l) fr w :=
  ybq ho hok ht hsz hx hb.2.2 hi hb.1 hb.2.1 h
theorem dsO_eq {o : Oper} {d : Nat} (ho : ops[i]? = some o) (hg : dsO ops i = some d) : o.dst = some d := by
  obtain ⟨_ | e, _, _, _, _, _⟩ := o <;> simp only [dsO, ho, Option.some.injEq, reduceCtorEq] at hg
  rw [hg]
theorem yab {E : World} {I : Mem} {Os : List Mem} (hS : St E w I Os) (cs : List Value) (T : TypeId) {o : Oper} {d : Nat} (hg : dsO ops i = some d) (h : ∀ b w', St E w' I (one b (.cells cs.toArray T (0, 0)) :: Os) → WO P n KT qF z ops Q l ((d, Pt b 0) :: fr) w')
    (ho : ops[i]? = some o := by exact rfl) (hok : okAt n ops fr o = true := by kernel_rfl) (hq : qF o.op = false := by exact rfl)
    (hr : (execOp (ev fr) o).run P w = .ok (.value (Pt w.heap.size 0)) (w.alloc (.cells cs.toArray T (0, 0))) := by kernel_rfl) : WO P n KT qF z ops Q (i :: l) fr w :=
  WO.nw hS cs T (fun b w' hS' => by rw [dsO_eq ho hg]; exact h b w' hS') ho hok hq hr
theorem yaa {E : World} {I : Mem} {Os : List Mem} {b : Nat} {c : Array Value} {T : TypeId} (hS : St E w I (one b (.cells c T (0, 0)) :: Os)) (off : Nat) (cs' : List Value) {t : TypeId} {x y : Operand}
    (h : ∀ w', St E w' I (one b (.cells cs'.toArray T (0, 0)) :: Os) → WO P n KT qF z ops Q l fr w')
    (ho : ops[i]? = some ⟨none, .store t x y, ty, pos, after, guard⟩ := by exact rfl) (hok : okAt n ops fr ⟨none, .store t x y, ty, pos, after, guard⟩ = true := by kernel_rfl)
    (hx : ev fr x = .pointer (some ⟨b, off, none⟩) := by exact rfl) (hy : ev fr y = v := by exact rfl) (hs : sizeIs P t = some v.cells.size := by kernel_rfl) (h1 : v.cells.toList.all Value.oneCell' = true := by kernel_rfl)
    (hlt : Nat.ble (off + v.cells.size) c.size = true := by kernel_rfl) (hc : wrt c off v.cells.toList = cs'.toArray := by kernel_rfl) : WO P n KT qF z ops Q (i :: l) fr w :=
  WO.st (dst := none) hS off cs' h ho hok hx hy hs h1 hlt hc
theorem y7 {d : Nat} {t : TypeId} {x : Operand} {b off : Nat} {c : Array Value} {T : TypeId} {fz : Nat × Nat} (cs : List Value) (hrd : ∀ w', Kx K (qt (.load t x)) w w' → Rdb w' (one b (.cells c T fz))) (hg : dsO ops i = some d) (h : WO P n K qt z ops Q l ((d, .agg cs.toArray) :: fr) w)
    (ho : ops[i]? = some ⟨some d, .load t x, ty, pos, after, guard⟩ := by exact rfl) (hok : okAt n ops fr ⟨some d, .load t x, ty, pos, after, guard⟩ = true := by kernel_rfl)
    (ht : aggOf P t = some true := by kernel_rfl) (hx : ev fr x = .pointer (some ⟨b, off, none⟩) := by exact rfl) (hs : sizeIs P t = some cs.length := by kernel_rfl) (hv : (c.toList.drop off).take cs.length = cs := by kernel_rfl) : WO P n K qt z ops Q (i :: l) fr w :=
  WO.ln (dst := some d) cs hrd h ho hok ht hx hs hv
theorem yaq {d : Nat} {t : TypeId} {x : Operand} {H : Mem} {b o off : Nat} {cs : List Value} (ds : List Value) (hc : CellsAt H b o cs) (k : Nat) (hrd : ∀ w', Kx K (qt (.load t x)) w w' → Rdb w' H) (hg : dsO ops i = some d) (h : WO P n K qt z ops Q l ((d, .agg ds.toArray) :: fr) w)
    (ho : ops[i]? = some ⟨some d, .load t x, ty, pos, after, guard⟩ := by exact rfl) (hok : okAt n ops fr ⟨some d, .load t x, ty, pos, after, guard⟩ = true := by kernel_rfl)
    (ht : aggOf P t = some true := by kernel_rfl) (hx : ev fr x = .pointer (some ⟨b, off, none⟩) := by exact rfl) (hs : sizeIs P t = some ds.length := by kernel_rfl) (hk : (cs.drop k).take ds.length = ds := by kernel_rfl) (hof : off = o + k := by exact rfl) : WO P n K qt z ops Q (i :: l) fr w :=
  WO.lE (dst := some d) ds hc k hrd h ho hok ht hx hs hk hof
theorem WO.c1 {o : Oper} {f : FuncId} {args : Array Value} {E : World} {I : Mem} {Os : List Mem} {d : Nat} (hc : Calls P f args w (fun e w' => ∃ (I' : Mem), e = .returned v ∧ I.Le I' ∧ St E w' I' Os)) (hg : dsO ops i = some d) (h : ∀ I' w', I.Le I' → St E w' I' Os → WO P n KT qF z ops Q l ((d, v) :: fr) w')
    (ho : ops[i]? = some o := by exact rfl) (hok : okAt n ops fr o = true := by kernel_rfl) (hq : qF o.op = false := by exact rfl) (hr : (execOp (ev fr) o).run P w = .ok (.enter f args) w := by kernel_rfl) : WO P n KT qF z ops Q (i :: l) fr w :=
  WO.cc hc (fun I' w' hl hS => by rw [dsO_eq ho hg]; exact h I' w' hl hS) ho hok hq hr
theorem yau {α : Type} {T sz : Nat} {rel : Mem → List Value → α → Prop} [Mono rel] {E : World} {I C H : Mem} {Os : List Mem} {d : Nat} (e' b : Nat) (zs : List Value) (hS : St E w I (C :: Os)) {a : Option Addr} {cap : Nat} {xs : List α} (hown : OwnSl T sz rel I C a cap xs) {t tx : TypeId} {s x : Operand}
    {a2 : Option Addr} {cap2 : Nat} {ys : List α} (hsrc : SlAt sz rel H I a2 cap2 ys) (hr : Rdb w H) (hfit : (xs.length + ys.length) * b ≤ 140737488355328) {us : List α} (hus : us = xs ++ ys) (hg : dsO ops i = some d)
    (h : ∀ a' cap' w' C', St E w' I (C' :: Os) → OwnSl T sz rel I C' a' cap' us → WO P n KT qF z ops Q l ((d, .slice a' us.length cap') :: fr) w')
    (ho : ops[i]? = some ⟨some d, .call ⟨.builtin .append, #[s, x], #[t, tx]⟩, ty, pos, after, guard⟩ := by exact rfl) (hok : okAt n ops fr ⟨some d, .call ⟨.builtin .append, #[s, x], #[t, tx]⟩, ty, pos, after, guard⟩ = true := by kernel_rfl)
    (ht : sliceOf P t = some T := by kernel_rfl) (hx : sliceOf P tx = some e' := by kernel_rfl) (hT : elOf P T = some (sz, b, zs.toArray) := by kernel_rfl) (hz : zs.toArray.size = sz := by exact rfl) (hb : Nat.ble 1 b = true := by exact rfl)
    (es : ev fr s = .slice a xs.length cap := by exact rfl) (ex : ev fr x = .slice a2 ys.length cap2 := by exact rfl) : WO P n KT qF z ops Q (i :: l) fr w :=
  WO.ap (dst := some d) e' b zs hS hown hsrc hr hfit hus h ho hok ht hx hT hz hb es ex
end
def pas (n : Nat) (ops : Array Oper) (f : Fr) (g : Nat) : List Nat → Fr → Option Fr
  | [], fr => some fr
  | i :: r, fr => match ops[i]? with
    | some o => match unwantedAt n ops fr o && fits n o.dst && frO o.dst f g with
      | true => pas n ops f g r (pt fr o.dst undef)
      | false => none
    | none => none
theorem ExtR.one {g d : Nat} {b : Bool} {f f' : Fr} {u : Value} (h : ExtR g b f f') (hn : frO (some d) f g = true) : ExtR g b f ((d, u) :: f') := h.cons hn
theorem pas_ext {n : Nat} {ops : Array Oper} {f : Fr} {g : Nat} {b : Bool} : ∀ (l : List Nat) {fr fr1 : Fr}, pas n ops f g l fr = some fr1 → ExtR g b f fr → ExtR g b f fr1
  | [], fr, fr1, h, he => by unfold pas at h; injection h with h; subst h; exact he
  | i :: r, fr, fr1, h, he => by
    unfold pas at h
    split at h
    · split at h
      · rename_i hc
        simp only [Bool.and_eq_true] at hc
        exact pas_ext r h (he.pt hc.2)
      · cases h
    · cases h
section
variable {P : Program} {n : Nat} {K : World → Prop} {qt : Op → Bool} {z : Nat} {ops : Array Oper} {Q : Exit → Act → World → Prop} {fr : Fr} {w : World} {l2 : List Nat}
theorem pas_wo {f : Fr} {g : Nat} : ∀ (l : List Nat) {l' : List Nat} {fr fr1 : Fr}, pas n ops f g l fr = some fr1 → WO P n K qt z ops Q l' fr1 w → WO P n K qt z ops Q (l ++ l') fr w
  | [], l', fr, fr1, h, hw => by unfold pas at h; injection h with h; subst h; exact hw
  | i :: r, l', fr, fr1, h, hw => by
    unfold pas at h
    split at h
    · split at h
      · rename_i ho _ hc
        simp only [Bool.and_eq_true] at hc
        exact WO.pass ho hc.1.1 hc.1.2 (pas_wo r h hw)
      · cases h
    · cases h
def Ext0 (f f' : Fr) : Prop := ∀ i v, lk f i = some v → lk f' i = some v
def fr0 (d : Option Tmp) (f : Fr) : Bool := match d with | none => true | some d => (lk f d).isNone
def fl0 (f : Fr) : List (Nat × Nat × Value) → Bool
  | [] => true
  | (_, d, _) :: r => fr0 (some d) f && fl0 f r
theorem Ext0.base {f : Fr} : Ext0 f f := fun _ _ h => h
theorem Ext0.cons {d : Nat} {f f' : Fr} {u : Value} (h : Ext0 f f') (hn : fr0 (some d) f = true := by kernel_rfl) : Ext0 f ((d, u) :: f') := by
  intro i v hv
  simp only [fr0] at hn
  rw [lk_cons, if_neg]
  · exact h i v hv
  · intro e
    subst e
    rw [hv] at hn
    cases hn
theorem Ext0.pt {d : Option Tmp} {f f' : Fr} {u : Value} (h : Ext0 f f') (hn : fr0 d f = true := by kernel_rfl) : Ext0 f (pt f' d u) := by
  cases d with
  | none => exact h
  | some d => exact h.cons hn
theorem Ext0.vl {f : Fr} : ∀ (vs : List (Nat × Nat × Value)) {f' : Fr}, Ext0 f f' → fl0 f vs = true → Ext0 f (ptL vs f')
  | [], f', h, _ => h
  | (_, d, v) :: r, f', h, hn => by
    simp only [fl0, Bool.and_eq_true] at hn
    exact Ext0.vl r (h.cons hn.1) hn.2
theorem Ext0.vs {f f' : Fr} {vs : List (Nat × Nat × Value)} (h : Ext0 f f') (hn : fl0 f vs = true := by kernel_rfl) : Ext0 f (ptL vs f') := Ext0.vl vs h hn
theorem yak {f : Fr} {B : Bool} {tp : Nat} {w0 : World} (he : Ext0 f fr := by repeat first | exact Ext0.base | refine Ext0.vs ?_ | refine Ext0.pt ?_ | refine Ext0.cons ?_) (hv : lk fr tp = some (.bool B) := by exact rfl) (hw : w0 = w := by exact rfl) :
    WO P n K qt z ops (Rd n (fun fr w => (fr = (tp, .bool B) :: f ∧ w0 = w) ∧ K w) Q) [] fr w := fun hK a ha => ⟨(tp, .bool B) :: f, ha.weaken (fun i u hi => by
  rw [lk_cons] at hi
  split at hi
  · rename_i e
    subst e
    rw [← hi]
    exact hv
  · exact he i u hi), ⟨rfl, hw⟩, hK⟩
theorem WO.sk {b : Bool} {fr1 : Fr} (is : List Nat) (k tc tp : Nat) (hp : pas n ops fr tc is ((tc, .bool b) :: fr) = some fr1)
    (h1 : okL n ops [(k, tp, .bool b)] fr1 = true) (h2 : ∀ w', resL P ops w' [(k, tp, .bool b)] fr1 = wantL w' [(k, tp, .bool b)]) (h3 : frO (some tp) fr tc = true) (hlk : lk fr tc = some (.bool b)) :
    WO P n K qt z ops (Rd n (fun fr' w' => (fr' = (tp, .bool b) :: fr ∧ w = w') ∧ K w') Q) (is ++ [k]) fr w := by
  refine y8 tc hlk rfl ?_
  refine pas_wo is hp ?_
  refine yba [(k, tp, .bool b)] h1 h2 ?_
  exact WO.mk tc (rfl : b = b) (by show lk ((tp, Value.bool b) :: fr1) tp = _; rw [lk_cons, if_pos rfl]) (by exact (pas_ext is hp ExtR.base).one h3) hlk rfl
theorem WO.bk {tc tp : Nat} {b B : Bool} {fr : Fr} (hlk : lk fr tc = some (.bool b)) {l : List Nat} (h : WO P n K qt z ops Q l ((tp, .bool B) :: fr) w) : WO P n K qt z ops Q l ((tp, .bool B) :: (tc, .bool b) :: fr) w :=
  fun hK a ha => h hK a (ha.weaken fun i u hi => by
    rw [lk_cons] at hi ⊢
    split at hi
    · rename_i e
      rw [if_pos e]
      exact hi
    · rename_i e
      rw [if_neg e, lk_cons]
      split
      · rename_i e2
        rw [e2, hlk] at hi
        exact hi
      · exact hi)
theorem yav {A B V : Bool} {fr1 : Fr} (is : List Nat) (k tc tp : Nat) (hV : (A || B) = V) (h : A = false → WO P n K qt z ops (Rd n (fun fr' w' => (fr' = (tp, .bool B) :: (tc, .bool false) :: fr ∧ w = w') ∧ K w') Q) (is ++ [k]) ((tc, .bool false) :: fr) w)
    (hrest : WO P n K qt z ops Q l2 ((tp, .bool V) :: fr) w) (hlk : lk fr tc = some (.bool A) := by exact rfl) (hp : pas n ops fr tc is ((tc, .bool true) :: fr) = some fr1 := by exact rfl)
    (h1 : okL n ops [(k, tp, .bool true)] fr1 = true := by kernel_rfl) (h2 : ∀ w', resL P ops w' [(k, tp, .bool true)] fr1 = wantL w' [(k, tp, .bool true)] := by intro _; kernel_rfl) (h3 : frO (some tp) fr tc = true := by kernel_rfl) :
    WO P n K qt z ops Q ((is ++ [k]) ++ l2) fr w := by
  cases A with
  | true =>
    have hV : true = V := hV
    subst hV
    exact WO.jp tp true (WO.sk is k tc tp hp h1 h2 h3 hlk) hrest
  | false =>
    rw [Bool.false_or] at hV
    subst hV
    exact WO.join (fun fr' w' => fr' = (tp, .bool B) :: (tc, .bool false) :: fr ∧ w = w') (by rintro _ _ ⟨rfl, rfl⟩; exact WO.bk hlk hrest) (y8 tc hlk rfl (h rfl))
theorem yaw {A B V : Bool} {fr1 : Fr} (is : List Nat) (k tc tp : Nat) (hV : (A && B) = V) (h : A = true → WO P n K qt z ops (Rd n (fun fr' w' => (fr' = (tp, .bool B) :: (tc, .bool true) :: fr ∧ w = w') ∧ K w') Q) (is ++ [k]) ((tc, .bool true) :: fr) w)
    (hrest : WO P n K qt z ops Q l2 ((tp, .bool V) :: fr) w) (hlk : lk fr tc = some (.bool A) := by exact rfl) (hp : pas n ops fr tc is ((tc, .bool false) :: fr) = some fr1 := by exact rfl)
    (h1 : okL n ops [(k, tp, .bool false)] fr1 = true := by kernel_rfl) (h2 : ∀ w', resL P ops w' [(k, tp, .bool false)] fr1 = wantL w' [(k, tp, .bool false)] := by intro _; kernel_rfl) (h3 : frO (some tp) fr tc = true := by kernel_rfl) :
    WO P n K qt z ops Q ((is ++ [k]) ++ l2) fr w := by
  cases A with
  | false =>
    have hV : false = V := hV
    subst hV
    exact WO.jp tp false (WO.sk is k tc tp hp h1 h2 h3 hlk) hrest
  | true =>
    rw [Bool.true_and] at hV
    subst hV
    exact WO.join (fun fr' w' => fr' = (tp, .bool B) :: (tc, .bool true) :: fr ∧ w = w') (by rintro _ _ ⟨rfl, rfl⟩; exact WO.bk hlk hrest) (y8 tc hlk rfl (h rfl))
end
theorem bsq {α β : Type} {x : α} {f : α → Option β} {r : β} {G : Prop} (h : (some x).bind f = some r) (g : ∀ a, x = a → f a = some r → G) : G := g x rfl h
theorem apk {α β : Type} {b : Nat} {xs ys : List α} {f : List α → Option β} {r : β} {G : Prop} (h : (app b xs ys).bind f = some r) (g : ∀ a, (xs.length + ys.length) * b ≤ 140737488355328 → a = xs ++ ys → f a = some r → G) : G := let ⟨a, h1, h2⟩ := bind_some h; g a (app_some h1).1 (app_some h1).2 h2
theorem cv {P : Program} {n : Nat} {z : Nat} {ops : Array Oper} {Q : Exit → Act → World → Prop} {fr : Fr} {w : World} {l : List Nat} {d : Option Tmp} {v : Value} (h : WO P n KT qF z ops Q l (pt fr d v) w) :
    ∃ u, Ending.returned v = .returned u ∧ KT w ∧ WO P n KT qF z ops Q l (pt fr d u) w := ⟨v, rfl, trivial, h⟩
theorem bsk {α β : Type} {x : Option α} {f : α → Option β} {r : β} {G : Prop} (h : x.bind f = some r) (g : ∀ a, x = some a → f a = some r → G) : G := let ⟨a, h1, h2⟩ := bind_some h; g a h1 h2
theorem le {I J : Mem} (h : I.Le J := by repeat first | assumption | exact Mem.Le.refl _ | refine Mem.Le.trans ?_ (by assumption)) : I.Le J := h
theorem up {α : Type} {sz : Nat} {rel : Mem → List Value → α → Prop} [Mono rel] {I J : Mem} {a : Option Addr} {cap : Nat} {xs : List α} (h : RSl sz rel I a cap xs) (hl : I.Le J := by repeat first | assumption | exact Mem.Le.refl _ | refine Mem.Le.trans ?_ (by assumption)) : RSl sz rel J a cap xs := h.mono hl
theorem sl_ix {α β : Type} {sz : Nat} {rel : Mem → List Value → α → Prop} {H I : Mem} {a : Option Addr} {cap : Nat} {xs : List α} {j : Int} {k : α → Option β} {r : β} (h : SlAt sz rel H I a cap xs) (hr : (idx xs j).bind k = some r) :
    ∃ x, k x = some r ∧ Ixs a xs.length j ∧ ∃ cs, rel I cs x ∧ CellsAt H (bl a) (of a + j.toNat * sz) cs := by
  obtain ⟨x, hx, hr⟩ := bind_some hr
  obtain ⟨h0, h1, hx⟩ := idx_some hx
  obtain ⟨ha, cs, hn, hr', hc⟩ := h.el _ _ hx
  exact ⟨x, hr, ⟨h0, h1, ha⟩, cs, hr', hc⟩
theorem sx {α β : Type} {sz : Nat} {rel : Mem → List Value → α → Prop} [Mono rel] {I : Mem} {a : Option Addr} {cap : Nat} {xs : List α} {j : Int} {k : α → Option β} {r : β} (J : Mem) (h : RSl sz rel I a cap xs) (hr : (idx xs j).bind k = some r)
    (hl : I.Le J := by repeat first | assumption | exact Mem.Le.refl _ | refine Mem.Le.trans ?_ (by assumption)) : ∃ x, k x = some r ∧ Ixs a xs.length j ∧ ∃ cs, rel J cs x ∧ CellsAt J (bl a) (of a + j.toNat * sz) cs := sl_ix (h.mono hl) hr
section
variable {E w : World} {I A1 A2 A3 A4 A5 A6 A7 A8 : Mem} {Os : List Mem}
theorem St.d2 (h : St E w I (A1 :: A2 :: Os)) : St E w I Os := h.drop.drop
theorem St.d3 (h : St E w I (A1 :: A2 :: A3 :: Os)) : St E w I Os := h.d2.drop
theorem St.d4 (h : St E w I (A1 :: A2 :: A3 :: A4 :: Os)) : St E w I Os := h.d3.drop
theorem St.d5 (h : St E w I (A1 :: A2 :: A3 :: A4 :: A5 :: Os)) : St E w I Os := h.d4.drop
theorem St.d6 (h : St E w I (A1 :: A2 :: A3 :: A4 :: A5 :: A6 :: Os)) : St E w I Os := h.d5.drop
theorem St.d7 (h : St E w I (A1 :: A2 :: A3 :: A4 :: A5 :: A6 :: A7 :: Os)) : St E w I Os := h.d6.drop
theorem St.d8 (h : St E w I (A1 :: A2 :: A3 :: A4 :: A5 :: A6 :: A7 :: A8 :: Os)) : St E w I Os := h.d7.drop
end
end Go.Gv
namespace Go.Gv
open Go
def noDef (ops : Array Oper) : Bool := ops.toList.all fun o => match o.op with | .defer _ => false | _ => true
theorem noDef_at {ops : Array Oper} (h : noDef ops = true) {i : Nat} {o : Oper} (ho : ops[i]? = some o) : ∀ c, o.op ≠ .defer c := by
  intro c e
  have hm : o ∈ ops.toList := by
    rw [← Array.getElem?_toList] at ho
    exact List.mem_of_getElem? ho
  have := List.all_eq_true.1 h o hm
  rw [e] at this
  cases this
section
variable {P : Program} {F : Fence} {K : World → Prop} {qt : Op → Bool} {z n : Nat} {ops : Array Oper} {Q : Exit → Act → World → Prop} {fr : Fr} {w : World}
theorem effK.wpIn (hfn : ∀ f, F.fn f) (hd : F.depth.isSome = false) (hc : ∀ {f args w R}, Calls P f args w R → CallsIn F 0 P f args w R) {o : Oper} (hs : ∀ ρ, o.semAt F.round ρ = execOp ρ o) {a : Act} {f : Value → World → Prop} {next : Act → World → Prop}
    (h : effK P o a w f) (hn : ∀ v w', f v w' → next (a.put o.dst v) w') : o.wpIn F 0 P a w next Q := by
  refine ⟨fun f _ => hfn f, ?_⟩
  rw [hs]
  unfold effK at h
  split at h
  · rename_i hr; rw [hr]; exact hn _ _ h
  · rename_i hr; rw [hr]; exact hn _ _ h
  · rename_i hr
    rw [hr]
    refine ⟨fun h => (by rw [hd] at h; cases h), (hc h).mono ?_⟩
    rintro e w'' ⟨v, rfl, hv⟩
    exact hn _ _ hv
  · exact h.elim
theorem inOf (hfn : ∀ f, F.fn f) (hd : F.depth.isSome = false) (hc : ∀ {f args w R}, Calls P f args w R → CallsIn F 0 P f args w R) (hs : ∀ (i : Nat) (o : Oper) ρ, ops[i]? = some o → o.semAt F.round ρ = execOp ρ o) {Q' : Exit → Act → World → Prop} {l2 : List Nat}
    (hq2 : ∀ a w, Q' .normal a w → wpOpsIn F 0 P ops Q l2 a w) : ∀ (l : List Nat) (a : Act) (w : World), wpK P K qt z ops Q' l a w → wpOpsIn F 0 P ops Q (l ++ l2) a w
  | [], a, w, h => hq2 a w h
  | i :: l, a, w, h => by
    simp only [wpK] at h
    simp only [List.cons_append, wpOpsIn]
    cases ho : ops[i]? with
    | none => rw [ho] at h; exact inOf hfn hd hc hs hq2 l a w h
    | some o =>
      simp only [ho] at h ⊢
      by_cases hw : Region.wanted o (yielded ops a.tmps) = true
      · simp only [hw, if_true] at h ⊢
        by_cases hq : (qt o.op && Nat.blt i z) = true
        · rw [if_pos hq] at h
          obtain ⟨v, hv, hr⟩ := h
          refine ⟨fun f _ => hfn f, ?_⟩
          rw [hs i o _ ho, hv w (.inl (.inr rfl))]
          exact inOf hfn hd hc hs hq2 l _ w hr
        · rw [if_neg hq] at h
          exact effK.wpIn hfn hd hc (fun ρ => hs i o ρ ho) h fun v w' ⟨_, hr⟩ => inOf hfn hd hc hs hq2 l _ w' hr
      · rw [if_neg hw] at h
        simp only [hw, if_false, Bool.false_eq_true]
        exact ⟨fun f _ => hfn f, inOf hfn hd hc hs hq2 l _ w h⟩
def WY (P : Program) (n : Nat) (ops : Array Oper) (Q : Exit → Act → World → Prop) (l : List Nat) (fr : Fr) (w : World) : Prop := ∀ a, Ag n fr a → wpOpsIn Fence.wide 0 P ops Q l a w
def nxY (P : Program) (ops : Array Oper) (Q : Exit → Act → World → Prop) (l2 : List Nat) : Exit → Act → World → Prop := fun e a w => e = .normal ∧ wpOpsIn Fence.wide 0 P ops Q l2 a w
theorem WY.of {l2 : List Nat} (l1 : List Nat) (h : WO P n KT qF 0 ops (nxY P ops Q l2) l1 fr w) : WY P n ops Q (l1 ++ l2) fr w :=
  fun a ha => inOf (F := Fence.wide) (fun _ => trivial) rfl (fun h => callsIn_wide.2 h) (fun _ _ _ _ => rfl) (fun a w h => h.2) l1 a w (h trivial a ha)
theorem WY.go {l2 : List Nat} {K : World → Prop} {qt : Op → Bool} {z : Nat} (h : WY P n ops Q l2 fr w) : WO P n K qt z ops (nxY P ops Q l2) [] fr w := yt fun a ha => ⟨rfl, h a ha⟩
theorem WY.yield {i : Nat} {l2 : List Nat} {o : Oper} {l : Nat} {args : Array Value} {R : Ending → World → Prop} (hy : YieldAt Fence.wide 0 P l args w R) (h : ∀ e w', R e w' → ∃ v, e = .returned v ∧ WY P n ops Q l2 (pt fr o.dst v) w')
    (ho : ops[i]? = some o := by exact rfl) (hok : okAt n ops fr o = true := by kernel_rfl) (hr : (execOp (ev fr) o).run P w = (Instr.yield l args).run P w := by kernel_rfl) : WY P n ops Q (i :: l2) fr w := by
  intro a ha
  simp only [okAt, Bool.and_eq_true] at hok
  obtain ⟨⟨⟨hw, hh⟩, hs⟩, hf⟩ := hok
  have e := ha.congr hs hh
  obtain ⟨fn, tmps, assign, body, hy, hR⟩ := hy
  simp only [wpOpsIn, ho]
  rw [if_pos (wanted_of ha hw)]
  refine ⟨fun _ _ => trivial, ?_⟩
  rw [show o.semAt Fence.wide.round a.eval = execOp a.eval o from rfl, e, hr, hy]
  refine ⟨fun h => (by cases h), hR.mono ?_⟩
  intro e' w' h'
  obtain ⟨v, rfl, hv⟩ := h e' w' h'
  exact hv _ (ha.put hf v)
def WI (r : Nat) (P : Program) (n : Nat) (c : Code) (Q : Exit → Act → World → Prop) (fr : Fr) (w : World) : Prop := ∀ a, Ag n fr a → c.wpIn (Fence.wide.inRound r) 0 P Q a w
theorem semAt_round (l : Nat) (ρ : Operand → Value) (o : Oper) (h : ∀ c, o.op ≠ .defer c) : Oper.semAt (some l) ρ o = execOp ρ o := by
  unfold Oper.semAt
  cases ho : o.op <;> first | rfl | exact absurd ho (h _)
theorem WI.region {r id : Nat} (l : List Nat) (h : WO P n KT qF 0 ops Q l fr w) (hl : List.range ops.size = l := by kernel_rfl) (hnd : noDef ops = true := by kernel_rfl) : WI r P n (.region id ops false) Q fr w :=
  fun a ha => wpIn_region (by
    rw [hl]
    have := inOf (F := Fence.wide.inRound r) (Q := Q) (Q' := Q) (l2 := []) (fun _ => trivial) rfl (fun h => CallsIn.inRound r (callsIn_wide.2 h)) (fun i o ρ ho => semAt_round r ρ o (noDef_at hnd ho)) (fun a w h => h) l a w (h trivial a ha)
    rwa [List.append_nil] at this)
theorem WI.block {r id : Nat} {c : Code} (h : WI r P n c (Exit.inBlock id Q) fr w) : WI r P n (.block id c) Q fr w := fun a ha => wpIn_block (h a ha)
theorem WI.seq {r : Nat} {x y : Code} (h : WI r P n x (Exit.then (y.wpIn (Fence.wide.inRound r) 0 P Q) Q) fr w) : WI r P n (.seq x y) Q fr w := fun a ha => wpIn_seq (h a ha)
theorem WI.next {r : Nat} {y : Code} (h : WI r P n y Q fr w) : En n (Exit.then (y.wpIn (Fence.wide.inRound r) 0 P Q) Q) .normal fr w := fun a ha => h a ha
end
section
variable {P : Program} {K : World → Prop} {qt : Op → Bool} {z n : Nat} {ops : Array Oper} {Q : Exit → Act → World → Prop} {fr : Fr} {w : World}
end
end Go.Gv
namespace Go.Gv
open Go
def tmodO (x y : Int) : Option Int := if y = 0 then none else some (Int.tmod x y)
theorem tmodO_some {x y r : Int} (h : tmodO x y = some r) : y ≠ 0 ∧ r = Int.tmod x y := by
  unfold tmodO at h
  split at h
  · cases h
  · rename_i hy
    injection h with h
    exact ⟨hy, h.symm⟩
theorem WO.rem {P : Program} {n : Nat} {K : World → Prop} {qt : Op → Bool} {z : Nat} {ops : Array Oper} {Q : Exit → Act → World → Prop} {fr : Fr} {w : World} {l : List Nat} {i : Nat} {dst : Option Tmp} {ty : TypeId} {pos : String} {after : Array Edge} {guard : Option (Nat × Bool)} {t t2 : TypeId} {x y : Operand} {k : IntKind} {a b r : Int}
    (hm : tmodO a b = some r) (h : WO P n K qt z ops Q l (pt fr dst (.int k r)) w) (ho : ops[i]? = some ⟨dst, .binOp .rem t x y t2, ty, pos, after, guard⟩ := by exact rfl) (hok : okAt n ops fr ⟨dst, .binOp .rem t x y t2, ty, pos, after, guard⟩ = true := by kernel_rfl)
    (hx : ev fr x = .int k a := by exact rfl) (hy : ev fr y = .int k b := by exact rfl) : WO P n K qt z ops Q (i :: l) fr w := by
  obtain ⟨hb, rfl⟩ := tmodO_some hm
  refine WO.val ho hok (.int k (Int.tmod a b)) (fun w' _ => ?_) h
  simp [execOp, hx, hy, binOp, Op.intDiv, hb, eqGuard, Result.andThen]
end Go.Gv
namespace Go.Gv
open Go
def ptr (x : Option Nat) : Value := match x with | some b => .pointer (some ⟨b, 0, none⟩) | none => .pointer none
def valP : Mem → Value → Option Nat → Prop := fun _ v x => v = ptr x
instance : VMono valP := ⟨fun _ h => h⟩
structure Objs {ν : Type} (rel : Mem → List Value → ν → Prop) (T : TypeId) (I C : Mem) (l : List (Nat × ν)) : Prop where
  nd : (l.map (·.1)).Nodup
  cell : ∀ p ∈ l, ∃ cs : List Value, C p.1 = some (.cells cs.toArray T (0, 0)) ∧ rel I cs p.2
section
variable {ν : Type} {rel : Mem → List Value → ν → Prop} {T : TypeId} {I J C : Mem} {l : List (Nat × ν)}
theorem Objs.mono [Mono rel] (h : Objs rel T I C l) (hl : I.Le J) : Objs rel T J C l := ⟨h.nd, fun p hp => by
  obtain ⟨cs, h1, h2⟩ := h.cell p hp
  exact ⟨cs, h1, Mono.mono hl h2⟩⟩
theorem Objs.nil : Objs rel T I C ([] : List (Nat × ν)) := ⟨by simp, fun p hp => by cases hp⟩
theorem Objs.sub {l' : List (Nat × ν)} (h : Objs rel T I C l) (hs : l'.Sublist l) : Objs rel T I C l' := ⟨h.nd.sublist (hs.map _), fun p hp => h.cell p (hs.subset hp)⟩
theorem St.merge {E w : World} {A B : Mem} {Os : List Mem} (h : St E w I (A :: B :: Os)) : St E w I (A.with B :: Os) := by
  have hA := h.ow A (by simp)
  have hB := h.ow B (by simp)
  obtain ⟨p1, p2⟩ := List.pairwise_cons.1 h.dj
  obtain ⟨p3, p4⟩ := List.pairwise_cons.1 p2
  have apt : ∀ {D : Mem}, Apt A D → Apt B D → Apt (A.with B) D := by
    intro D a b i
    rcases a i with x | x
    · rcases b i with y | y
      · exact .inl (by simp [Mem.with, x, y])
      · exact .inr y
    · exact .inr x
  refine ⟨h.os, h.tape, h.output, h.im, ?_, List.pairwise_cons.2 ⟨fun D hD => apt (p1 D (by simp [hD])) (p3 D hD), p4⟩⟩
  intro D hD
  rcases List.mem_cons.1 hD with rfl | hD
  · refine ⟨fun b o ho => ?_, apt hA.2 hB.2⟩
    cases ha : A b with
    | some o' => simp only [Mem.with, ha] at ho; exact hA.1 b o (by rw [ha]; exact ho)
    | none => simp only [Mem.with, ha] at ho; exact hB.1 b o ho
  · exact h.ow D (by simp [hD])
theorem Objs.add {E w : World} {Os : List Mem} {b : Nat} {cs : List Value} {v : ν} (h : Objs rel T I C l) (hS : St E w I (one b (.cells cs.toArray T (0, 0)) :: C :: Os)) (hr : rel I cs v) : Objs rel T I ((one b (.cells cs.toArray T (0, 0))).with C) (l ++ [(b, v)]) := by
  have hap := (List.pairwise_cons.1 hS.dj).1 C (by simp)
  have hC : C b = none := by
    rcases hap b with x | x
    · rw [one_at] at x; cases x
    · exact x
  have hne : ∀ p ∈ l, p.1 ≠ b := fun p hp e => by
    obtain ⟨c', h1, _⟩ := h.cell p hp
    rw [e, hC] at h1
    cases h1
  refine ⟨?_, fun p hp => ?_⟩
  · rw [List.map_append]
    refine List.nodup_append.2 ⟨h.nd, by simp, fun a ha c hc => ?_⟩
    obtain ⟨p, hp, rfl⟩ := List.mem_map.1 ha
    simp only [List.map_cons, List.map_nil, List.mem_cons, List.not_mem_nil, or_false] at hc
    subst hc
    exact hne p hp
  · rcases List.mem_append.1 hp with hp | hp
    · obtain ⟨c', h1, h2⟩ := h.cell p hp
      exact ⟨c', by simp only [Mem.with, one_ne (hne p hp)]; exact h1, h2⟩
    · simp only [List.mem_cons, List.not_mem_nil, or_false] at hp
      subst hp
      exact ⟨cs, by simp only [Mem.with, one_at], hr⟩
theorem Objs.set {i b : Nat} {v v' : ν} {cs' : List Value} (h : Objs rel T I C l) (hm : l[i]? = some (b, v)) (hr : rel I cs' v') : Objs rel T I (C.set b (.cells cs'.toArray T (0, 0))) (l.set i (b, v')) := by
  have hlt := (List.getElem?_eq_some_iff.1 hm).1
  have emap : (l.set i (b, v')).map (·.1) = l.map (·.1) := by
    rw [List.map_set]
    refine List.ext_getElem? fun j => ?_
    rw [List.getElem?_set]
    split
    · rename_i e
      subst e
      rw [if_pos (by simpa using hlt), List.getElem?_map, hm]
      rfl
    · rfl
  refine ⟨by rw [emap]; exact h.nd, fun p hp => ?_⟩
  obtain ⟨j, hj⟩ := List.getElem?_of_mem hp
  rw [List.getElem?_set] at hj
  split at hj
  · obtain rfl := Option.some.inj hj
    exact ⟨cs', by simp [Mem.set], hr⟩
  · rename_i hne
    have hpm := List.mem_of_getElem? hj
    obtain ⟨c', h1, h2⟩ := h.cell p hpm
    have hpb : p.1 ≠ b := by
      intro e
      have e1 : (l.map (·.1))[j]? = some b := by rw [List.getElem?_map, hj]; simp [e]
      have e2 : (l.map (·.1))[i]? = some b := by rw [List.getElem?_map, hm]; rfl
      have := (List.getElem?_inj (i := i) (j := j) (by rw [List.length_map]; exact hlt) h.nd).1 (e2.trans e1.symm)
      exact hne this
    exact ⟨c', by simp only [Mem.set, if_neg hpb]; exact h1, h2⟩
end
section
variable {κ ν μ : Type} {eq : κ → κ → Bool} (g : ν → μ)
theorem mget_map : ∀ (l : List (κ × ν)) (k : κ), mget eq (l.map fun p => (p.1, g p.2)) k = (mget eq l k).map g
  | [], k => rfl
  | (a, v) :: r, k => by
    rw [List.map_cons, mget_cons, mget_cons, mget_map r k]
    cases eq k a <;> rfl
theorem mset_map : ∀ (l : List (κ × ν)) (k : κ) (v : ν), (mset eq l k v).map (fun p => (p.1, g p.2)) = mset eq (l.map fun p => (p.1, g p.2)) k (g v)
  | [], k, v => rfl
  | (a, u) :: r, k, v => by
    rw [List.map_cons, mset_cons, mset_cons, ← mset_map r k v]
    cases eq k a <;> rfl
theorem mdel_map : ∀ (l : List (κ × ν)) (k : κ), (mdel eq l k).map (fun p => (p.1, g p.2)) = mdel eq (l.map fun p => (p.1, g p.2)) k
  | [], k => rfl
  | (a, u) :: r, k => by
    rw [List.map_cons, mdel_cons, mdel_cons, ← mdel_map r k]
    cases eq k a <;> rfl
theorem mget_mem (h : KEq eq) : ∀ {l : List (κ × ν)} {k : κ} {v : ν}, mget eq l k = some v → (k, v) ∈ l
  | [], k, v, h' => by cases h'
  | (a, u) :: r, k, v, h' => by
    rw [mget_cons] at h'
    cases e : eq k a with
    | true =>
      rw [e] at h'
      obtain rfl := Option.some.inj h'
      rw [(h k a).1 e]
      simp
    | false =>
      rw [e] at h'
      exact List.mem_cons_of_mem _ (mget_mem h h')
end
structure OwnPM {κ ν : Type} (enc : κ → Value) (rel : Mem → List Value → ν → Prop) (T : TypeId) (I Cm Co : Mem) (m : Nat) (H : List (κ × (Nat × ν))) : Prop where
  map : OwnMap enc valP I Cm m (H.map fun p => (p.1, some p.2.1))
  objs : Objs rel T I Co (H.map (·.2))
section
variable {κ ν : Type} {enc : κ → Value} {eq : κ → κ → Bool} {rel : Mem → List Value → ν → Prop} {T : TypeId} {I J Cm Co : Mem} {m : Nat} {H : List (κ × (Nat × ν))}
theorem OwnPM.mono [Mono rel] (h : OwnPM enc rel T I Cm Co m H) (hl : I.Le J) : OwnPM enc rel T J Cm Co m H := ⟨h.map.mono hl, h.objs.mono hl⟩
theorem OwnPM.find (hk : KEq eq) (h : OwnPM enc rel T I Cm Co m H) {k : κ} {b : Nat} {v : ν} (hf : mget eq H k = some (b, v)) : mget eq (H.map fun p => (p.1, some p.2.1)) k = some (some b) ∧ ∃ cs : List Value, Co b = some (.cells cs.toArray T (0, 0)) ∧ CellsAt Co b 0 cs ∧ rel I cs v := by
  refine ⟨by rw [mget_map (fun p : Nat × ν => some p.1), hf]; rfl, ?_⟩
  obtain ⟨cs, h1, h2⟩ := h.objs.cell (b, v) (List.mem_map.2 ⟨_, mget_mem hk hf, rfl⟩)
  exact ⟨cs, h1, ⟨cs.toArray, T, (0, 0), h1, fun j u hj => by rw [Nat.zero_add]; simpa using hj⟩, h2⟩
end
def PMap {κ ν : Type} (enc : κ → Value) (rel : Mem → List Value → ν → Prop) (T : TypeId) (I C : Mem) (m : Nat) (l : List (κ × ν)) : Prop :=
  ∃ (Cm Co : Mem) (H : List (κ × (Nat × ν))), C = Cm.with Co ∧ Apt Cm Co ∧ OwnPM enc rel T I Cm Co m H ∧ l = H.map fun p => (p.1, p.2.2)
section
variable {κ ν : Type} {enc : κ → Value} {eq : κ → κ → Bool} {rel : Mem → List Value → ν → Prop} {T : TypeId} {I J C Cm Co : Mem} {m : Nat} {l : List (κ × ν)} {H : List (κ × (Nat × ν))} {E w : World} {Os : List Mem}
theorem PMap.mono [Mono rel] (h : PMap enc rel T I C m l) (hl : I.Le J) : PMap enc rel T J C m l := by
  obtain ⟨Cm, Co, H, h1, h2, h3, h4⟩ := h
  exact ⟨Cm, Co, H, h1, h2, h3.mono hl, h4⟩
theorem St.part (hap : Apt Cm Co) (h : St E w I (Cm.with Co :: Os)) : St E w I (Cm :: Co :: Os) := by
  have hC := h.ow _ (List.mem_cons_self ..)
  obtain ⟨p1, p2⟩ := List.pairwise_cons.1 h.dj
  have hm : ∀ {b : Nat} {o : Obj}, Cm b = some o → (Cm.with Co) b = some o := fun hb => by simp [Mem.with, hb]
  have ho : ∀ {b : Nat} {o : Obj}, Co b = some o → (Cm.with Co) b = some o := fun {b o} hb => by
    rcases hap b with x | x
    · simp [Mem.with, x, hb]
    · rw [x] at hb; cases hb
  have apt : ∀ {D : Mem}, Apt (Cm.with Co) D → Apt Cm D ∧ Apt Co D := by
    intro D a
    refine ⟨fun b => ?_, fun b => ?_⟩ <;> rcases a b with x | x
    · cases hb : Cm b with
      | none => exact .inl rfl
      | some o => rw [hm hb] at x; cases x
    · exact .inr x
    · cases hb : Co b with
      | none => exact .inl rfl
      | some o => rw [ho hb] at x; cases x
    · exact .inr x
  refine ⟨h.os, h.tape, h.output, h.im, fun D hD => ?_, List.pairwise_cons.2 ⟨fun D hD => ?_, List.pairwise_cons.2 ⟨fun D hD => (apt (p1 D hD)).2, p2⟩⟩⟩
  · rcases List.mem_cons.1 hD with rfl | hD
    · exact ⟨fun b o hb => hC.1 b o (hm hb), (apt hC.2).1⟩
    · rcases List.mem_cons.1 hD with rfl | hD
      · exact ⟨fun b o hb => hC.1 b o (ho hb), (apt hC.2).2⟩
      · exact h.ow D (List.mem_cons_of_mem _ hD)
  · rcases List.mem_cons.1 hD with rfl | hD
    · exact hap
    · exact (apt (p1 D hD)).1
theorem PMap.open_ (h : PMap enc rel T I C m l) (hS : St E w I (C :: Os)) : ∃ (Cm Co : Mem) (H : List (κ × (Nat × ν))), St E w I (Cm :: Co :: Os) ∧ OwnPM enc rel T I Cm Co m H ∧ l = H.map fun p => (p.1, p.2.2) := by
  obtain ⟨Cm, Co, H, rfl, h2, h3, h4⟩ := h
  exact ⟨Cm, Co, H, St.part h2 hS, h3, h4⟩
theorem OwnPM.shut (h : OwnPM enc rel T I Cm Co m H) (hS : St E w I (Cm :: Co :: Os)) : PMap enc rel T I (Cm.with Co) m (H.map fun p => (p.1, p.2.2)) ∧ St E w I (Cm.with Co :: Os) :=
  ⟨⟨Cm, Co, H, rfl, (List.pairwise_cons.1 hS.dj).1 Co (by simp), h, rfl⟩, St.merge hS⟩
end
end Go.Gv
namespace Go.Gv
open Go
section
variable {P : Program} {n : Nat} {Q : Exit → Act → World → Prop} {fr : Fr} {w : World}
end
section
variable {P : Program} {n r : Nat} {ops : Array Oper} {Q : Exit → Act → World → Prop} {fr : Fr} {w : World}
def WYI (r : Nat) (P : Program) (n : Nat) (ops : Array Oper) (Q : Exit → Act → World → Prop) (l : List Nat) (fr : Fr) (w : World) : Prop := ∀ a, Ag n fr a → wpOpsIn (Fence.wide.inRound r) 0 P ops Q l a w
def nxI (r : Nat) (P : Program) (ops : Array Oper) (Q : Exit → Act → World → Prop) (l2 : List Nat) : Exit → Act → World → Prop := fun e a w => e = .normal ∧ wpOpsIn (Fence.wide.inRound r) 0 P ops Q l2 a w
theorem WYI.of {l2 : List Nat} (l1 : List Nat) (h : WO P n KT qF 0 ops (nxI r P ops Q l2) l1 fr w) (hnd : noDef ops = true := by kernel_rfl) : WYI r P n ops Q (l1 ++ l2) fr w :=
  fun a ha => inOf (F := Fence.wide.inRound r) (fun _ => trivial) rfl (fun h => CallsIn.inRound r (callsIn_wide.2 h)) (fun i o ρ ho => semAt_round r ρ o (noDef_at hnd ho)) (fun a w h => h.2) l1 a w (h trivial a ha)
theorem WYI.go {l2 : List Nat} {K : World → Prop} {qt : Op → Bool} {z : Nat} (h : WYI r P n ops Q l2 fr w) : WO P n K qt z ops (nxI r P ops Q l2) [] fr w := yt fun a ha => ⟨rfl, h a ha⟩
theorem WYI.yield {i : Nat} {l2 : List Nat} {o : Oper} {l : Nat} {args : Array Value} {R : Ending → World → Prop} (hy : YieldAt Fence.wide 0 P l args w R) (h : ∀ e w', R e w' → ∃ v, e = .returned v ∧ WYI r P n ops Q l2 (pt fr o.dst v) w')
    (ho : ops[i]? = some o := by exact rfl) (hok : okAt n ops fr o = true := by kernel_rfl) (hnd : noDef ops = true := by kernel_rfl) (hr : (execOp (ev fr) o).run P w = (Instr.yield l args).run P w := by kernel_rfl) : WYI r P n ops Q (i :: l2) fr w := by
  intro a ha
  simp only [okAt, Bool.and_eq_true] at hok
  obtain ⟨⟨⟨hw, hh⟩, hs⟩, hf⟩ := hok
  have e := ha.congr hs hh
  obtain ⟨fn, tmps, assign, body, hy, hR⟩ := hy
  simp only [wpOpsIn, ho]
  rw [if_pos (wanted_of ha hw)]
  refine ⟨fun _ _ => trivial, ?_⟩
  rw [show (Fence.wide.inRound r).round = some r from rfl, semAt_round r a.eval o (noDef_at hnd ho), e, hr, hy]
  refine ⟨fun h => (by cases h), (show RoundIn (Fence.wide.inRound r) (0 - 1) P l fn tmps assign body w R from hR).mono ?_⟩
  intro e' w' h'
  obtain ⟨v, rfl, hv⟩ := h e' w' h'
  exact hv _ (ha.put hf v)
theorem WI.cond {c : Operand} {x y : Code} {b : Bool} (ht : b = true → WI r P n x Q fr w) (hf : b = false → WI r P n y Q fr w) (hc : ev fr c = .bool b := by exact rfl) (hh : has fr c = true := by exact rfl) : WI r P n (.cond c x y) Q fr w :=
  fun a ha => wpIn_cond_split (t := b) ((ha.ev hh).trans hc) (fun h => ht h a ha) (fun h => hf h a ha)
theorem WI.skip (h : En n Q .normal fr w) : WI r P n .skip Q fr w := fun a ha => wpIn_skip (h a ha)
theorem WI.ret (h : En n Q .ret fr w) : WI r P n .ret Q fr w := fun a ha => wpIn_ret (h a ha)
theorem WI.exit {id : Nat} (h : En n Q (.exit id) fr w) : WI r P n (.exit id) Q fr w := fun a ha => wpIn_exit (h a ha)
end
end Go.Gv
namespace Go.Gv
open Go
def joinM : List Mem → Mem
  | [] => Mem.no
  | D :: Ds => D.with (joinM Ds)
theorem apt_join {D : Mem} : ∀ {Ds : List Mem}, (∀ X ∈ Ds, Apt D X) → Apt D (joinM Ds)
  | [], _ => fun b => .inr rfl
  | X :: Ds, h => fun b => by
    rcases h X (by simp) b with x | x
    · exact .inl x
    · rcases apt_join (Ds := Ds) (fun Y hY => h Y (List.mem_cons_of_mem _ hY)) b with y | y
      · exact .inl y
      · exact .inr (by simp [joinM, Mem.with, x, y])
section
variable {E w : World} {I : Mem}
theorem st_joins : ∀ {Ds Os : List Mem}, St E w I (Ds ++ Os) → St E w I (joinM Ds :: Os)
  | [], Os, h => St.no h
  | D :: Ds, Os, h => St.merge ((st_joins (Ds := Ds) (Os := D :: Os) (h.perm List.perm_middle.symm)).perm (.swap ..))
theorem st_parts : ∀ {Ds Os : List Mem}, Ds.Pairwise Apt → St E w I (joinM Ds :: Os) → St E w I (Ds ++ Os)
  | [], Os, _, h => h.drop
  | D :: Ds, Os, hp, h => by
    obtain ⟨h1, h2⟩ := List.pairwise_cons.1 hp
    exact (st_parts h2 ((St.part (apt_join h1) h).perm (.swap ..))).perm List.perm_middle
end
theorem pickP {α : Type} : ∀ (Ds : List α) (k : Nat) (D : α), Ds[k]? = some D → Ds.Perm (D :: Ds.eraseIdx k)
  | [], k, D, h => by cases h
  | X :: Ds, 0, D, h => by
    simp only [List.getElem?_cons_zero, Option.some.injEq] at h
    subst h
    exact List.Perm.refl _
  | X :: Ds, k + 1, D, h => ((pickP Ds k D (by simpa using h)).cons X).trans (.swap ..)
theorem setP {α : Type} : ∀ (Ds : List α) (k : Nat) (D : α), k < Ds.length → (Ds.set k D).Perm (D :: Ds.eraseIdx k)
  | [], k, D, h => by simp at h
  | X :: Ds, 0, D, h => List.Perm.refl _
  | X :: Ds, k + 1, D, h => ((setP Ds k D (by simpa using h)).cons X).trans (.swap ..)
structure SlE (α : Type) where
  a : Option Addr
  c : Nat
  D : Mem
  xs : List α
def SlE.raw {α : Type} (e : SlE α) : Option Addr × Nat × Nat := (e.a, e.xs.length, e.c)
def valS : Mem → Value → Option Addr × Nat × Nat → Prop := fun _ v x => v = .slice x.1 x.2.1 x.2.2
instance : VMono valS := ⟨fun _ h => h⟩
structure OwnSM {κ α : Type} (enc : κ → Value) (T sz : Nat) (rel : Mem → List Value → α → Prop) (I Cm : Mem) (m : Nat) (H : List (κ × SlE α)) : Prop where
  map : OwnMap enc valS I Cm m (H.map fun p => (p.1, p.2.raw))
  el : ∀ p ∈ H, OwnSl T sz rel I p.2.D p.2.a p.2.c p.2.xs
section
variable {κ α : Type} {enc : κ → Value} {eq : κ → κ → Bool} {T sz : Nat} {rel : Mem → List Value → α → Prop} {I J Cm C : Mem} {m : Nat} {H : List (κ × SlE α)} {E w : World} {Os : List Mem} {l : List (κ × List α)}
theorem OwnSM.mono [Mono rel] (h : OwnSM enc T sz rel I Cm m H) (hl : I.Le J) : OwnSM enc T sz rel J Cm m H := ⟨h.map.mono hl, fun p hp => (h.el p hp).mono hl⟩
theorem mem_set {H : List (κ × SlE α)} {i : Nat} {q p : κ × SlE α} (h : p ∈ H.set i q) : p = q ∨ p ∈ H := by
  rcases List.mem_or_eq_of_mem_set h with x | x
  · exact .inr x
  · exact .inl x
theorem OwnSM.focus [Mono rel] (h : OwnSM enc T sz rel I Cm m H) (hS : St E w I (Cm :: (H.map (·.2.D) ++ Os))) (eq : κ → κ → Bool) (k : κ) :
    ∃ (e : SlE α) (R : List Mem), (mget eq (H.map fun p => (p.1, p.2.raw)) k).getD (none, 0, 0) = e.raw ∧ e.xs = (mget eq (H.map fun p => (p.1, p.2.xs)) k).getD [] ∧
      OwnSl T sz rel I e.D e.a e.c e.xs ∧ St E w I (e.D :: Cm :: (R ++ Os)) ∧
      (∀ (J Cm' : Mem) (w' : World) (Os' : List Mem) (f : SlE α), I.Le J → OwnSl T sz rel J f.D f.a f.c f.xs → OwnMap enc valS J Cm' m (mset eq (H.map fun p => (p.1, p.2.raw)) k f.raw) → St E w' J (Cm' :: f.D :: (R ++ Os')) →
        ∃ H' : List (κ × SlE α), OwnSM enc T sz rel J Cm' m H' ∧ St E w' J (Cm' :: (H'.map (·.2.D) ++ Os')) ∧ (H'.map fun p => (p.1, p.2.xs)) = mset eq (H.map fun p => (p.1, p.2.xs)) k f.xs) ∧
      (∀ (J Cm' : Mem) (w' : World) (Os' : List Mem), I.Le J → OwnMap enc valS J Cm' m (mdel eq (H.map fun p => (p.1, p.2.raw)) k) → St E w' J (Cm' :: (R ++ Os')) →
        ∃ H' : List (κ × SlE α), OwnSM enc T sz rel J Cm' m H' ∧ St E w' J (Cm' :: (H'.map (·.2.D) ++ Os')) ∧ (H'.map fun p => (p.1, p.2.xs)) = mdel eq (H.map fun p => (p.1, p.2.xs)) k) := by
  have e1 : (H.map fun p => (p.1, p.2.raw)).map (·.1) = H.map (·.1) := by rw [List.map_map]; rfl
  have e2 : (H.map fun p => (p.1, p.2.xs)).map (·.1) = H.map (·.1) := by rw [List.map_map]; rfl
  have hput : ∀ (J Cm' : Mem) (f : SlE α), I.Le J → OwnSl T sz rel J f.D f.a f.c f.xs → OwnMap enc valS J Cm' m (mset eq (H.map fun p => (p.1, p.2.raw)) k f.raw) → OwnSM enc T sz rel J Cm' m (mset eq H k f) := by
    intro J Cm' f hl ho hm
    refine ⟨by rw [mset_map SlE.raw]; exact hm, fun p hp => ?_⟩
    unfold mset at hp
    split at hp
    · rcases mem_set hp with rfl | hp
      · exact ho
      · exact (h.el p hp).mono hl
    · rcases List.mem_append.1 hp with hp | hp
      · exact (h.el p hp).mono hl
      · simp only [List.mem_cons, List.not_mem_nil, or_false] at hp
        subst hp
        exact ho
  have hdel : ∀ (J Cm' : Mem), I.Le J → OwnMap enc valS J Cm' m (mdel eq (H.map fun p => (p.1, p.2.raw)) k) → OwnSM enc T sz rel J Cm' m (mdel eq H k) := by
    intro J Cm' hl hm
    refine ⟨by rw [mdel_map SlE.raw]; exact hm, fun p hp => (h.el p ?_).mono hl⟩
    unfold mdel at hp
    split at hp
    · exact List.mem_of_mem_eraseIdx hp
    · exact hp
  cases hp : mpos eq k (H.map (·.1)) with
  | none =>
    refine ⟨⟨none, 0, Mem.no, []⟩, H.map (·.2.D), ?_, ?_, OwnSl.nil, hS.no, ?_, ?_⟩
    · simp [mget, List.map_map, Function.comp_def, hp, SlE.raw]
    · simp [mget, List.map_map, Function.comp_def, hp]
    · intro J Cm' w' Os' f hl ho hm hS'
      refine ⟨_, hput J Cm' f hl ho hm, ?_, mset_map SlE.xs ..⟩
      have : mset eq H k f = H ++ [(k, f)] := by simp [mset, hp]
      rw [this]
      refine hS'.perm (List.Perm.cons _ ?_)
      simp only [List.map_append, List.map_cons, List.map_nil, List.append_assoc, List.singleton_append]
      exact List.perm_middle.symm
    · intro J Cm' w' Os' hl hm hS'
      refine ⟨_, hdel J Cm' hl hm, ?_, mdel_map SlE.xs ..⟩
      have : mdel eq H k = H := by simp [mdel, hp]
      rw [this]
      exact hS'
  | some i =>
    obtain ⟨hlt, _⟩ := mpos_lt hp
    rw [List.length_map] at hlt
    obtain ⟨q, hq⟩ : ∃ q, H[i]? = some q := ⟨_, List.getElem?_eq_getElem hlt⟩
    refine ⟨q.2, (H.map (·.2.D)).eraseIdx i, ?_, ?_, h.el q (List.mem_of_getElem? hq), ?_, ?_, ?_⟩
    · simp [mget, List.map_map, Function.comp_def, hp, hq]
    · simp [mget, List.map_map, Function.comp_def, hp, hq]
    · refine hS.perm ?_
      exact (((pickP (H.map (·.2.D)) i q.2.D (by simp [hq])).append_right Os).cons Cm).trans (.swap ..)
    · intro J Cm' w' Os' f hl ho hm hS'
      refine ⟨_, hput J Cm' f hl ho hm, ?_, mset_map SlE.xs ..⟩
      have : mset eq H k f = H.set i (k, f) := by simp [mset, hp]
      rw [this, List.map_set]
      have hp' := ((setP (H.map (fun x => x.2.D)) i f.D (by simpa using hlt)).append_right Os').symm.cons Cm'
      exact hS'.perm hp'
    · intro J Cm' w' Os' hl hm hS'
      refine ⟨_, hdel J Cm' hl hm, ?_, mdel_map SlE.xs ..⟩
      have : mdel eq H k = H.eraseIdx i := by simp [mdel, hp]
      rw [this]
      rwa [erase_map] at hS'
def SMap (enc : κ → Value) (T sz : Nat) (rel : Mem → List Value → α → Prop) (I C : Mem) (m : Nat) (l : List (κ × List α)) : Prop :=
  ∃ (Cm : Mem) (H : List (κ × SlE α)), C = joinM (Cm :: H.map (·.2.D)) ∧ (Cm :: H.map (·.2.D)).Pairwise Apt ∧ OwnSM enc T sz rel I Cm m H ∧ l = H.map fun p => (p.1, p.2.xs)
theorem SMap.mono [Mono rel] (h : SMap enc T sz rel I C m l) (hl : I.Le J) : SMap enc T sz rel J C m l := by
  obtain ⟨Cm, H, h1, h2, h3, h4⟩ := h
  exact ⟨Cm, H, h1, h2, h3.mono hl, h4⟩
theorem SMap.open_ (h : SMap enc T sz rel I C m l) (hS : St E w I (C :: Os)) : ∃ (Cm : Mem) (H : List (κ × SlE α)), St E w I (Cm :: (H.map (·.2.D) ++ Os)) ∧ OwnSM enc T sz rel I Cm m H ∧ l = H.map fun p => (p.1, p.2.xs) := by
  obtain ⟨Cm, H, rfl, h2, h3, h4⟩ := h
  exact ⟨Cm, H, st_parts h2 hS, h3, h4⟩
theorem OwnSM.shut (h : OwnSM enc T sz rel I Cm m H) (hS : St E w I (Cm :: (H.map (·.2.D) ++ Os))) : ∃ C, SMap enc T sz rel I C m (H.map fun p => (p.1, p.2.xs)) ∧ St E w I (C :: Os) :=
  ⟨_, ⟨Cm, H, rfl, (List.pairwise_append.1 (show (((Cm :: H.map (·.2.D)) ++ Os : List Mem)).Pairwise Apt from hS.dj)).1, h, rfl⟩, st_joins (Ds := Cm :: H.map (·.2.D)) hS⟩
theorem SMap.nil : SMap (α := α) enc T sz rel I (joinM [one m (.map #[] 0)]) m ([] : List (κ × List α)) := ⟨_, [], rfl, by simp, ⟨OwnMap.nil, fun p hp => by cases hp⟩, rfl⟩
theorem PMap.nil {ν : Type} {rel : Mem → List Value → ν → Prop} {T : TypeId} : PMap enc rel T I ((one m (.map #[] 0)).with Mem.no) m ([] : List (κ × ν)) := ⟨_, Mem.no, [], rfl, fun b => .inr rfl, ⟨OwnMap.nil, Objs.nil⟩, rfl⟩
end
end Go.Gv
namespace Go.Gv
open Go
section
variable {κ ν : Type} {enc : κ → Value} {val : Mem → Value → ν → Prop} {I J C D : Mem} {m b : Nat} {cur rem : List (κ × ν)} {last : Option (Value × Value)} {P : Program} {E w : World} {Os : List Mem} {eq : κ → κ → Bool}
theorem IterSt.delete2 (h : IterSt enc val I C m cur D b rem last) (hS : St E w I (C :: D :: Os)) {t kt et ty : Nat} {ats : Array Nat} (ha : ats[0]? = some t) (ht : P.underlying t = some (.map kt et)) (kl : KeyLaw P kt enc eq) (k : κ) :
    ∃ w' C' rem', (Builtin.delete_ ats ty #[.map (some m), enc k]).run P w = .ok (.tuple #[]) w' ∧ St E w' I (C' :: D :: Os) ∧ rem'.length ≤ rem.length ∧ (∀ p ∈ rem, eq k p.1 = false → p ∈ rem') ∧ IterSt enc val I C' m (mdel eq cur k) D b rem' none := by
  obtain ⟨es, clock, seen, rfl, rfl, h2, h3, h4, h5, h6, _⟩ := h.ex
  have hlen : es.size = cur.length := by have := congrArg List.length h2; simpa using this
  have hmap : es.toList.map (·.key) = (cur.map (·.1)).map enc := by rw [h2, List.map_map]; rfl
  have hw := hS.rd0 m _ (one_at m _)
  have hf := kl.find k w es.toList _ hmap
  have start : ∀ (r : Option (Nat × Value)) (es' : Array MapEntry), (Instr.findKey kt (enc k) es.toList).run P w = .ok r w → (match r with | some (i, _) => setObj m (.map (es.eraseIdxIfInBounds i) clock) | none => setObj m (.map es clock)) = setObj m (.map es' clock) →
      (Builtin.delete_ ats ty #[.map (some m), enc k]).run P w = .ok (.tuple #[]) { w with heap := w.heap.setIfInBounds m (.map es' clock) } := by
    intro r es' hr he
    obtain ⟨r1, _⟩ := hS.setObj (P := P) (es' := es') (clock' := clock)
    have hg := run_getObj (P := P) hw
    have key : (do match r with | some (i, _) => setObj m (.map (es.eraseIdxIfInBounds i) clock) | none => setObj m (.map es clock)).run P w = .ok () { w with heap := w.heap.setIfInBounds m (.map es' clock) } := by
      rw [← r1]; exact congrArg (fun s => Sem.run P s w) he
    cases r with
    | none => simp only at key; simp [Builtin.delete_, ha, run_underlying' ht, hg, kl.check, hr, key]
    | some q => obtain ⟨i, v⟩ := q; simp only at key; simp [Builtin.delete_, ha, run_underlying' ht, hg, kl.check, hr, key]
  cases hp : mpos eq k (cur.map (·.1)) with
  | none =>
    rw [hp] at hf
    obtain ⟨_, r2⟩ := hS.setObj (P := P) (es' := es) (clock' := clock)
    refine ⟨_, _, rem, start none es hf rfl, r2, Nat.le_refl _, fun p hp _ => hp, ⟨es, clock, seen, rfl, rfl, ?_, ?_, h4, h5, ?_, fun lv hlv => by cases hlv⟩⟩
    · simpa [mdel, hp] using h2
    · simpa [mdel, hp] using h3
    · simpa [mdel, hp] using h6
  | some i =>
    obtain ⟨hlt, a, ha', hq⟩ := mpos_lt hp
    simp only [List.length_map] at hlt
    have hes : es[i]? = some (es[i]'(by omega)) := Array.getElem?_eq_getElem (by omega)
    rw [hp] at hf
    simp only [Option.bind_some, Array.getElem?_toList, hes, Option.map_some] at hf
    obtain ⟨_, r2⟩ := hS.setObj (P := P) (es' := es.eraseIdxIfInBounds i) (clock' := clock)
    have hel : (es.eraseIdxIfInBounds i).toList = es.toList.eraseIdx i := by
      rw [Array.eraseIdxIfInBounds]
      split
      · simp
      · omega
    have hmd : mdel eq cur k = cur.eraseIdx i := by simp only [mdel, hp]
    refine ⟨_, _, _, start _ (es.eraseIdxIfInBounds i) hf rfl, r2, ?_, ?_, ⟨_, _, seen, rfl, rfl, ?_, ?_, ?_, ?_, List.Perm.refl _, fun lv hlv => by cases hlv⟩⟩
    · rw [hel, hmd, zip_erase]
      have h8 := ((List.eraseIdx_sublist (es.toList.zip cur) i).filter (fun q => !seen.contains q.1.born)).length_le
      have h9 := h6.length_eq
      simp only [List.length_map] at h9 ⊢
      omega
    · intro p hpr hk
      rw [hel, hmd, zip_erase]
      obtain ⟨q, hq1, rfl⟩ := List.mem_map.1 (h6.mem_iff.2 hpr)
      obtain ⟨hq2, hq3⟩ := List.mem_filter.1 hq1
      obtain ⟨j, hj⟩ := List.mem_iff_getElem?.1 hq2
      refine List.mem_map.2 ⟨q, List.mem_filter.2 ⟨List.mem_eraseIdx_iff_getElem?.2 ⟨j, ?_, hj⟩, hq3⟩, rfl⟩
      rintro rfl
      obtain ⟨_, hj2⟩ := List.getElem?_zip_eq_some.1 hj
      rw [List.getElem?_map, hj2] at ha'
      simp only [Option.map_some, Option.some.injEq] at ha'
      rw [ha', hq] at hk
      cases hk
    · rw [hel, hmd, ← erase_map, h2, erase_map]
    · intro j e p he hpp
      rw [hmd] at hpp
      rw [← Array.getElem?_toList, hel, List.getElem?_eraseIdx] at he
      rw [List.getElem?_eraseIdx] at hpp
      split at he
      · rename_i hj
        rw [if_pos hj] at hpp
        exact h3 j e p (by rw [← Array.getElem?_toList]; exact he) hpp
      · rename_i hj
        rw [if_neg hj] at hpp
        exact h3 (j + 1) e p (by rw [← Array.getElem?_toList]; exact he) hpp
    · intro e he
      rw [hel] at he
      exact h4 e (List.mem_of_mem_eraseIdx he)
    · rw [hel, ← erase_map]
      exact h5.sublist (List.eraseIdx_sublist _ _)
variable {n : Nat} {K : World → Prop} {qt : Op → Bool} {z : Nat} {ops : Array Oper} {Q : Exit → Act → World → Prop} {fr : Fr} {li : List Nat} {i : Nat}
  {dst : Option Tmp} {ty : TypeId} {pos : String} {after : Array Edge} {guard : Option (Nat × Bool)}
theorem WO.deleteIt2 (h0 : IterSt enc val I C m cur D b rem last) (hS : St E w I (C :: D :: Os)) {t kt et t2 : Nat} (ht : P.underlying t = some (.map kt et)) (kl : KeyLaw P kt enc eq) {x y : Operand}
    (ho : ops[i]? = some ⟨dst, .call ⟨.builtin .delete, #[x, y], #[t, t2]⟩, ty, pos, after, guard⟩) (hok : okAt n ops fr ⟨dst, .call ⟨.builtin .delete, #[x, y], #[t, t2]⟩, ty, pos, after, guard⟩ = true) (hq : qt (.call ⟨.builtin .delete, #[x, y], #[t, t2]⟩) = false)
    (hx : ev fr x = .map (some m)) (k : κ) (hy : ev fr y = enc k) (hK : ∀ w' C', St E w' I (C' :: D :: Os) → K w')
    (h : ∀ w' C' rem', St E w' I (C' :: D :: Os) → rem'.length ≤ rem.length → (∀ p ∈ rem, eq k p.1 = false → p ∈ rem') → IterSt enc val I C' m (mdel eq cur k) D b rem' none → WO P n K qt z ops Q li (pt fr dst (.tuple #[])) w') : WO P n K qt z ops Q (i :: li) fr w := by
  obtain ⟨w', C', rem', hr, hS', hl, hl2, hm⟩ := h0.delete2 (ty := ty) (ats := #[t, t2]) hS rfl ht kl k
  refine ybh ho hok hq (v := .tuple #[]) (w' := w') ?_ (hK w' C' hS') (h w' C' rem' hS' hl hl2 hm)
  simp only [execOp, resolve]
  have e1 : (#[x, y].map (ev fr)) = #[.map (some m), enc k] := by simp [hx, hy]
  rw [e1]
  rw [run_bind (a := ({ target := .builtin .delete #[t, t2] ty (#[x, y].map fun | .const _ => true | _ => false), args := #[.map (some m), enc k] } : Deferred)) (w' := w) rfl]
  simp only [invoke, Go.builtin]
  rw [run_bind hr]
  rfl
end
theorem sub_filter {α : Type} {q : α → Bool} {l' l : List α} (h : l'.Sublist l) (hn : l.Nodup) (hq : ∀ p ∈ l, p ∈ l' ↔ q p = true) : l' = l.filter q := by
  induction h with
  | slnil => rfl
  | @cons l1 l2 a hs ih =>
    obtain ⟨h1, h2⟩ := List.nodup_cons.1 hn
    have ha : q a = false := by
      cases e : q a with
      | false => rfl
      | true => exact absurd (hs.subset ((hq a (by simp)).2 e)) h1
    rw [List.filter_cons, ha]
    exact ih h2 fun p hp => hq p (by simp [hp])
  | @cons_cons l1 l2 a hs ih =>
    obtain ⟨h1, h2⟩ := List.nodup_cons.1 hn
    have ha : q a = true := (hq a (by simp)).1 (by simp)
    rw [List.filter_cons, ha]
    simp only [if_true]
    congr 1
    refine ih h2 fun p hp => ?_
    rw [← hq p (by simp [hp])]
    have : p ≠ a := fun e => h1 (e ▸ hp)
    simp [this]
section
variable {κ ν : Type} {eq : κ → κ → Bool}
theorem nodup_of_keys {l : List (κ × ν)} (h : (l.map (·.1)).Nodup) : l.Nodup := by
  refine List.Pairwise.imp (fun hne e => hne (by rw [e])) (List.pairwise_map.1 h)
theorem mdel_pair (hk : KEq eq) {l : List (κ × ν)} (hn : (l.map (·.1)).Nodup) (k : κ) (p : κ × ν) : p ∈ mdel eq l k ↔ p ∈ l ∧ p.1 ≠ k := by
  induction l with
  | nil => simp [mdel_nil]
  | cons q r ih =>
    obtain ⟨a, u⟩ := q
    obtain ⟨h1, h2⟩ := List.nodup_cons.1 (by simpa using hn : (a :: r.map (·.1)).Nodup)
    rw [mdel_cons]
    cases e : eq k a with
    | true =>
      obtain rfl := (hk k a).1 e
      simp only [cond_true, List.mem_cons]
      constructor
      · intro hp
        exact ⟨.inr hp, fun e => h1 (e ▸ List.mem_map.2 ⟨p, hp, rfl⟩)⟩
      · rintro ⟨rfl | hp, hne⟩
        · exact absurd rfl hne
        · exact hp
    | false =>
      have hne : k ≠ a := fun e' => by rw [(hk k a).2 e'] at e; cases e
      simp only [cond_false, List.mem_cons, ih h2]
      constructor
      · rintro (rfl | ⟨hp, hq⟩)
        · exact ⟨.inl rfl, fun e => hne e.symm⟩
        · exact ⟨.inr hp, hq⟩
      · rintro ⟨rfl | hp, hq⟩
        · exact .inl rfl
        · exact .inr ⟨hp, hq⟩
end
end Go.Gv
namespace Go.Gv
open Go
theorem with_left {A B C : Mem} (h : C = A.with B) {w : World} (hr : Rdb w C) : Rdb w A := fun b o hb => hr b o (by rw [h]; simp [Mem.with, hb])
theorem with_right {A B C : Mem} (h : C = A.with B) (ha : Apt A B) {w : World} (hr : Rdb w C) : Rdb w B := fun b o hb => hr b o (by
  rw [h]
  rcases ha b with x | x
  · simp [Mem.with, x, hb]
  · rw [x] at hb; cases hb)
section
variable {κ ν : Type} {enc : κ → Value} {eq : κ → κ → Bool} {rel : Mem → List Value → ν → Prop} {T : TypeId} {I J C Cm Co : Mem} {m : Nat} {l : List (κ × ν)} {H : List (κ × (Nat × ν))} {E w : World} {Os : List Mem}
theorem mget_ix {k : κ} {v : ν} {l : List (κ × ν)} (hk : KEq eq) (h : mget eq l k = some v) : ∃ i, mpos eq k (l.map (·.1)) = some i ∧ l[i]? = some (k, v) := by
  unfold mget at h
  cases hp : mpos eq k (l.map (·.1)) with
  | none => rw [hp] at h; cases h
  | some i =>
    rw [hp] at h
    obtain ⟨hlt, a, ha, hq⟩ := mpos_lt hp
    rw [List.getElem?_map] at ha
    obtain ⟨p, hp', rfl⟩ := Option.map_eq_some_iff.1 ha
    have h : (l[i]?).map (·.2) = some v := h
    rw [hp'] at h
    have h := Option.some.inj h
    refine ⟨i, rfl, ?_⟩
    rw [hp', (hk _ _).1 hq, ← h]
theorem PMap.look (hk : KEq eq) (h : PMap enc rel T I C m l) {k : κ} {v : ν} (hf : mget eq l k = some v) :
    ∃ (Cm : Mem) (lm : List (κ × Option Nat)) (b : Nat) (cs : List Value), (∀ w, Rdb w C → Rdb w Cm) ∧ OwnMap enc valP I Cm m lm ∧ mget eq lm k = some (some b) ∧ mhas eq lm k = true ∧ C b = some (.cells cs.toArray T (0, 0)) ∧ CellsAt C b 0 cs ∧ rel I cs v ∧
      ∀ (J : Mem) (cs' : List Value) (v' : ν), I.Le J → rel J cs' v' → [Mono rel] → PMap enc rel T J (C.set b (.cells cs'.toArray T (0, 0))) m (mset eq l k v') := by
  obtain ⟨Cm, Co, H, h1, h2, h3, h4⟩ := h
  have hf' : (mget eq H k).map (·.2) = some v := by rw [← mget_map (fun p : Nat × ν => p.2), ← h4]; exact hf
  obtain ⟨⟨b, v0⟩, hb, hv⟩ := Option.map_eq_some_iff.1 hf'
  simp only at hv
  subst hv
  obtain ⟨hm, cs, hc1, hc2, hc3⟩ := h3.find hk hb
  have hC : C b = some (.cells cs.toArray T (0, 0)) := by
    rw [h1]
    rcases h2 b with x | x
    · simp [Mem.with, x, hc1]
    · rw [x] at hc1; cases hc1
  refine ⟨Cm, _, b, cs, fun w hw => with_left h1 hw, h3.map, hm, by rw [mhas_get, hm]; rfl, hC, ⟨cs.toArray, T, (0, 0), hC, fun j u hj => by rw [Nat.zero_add]; simpa using hj⟩, hc3, ?_⟩
  intro J cs' v' hl hr _
  obtain ⟨i, hi, hix⟩ := mget_ix hk hb
  refine ⟨Cm, Co.set b (.cells cs'.toArray T (0, 0)), mset eq H k (b, v'), ?_, ?_, ⟨?_, ?_⟩, ?_⟩
  · rw [h1]
    funext x
    by_cases e : x = b
    · subst e
      rcases h2 x with y | y
      · simp [Mem.set, Mem.with, y]
      · rw [y] at hc1; cases hc1
    · simp [Mem.set, Mem.with, e]
  · intro x
    by_cases e : x = b
    · subst e
      rcases h2 x with y | y
      · exact .inl y
      · rw [y] at hc1; cases hc1
    · rcases h2 x with y | y
      · exact .inl y
      · exact .inr (by simp [Mem.set, e, y])
  · have e1 : (mset eq H k (b, v')).map (fun p => (p.1, some p.2.1)) = H.map (fun p => (p.1, some p.2.1)) := by
      rw [show mset eq H k (b, v') = H.set i (k, (b, v')) by simp [mset, hi], List.map_set]
      refine List.ext_getElem? fun j => ?_
      rw [List.getElem?_set]
      split
      · rename_i e
        subst e
        rw [if_pos (by simpa using (List.getElem?_eq_some_iff.1 hix).1), List.getElem?_map, hix]
        rfl
      · rfl
    rw [e1]
    exact h3.map.mono hl
  · have e2 : (mset eq H k (b, v')).map (·.2) = (H.map (·.2)).set i (b, v') := by
      rw [show mset eq H k (b, v') = H.set i (k, (b, v')) by simp [mset, hi], List.map_set]
    rw [e2]
    exact (h3.objs.mono hl).set (by rw [List.getElem?_map, hix]; rfl) hr
  · rw [h4]; exact (mset_map (fun p : Nat × ν => p.2) H k (b, v')).symm
theorem PMap.keys (h : PMap enc rel T I C m l) (hS : St E w I (C :: Os)) : ∃ (Cm Co : Mem) (lm : List (κ × Option Nat)), St E w I (Cm :: Co :: Os) ∧ OwnMap enc valP I Cm m lm ∧ lm.map (·.1) = l.map (·.1) ∧ C = Cm.with Co := by
  obtain ⟨Cm, Co, H, rfl, h2, h3, rfl⟩ := h
  exact ⟨Cm, Co, _, St.part h2 hS, h3.map, by simp [List.map_map, Function.comp_def], rfl⟩
end
section
variable {κ ν : Type} {enc : κ → Value} {eq : κ → κ → Bool} {rel : Mem → List Value → ν → Prop} {T : TypeId} {I J C Cm Co : Mem} {m : Nat} {l : List (κ × ν)} {H : List (κ × (Nat × ν))} {E w : World} {Os : List Mem}
  {P : Program} {n : Nat} {K : World → Prop} {qt : Op → Bool} {z : Nat} {ops : Array Oper} {Q : Exit → Act → World → Prop} {fr : Fr} {li : List Nat} {i : Nat}
theorem WO.updP [Mono rel] (hk : KEq eq) (h0 : PMap enc rel T I C m l) {b : Nat} {cs : List Value} (hS : St E w I (one b (.cells cs.toArray T (0, 0)) :: C :: Os)) {x : ν} (hr : rel I cs x) {t kt et : Nat} (ht : P.underlying t = some (.map kt et)) (kl : KeyLaw P kt enc eq) {o : Oper} {x' y a : Operand}
    (ho : ops[i]? = some o) (hok : okAt n ops fr o = true) (hop : o.op = .mapUpdate t x' y a ∨ o.op = .insert t x' y a)
    (hx : ev fr x' = .map (some m)) (k : κ) (hy : ev fr y = enc k) (ha : ev fr a = .pointer (some ⟨b, 0, none⟩))
    (h : ∀ w' C', St E w' I (C' :: Os) → PMap enc rel T I C' m (mset eq l k x) → WO P n KT qF z ops Q li (pt fr o.dst undef) w') : WO P n KT qF z ops Q (i :: li) fr w := by
  obtain ⟨Cm, Co, H, hS2, h3, rfl⟩ := h0.open_ hS.front1
  have hS3 : St E w I (one b (.cells cs.toArray T (0, 0)) :: Co :: Cm :: Os) := hS2.perm (by
    refine ((List.Perm.swap ..).trans (List.Perm.cons _ (List.Perm.swap ..))).trans ?_
    exact (List.Perm.swap ..))
  have hadd := h3.objs.add hS3 hr
  have hbn : ∀ p ∈ H.map (·.2), p.1 ≠ b := by
    have hn := hadd.nd
    rw [List.map_append] at hn
    intro p hp e
    exact (List.nodup_append.1 hn).2.2 p.1 (List.mem_map.2 ⟨p, hp, rfl⟩) b (by simp) e
  refine WO.update h3.map (hS3.merge.front1) ht kl ho hok rfl hop hx k hy ha (xv := some b) rfl (fun _ _ _ => trivial) ?_
  intro w' C' hS' hm'
  have hso : OwnPM enc rel T I C' ((one b (.cells cs.toArray T (0, 0))).with Co) m (mset eq H k (b, x)) := by
    refine ⟨by rw [mset_map (fun p : Nat × ν => some p.1)]; exact hm', ?_, fun p hp => ?_⟩
    · unfold mset
      split
      · rename_i j hj
        have hlt := (mpos_lt hj).1
        rw [List.length_map] at hlt
        rw [List.map_set]
        have hn := h3.objs.nd
        rw [List.map_set]
        simp only [List.map_map] at hn ⊢
        refine List.pairwise_iff_getElem.2 fun u v hu hv huv => ?_
        rw [List.getElem_set, List.getElem_set]
        have hb' : ∀ (q : Nat) (hq : q < (H.map ((fun x => x.1) ∘ fun x => x.2)).length), (H.map ((fun x => x.1) ∘ fun x => x.2))[q] ≠ b := by
          intro q hq
          simp only [List.getElem_map, Function.comp]
          exact hbn _ (List.mem_map.2 ⟨_, List.getElem_mem _, rfl⟩)
        split
        · split
          · omega
          · exact fun e => hb' v (by simpa using hv) e.symm
        · split
          · exact hb' u (by simpa using hu)
          · exact List.pairwise_iff_getElem.1 hn u v (by simpa using hu) (by simpa using hv) huv
      · have := hadd.nd
        simpa using this
    · obtain ⟨q, hq, rfl⟩ := List.mem_map.1 hp
      have : q = (k, (b, x)) ∨ q ∈ H := by
        unfold mset at hq
        split at hq
        · rcases List.mem_or_eq_of_mem_set hq with y | y
          · exact .inr y
          · exact .inl y
        · rcases List.mem_append.1 hq with y | y
          · exact .inr y
          · exact .inl (by simpa using y)
      rcases this with rfl | hq
      · exact hadd.cell _ (by simp)
      · exact hadd.cell _ (by simp only [List.mem_append, List.mem_map]; exact .inl ⟨q, hq, rfl⟩)
  obtain ⟨hp, hS4⟩ := hso.shut hS'
  rw [mset_map (fun p : Nat × ν => p.2)] at hp
  exact h w' _ hS4 hp
end
section
variable {κ ν : Type} {enc : κ → Value} {eq : κ → κ → Bool} {val : Mem → Value → ν → Prop} {I C D : Mem} {m b : Nat} {l cur rem : List (κ × ν)} {last : Option (Value × Value)}
structure Sift (q : κ × ν → Bool) (l cur rem : List (κ × ν)) : Prop where
  sub : cur.Sublist l
  mem : ∀ p ∈ rem, p ∈ cur
  out : ∀ p ∈ l, p ∉ cur → q p = true
  inn : ∀ p ∈ cur, p ∈ rem ∨ q p = false
theorem Sift.start {q : κ × ν → Bool} : Sift q l l l := ⟨List.Sublist.refl _, fun _ h => h, fun p h1 h2 => absurd h1 h2, fun p h => .inl h⟩
theorem Sift.keep {q : κ × ν → Bool} {p : κ × ν} {rem' : List (κ × ν)} (h : Sift q l cur rem) (hp : rem.Perm (p :: rem')) (hq : q p = false) : Sift q l cur rem' := by
  refine ⟨h.sub, fun x hx => h.mem x (hp.mem_iff.2 (by simp [hx])), h.out, fun x hx => ?_⟩
  · rcases h.inn x hx with y | y
    · rcases List.mem_cons.1 (hp.mem_iff.1 y) with rfl | y
      · exact .inr hq
      · exact .inl y
    · exact .inr y
theorem Sift.drop {q : κ × ν → Bool} {p : κ × ν} {rem' rem2 : List (κ × ν)} (hk : KEq eq) (hn : (l.map (·.1)).Nodup) (h : Sift q l cur rem) (hp : rem.Perm (p :: rem')) (hq : q p = true) (h1 : ∀ x ∈ rem', eq p.1 x.1 = false → x ∈ rem2) (h2 : ∀ x ∈ rem2, x ∈ mdel eq cur p.1) : Sift q l (mdel eq cur p.1) rem2 := by
  have hc : (cur.map (·.1)).Nodup := hn.sublist (h.sub.map _)
  have hpc : p ∈ cur := h.mem p (hp.mem_iff.2 (by simp))
  refine ⟨(mdel_sub _ _).trans h.sub, h2, fun x hx hxc => ?_, fun x hx => ?_⟩
  · by_cases e : x ∈ cur
    · have : x.1 = p.1 := Classical.byContradiction fun hne => hxc ((mdel_pair hk hc _ _).2 ⟨e, hne⟩)
      obtain ⟨u, hu⟩ := List.getElem?_of_mem e
      obtain ⟨v, hv⟩ := List.getElem?_of_mem hpc
      have e1 : (cur.map (·.1))[u]? = some p.1 := by rw [List.getElem?_map, hu]; simp [this]
      have e2 : (cur.map (·.1))[v]? = some p.1 := by rw [List.getElem?_map, hv]; rfl
      have := (List.getElem?_inj (List.getElem?_eq_some_iff.1 e1).1 hc).1 (e1.trans e2.symm)
      subst this
      rw [hu] at hv
      injection hv with hv
      rw [hv]; exact hq
    · exact h.out x hx e
  · obtain ⟨hx1, hx2⟩ := (mdel_pair hk hc _ _).1 hx
    rcases h.inn x hx1 with y | y
    · rcases List.mem_cons.1 (hp.mem_iff.1 y) with rfl | y
      · exact absurd rfl hx2
      · exact .inl (h1 x y (hk.ne fun e => hx2 e.symm))
    · exact .inr y
theorem Sift.done {q : κ × ν → Bool} (h : Sift q l cur []) (hn : (l.map (·.1)).Nodup) : cur = l.filter fun p => !q p := by
  refine sub_filter h.sub (nodup_of_keys hn) fun p hp => ⟨fun hc => ?_, fun hq => ?_⟩
  · rcases h.inn p hc with y | y
    · cases y
    · simp [y]
  · refine Classical.byContradiction fun hc => ?_
    rw [h.out p hp hc] at hq
    cases hq
end
def qX (l : List Nat) : Op → Bool
  | .load _ (.tmp t) => !(l.any (Nat.beq t))
  | o => qR o
theorem ieqP : KEq iEq := fun _ _ => iEq_iff
theorem with_no (C : Mem) : C.with Mem.no = C := by
  funext b
  simp only [Mem.with]
  cases h : C b <;> simp [Mem.no]
theorem mget_of_mem {κ ν : Type} {eq : κ → κ → Bool} (hk : KEq eq) : ∀ {l : List (κ × ν)}, (l.map (·.1)).Nodup → ∀ {k : κ} {v : ν}, (k, v) ∈ l → mget eq l k = some v
  | [], _, _, _, h => by cases h
  | (a, u) :: r, hn, k, v, h => by
    rw [mget_cons]
    simp only [List.map_cons, List.nodup_cons] at hn
    rcases List.mem_cons.1 h with e | e
    · injection e with e1 e2
      subst e1 e2
      rw [hk.refl]
      rfl
    · rw [hk.ne (fun e2 => hn.1 (List.mem_map.2 ⟨(k, v), e, e2⟩))]
      exact mget_of_mem hk hn.2 e
theorem PMap.nil1 {κ ν : Type} {enc : κ → Value} {rel : Mem → List Value → ν → Prop} {T : TypeId} {I : Mem} {m : Nat} : PMap enc rel T I (one m (.map #[] 0)) m ([] : List (κ × ν)) := by
  have := PMap.nil (enc := enc) (rel := rel) (T := T) (I := I) (m := m)
  rwa [with_no] at this
theorem SMap.nil1 {κ α : Type} {enc : κ → Value} {rel : Mem → List Value → α → Prop} {T sz : Nat} {I : Mem} {m : Nat} : SMap enc T sz rel I (one m (.map #[] 0)) m ([] : List (κ × List α)) := by
  have := SMap.nil (enc := enc) (rel := rel) (T := T) (sz := sz) (I := I) (m := m)
  rwa [show joinM [one m (.map #[] 0)] = one m (.map #[] 0) from with_no _] at this
end Go.Gv
namespace Go.Gv
open Go
inductive Nd (α : Type) where
  | mk : List α → List (Nd α) → Nd α
def Nd.ps {α : Type} : Nd α → List α
  | .mk p _ => p
def Nd.ks {α : Type} : Nd α → List (Nd α)
  | .mk _ k => k
def ptrB (b : Nat) : Value := .pointer (some ⟨b, 0, none⟩)
def RPtr (_ : Mem) (cs : List Value) (b : Nat) : Prop := cs = [ptrB b]
instance : Mono RPtr := ⟨fun _ h => h, fun h c hv => by
  obtain rfl := h
  simp only [List.mem_cons, List.not_mem_nil, or_false] at hv
  subst hv
  rfl⟩
inductive OwnTr {α : Type} (TN TP sz TK : Nat) (rel : Mem → List Value → α → Prop) (I : Mem) : List Mem → Nat → Nd α → Prop where
  | mk (b : Nat) (a : Option Addr) (c : Nat) (ps : List α) (Cp : Mem) (a2 : Option Addr) (c2 : Nat) (bs : List Nat) (Ck : Mem) (Pss : List (List Mem)) (ks : List (Nd α)) (hp : OwnSl TP sz rel I Cp a c ps) (hk : OwnSl TK 1 RPtr I Ck a2 c2 bs) (hl : Pss.length = ks.length) (hb : bs.length = ks.length)
    (h : ∀ (i : Nat) (P : List Mem) (x : Nat) (k : Nd α), Pss[i]? = some P → bs[i]? = some x → ks[i]? = some k → OwnTr TN TP sz TK rel I P x k) :
    OwnTr TN TP sz TK rel I (one b (.cells #[.slice a ps.length c, .slice a2 bs.length c2] TN (0, 0)) :: Cp :: Ck :: Pss.flatten) b (.mk ps ks)
section
variable {α : Type} {TN TP sz TK : Nat} {rel : Mem → List Value → α → Prop} {I J C : Mem} {Ps : List Mem} {b m : Nat} {t : Nd α} {E w : World} {Os : List Mem}
theorem OwnTr.mono [Mono rel] (h : OwnTr TN TP sz TK rel I Ps b t) (hl : I.Le J) : OwnTr TN TP sz TK rel J Ps b t := by
  induction h with
  | mk b a c ps Cp a2 c2 bs Ck Pss ks hp hk hlen hb h ih => exact .mk b a c ps Cp a2 c2 bs Ck Pss ks (hp.mono hl) (hk.mono hl) hlen hb ih
def TreeM (TN TP sz TK : Nat) (rel : Mem → List Value → α → Prop) (I C : Mem) (m : Nat) (t : Nd α) : Prop := ∃ Ps : List Mem, C = joinM Ps ∧ Ps.Pairwise Apt ∧ OwnTr TN TP sz TK rel I Ps m t
theorem TreeM.mono [Mono rel] (h : TreeM TN TP sz TK rel I C m t) (hl : I.Le J) : TreeM TN TP sz TK rel J C m t := by
  obtain ⟨Ps, h1, h2, h3⟩ := h
  exact ⟨Ps, h1, h2, h3.mono hl⟩
theorem TreeM.open_ (h : TreeM TN TP sz TK rel I C m t) (hS : St E w I (C :: Os)) : ∃ Ps, St E w I (Ps ++ Os) ∧ OwnTr TN TP sz TK rel I Ps m t := by
  obtain ⟨Ps, rfl, h2, h3⟩ := h
  exact ⟨Ps, st_parts h2 hS, h3⟩
theorem OwnTr.shut (h : OwnTr TN TP sz TK rel I Ps m t) (hS : St E w I (Ps ++ Os)) : ∃ C, TreeM TN TP sz TK rel I C m t ∧ St E w I (C :: Os) :=
  ⟨_, ⟨Ps, rfl, (List.pairwise_append.1 hS.dj).1, h⟩, st_joins hS⟩
theorem OwnTr.put [Mono rel] {b : Nat} {a : Option Addr} {c : Nat} {ps : List α} {Cp : Mem} {a2 : Option Addr} {c2 : Nat} {bs : List Nat} {Ck : Mem} {Pss : List (List Mem)} {ks : List (Nd α)} (hp : OwnSl TP sz rel I Cp a c ps) (hk : OwnSl TK 1 RPtr I Ck a2 c2 bs) (hl : Pss.length = ks.length) (hb : bs.length = ks.length)
    (h : ∀ (i : Nat) (P : List Mem) (x : Nat) (k : Nd α), Pss[i]? = some P → bs[i]? = some x → ks[i]? = some k → OwnTr TN TP sz TK rel I P x k) {i x : Nat} {P' : List Mem} {k' : Nd α} (hx : bs[i]? = some x) (hle : I.Le J) (h' : OwnTr TN TP sz TK rel J P' x k') :
    OwnTr TN TP sz TK rel J (one b (.cells #[.slice a ps.length c, .slice a2 bs.length c2] TN (0, 0)) :: Cp :: Ck :: (Pss.set i P').flatten) b (.mk ps (ks.set i k')) := by
  have hib := (List.getElem?_eq_some_iff.1 hx).1
  refine .mk b a c ps Cp a2 c2 bs Ck (Pss.set i P') (ks.set i k') (hp.mono hle) (hk.mono hle) (by rw [List.length_set, List.length_set, hl]) (by rw [List.length_set, hb]) fun j P y k hP hy hk2 => ?_
  rw [List.getElem?_set] at hP hk2
  by_cases e : i = j
  · subst e
    rw [if_pos rfl, if_pos (by omega)] at hP hk2
    rw [hx] at hy
    obtain rfl := Option.some.inj hP
    obtain rfl := Option.some.inj hk2
    obtain rfl := Option.some.inj hy
    exact h'
  · rw [if_neg e] at hP hk2
    exact (h j P y k hP hy hk2).mono hle
end
end Go.Gv
namespace Go.Gv
open Go Go.Proofs
set_option linter.unusedVariables false
def bs (s : ByteArray) : List UInt8 := s.data.toList
def ub (l : List UInt8) : ByteArray := ⟨l.toArray⟩
theorem ub_bs (s : ByteArray) : ub (bs s) = s := by cases s; rfl
theorem bs_ub (l : List UInt8) : bs (ub l) = l := by simp [bs, ub]
def sortS (xs : List ByteArray) : List ByteArray := ((xs.map bs).mergeSort fun x y => decide (x ≤ y)).map ub
def sortI (xs : List Int) : List Int := xs.mergeSort fun x y => decide (x ≤ y)
def sortSO (xs : List ByteArray) : Option (List ByteArray) := if xs.length < 4611686018427387904 then some (sortS xs) else none
theorem sortS_len (xs : List ByteArray) : (sortS xs).length = xs.length := by simp [sortS]
theorem sortI_len (xs : List Int) : (sortI xs).length = xs.length := by simp [sortI]
section
variable {E w w' : World} {I : Mem} {Os : List Mem}
theorem St.grow (h : St E w I Os) (os : Array Obj) : St E (Go.Sort.grow w os) I Os := by
  have key : ∀ {H : Mem}, Rdb w H → Rdb (Go.Sort.grow w os) H := by
    intro H hH b o hb
    have hlt := hH.lt hb
    show (w.heap ++ os)[b]? = _
    rw [Array.getElem?_append_left hlt]
    exact hH b o hb
  exact ⟨h.os, h.tape, h.output, key h.im, fun C hC => ⟨key (h.ow C hC).1, (h.ow C hC).2⟩, h.dj⟩
theorem St.below (h : St E w I Os) (hb : RowKit.Below w.heap.size w w') : St E w' I Os := by
  have key : ∀ {H : Mem}, Rdb w H → Rdb w' H := by
    intro H hH b o hbo
    rw [hb.block b (hH.lt hbo)]
    exact hH b o hbo
  exact ⟨hb.os.trans h.os, hb.tape.trans h.tape, hb.output.trans h.output, key h.im, fun C hC => ⟨key (h.ow C hC).1, (h.ow C hC).2⟩, h.dj⟩
theorem St.fresh (h : St E w I Os) (hb : RowKit.Below w.heap.size w w') {g : Nat} {o : Obj} (hg : w'.heap[g]? = some o) (hge : w.heap.size ≤ g) : St E w' (I.with (one g o)) Os := by
  have h' := h.below hb
  have hn : ∀ {H : Mem}, Rdb w H → H g = none := fun hH => hH.none_of_ge hge
  refine ⟨h'.os, h'.tape, h'.output, ?_, fun C hC => ⟨(h'.ow C hC).1, fun b => ?_⟩, h'.dj⟩
  · intro b u hbu
    cases hi : I b with
    | some v => simp [Mem.with, hi] at hbu; subst hbu; exact h'.im b v hi
    | none =>
      simp [Mem.with, hi] at hbu
      obtain ⟨rfl, rfl⟩ := one_some hbu
      exact hg
  · rcases (h'.ow C hC).2 b with e | e
    · exact .inl e
    · by_cases hbg : b = g
      · subst hbg
        exact .inl (hn (h.ow C hC).1)
      · exact .inr (by simp [Mem.with, e, one_ne hbg])
variable {α β : Type} {P : Program} {f T : Nat} {C : Mem} {a : Option Addr} {cap : Nat}
theorem sort_own {enc : α → Value} {g : β → α} {gi : α → β} {rel : Mem → List Value → β → Prop} [Inhabited α] (srt : List α → List α) (hlen : ∀ zs, (srt zs).length = zs.length) (hrel : ∀ I cs x, rel I cs x ↔ cs = [enc (g x)]) (hgi : ∀ z, enc (g (gi z)) = enc z)
    (hcall : ∀ (blk off cap : Nat) (zs : List α) (w : World), Go.Sort.Holds enc w blk off zs.toArray → blk < w.heap.size → zs.length < 4611686018427387904 →
      Calls P f #[.slice (some ⟨blk, off, none⟩) zs.length cap] w fun e w' => e = .returned (.tuple #[]) ∧ ∃ n os, w' = Go.Sort.grow (Go.Sort.putRow enc (Go.Sort.ahead w n) blk off (srt zs).toArray) os)
    (hnone : ∀ (p : Option Addr) (cap : Nat) (w : World), Calls P f #[.slice p 0 cap] w fun e w' => e = .returned (.tuple #[]) ∧ w' = w)
    {xs : List β} (h : OwnSl T 1 rel I C a cap xs) (hS : St E w I (C :: Os)) (hsm : xs.length < 4611686018427387904) :
    Calls P f #[.slice a xs.length cap] w fun e w' => ∃ C', e = .returned (.tuple #[]) ∧ St E w' I (C' :: Os) ∧ OwnSl T 1 rel I C' a cap ((srt (xs.map g)).map gi) := by
  cases hxs : xs with
  | nil =>
    subst hxs
    refine (hnone a cap w).mono ?_
    rintro e w' ⟨rfl, rfl⟩
    refine ⟨C, rfl, hS, ?_⟩
    have : srt (([] : List β).map g) = [] := List.eq_nil_of_length_eq_zero (by rw [hlen]; rfl)
    rw [this]
    exact h
  | cons x0 r =>
    rw [← hxs]
    obtain ⟨c, rfl, ha, hs⟩ := h.at_ (i := 0) (x := x0) (by rw [hxs]; rfl)
    generalize hb : bl a = b at *
    generalize ho : of a = off at *
    subst ha
    have hw := hS.rd0 b _ (one_at b _)
    have hbl : b < w.heap.size := (Array.getElem?_eq_some_iff.1 hw).1
    have hcell : ∀ j x, xs[j]? = some x → c[off + j]? = some (enc (g x)) := by
      intro j x hx
      obtain ⟨_, cs, _, hr, hc⟩ := h.sl.el j x hx
      rw [hrel] at hr
      subst hr
      obtain ⟨c2, T2, fz, hb2, hget⟩ := hc
      have e1 : bl (some (⟨b, off, none⟩ : Addr)) = b := rfl
      rw [e1, one_at] at hb2
      injection hb2 with hb2
      injection hb2 with h1 h2 h3
      subst h1
      have := hget 0 _ rfl
      simpa [of] using this
    have hle := h.sl.le
    have hH : Go.Sort.Holds enc w b off (xs.map g).toArray := by
      intro j hj
      have hj' : j < xs.length := by simpa using hj
      refine ⟨?_, by simp [World.frozen?, hw]⟩
      have := hcell j xs[j] (List.getElem?_eq_getElem hj')
      simp [World.cell?, hw, this, hj']
    have hcl := hcall b off cap (xs.map g) w hH hbl (by simpa using hsm)
    rw [List.length_map] at hcl
    refine hcl.mono ?_
    rintro e w' ⟨rfl, n, os, rfl⟩
    have hput : St E (Go.Sort.putRow enc (Go.Sort.ahead w n) b off (srt (xs.map g)).toArray) I (one b (.cells (Go.Sort.putCells enc off (srt (xs.map g)).toArray c) T (0, 0)) :: Os) := by
      have := hS.put (one_at b _) (o' := .cells (Go.Sort.putCells enc off (srt (xs.map g)).toArray c) T (0, 0)) (w' := Go.Sort.putRow enc (Go.Sort.ahead w n) b off (srt (xs.map g)).toArray) rfl rfl rfl (by
        simp [Go.Sort.putRow, Go.Sort.mapBlock, Go.Sort.ahead, Array.getElem?_modify, hw, Go.Sort.onCells]) (fun i hi => by
        simp only [Go.Sort.putRow, Go.Sort.mapBlock, Go.Sort.ahead, Array.getElem?_modify]
        rw [if_neg (fun e => hi e.symm)])
      rwa [one_set] at this
    refine ⟨_, rfl, hput.grow os, ⟨⟨by simp [hlen]; exact hle, h.sl.lt, ?_⟩, .inr ⟨b, off, _, rfl, rfl, by simp only [Go.Sort.putCells, Array.size_mapIdx]; exact hs⟩⟩⟩
    intro i y hy
    refine ⟨rfl, [enc (g y)], rfl, (hrel _ _ _).2 rfl, _, _, _, one_at _ _, ?_⟩
    intro j v hj
    have hj0 : j = 0 := by
      have := (List.getElem?_eq_some_iff.1 hj).1
      simpa using this
    subst hj0
    simp at hj
    subst hj
    have hil : i < (srt (xs.map g)).length := by
      have := (List.getElem?_eq_some_iff.1 hy).1
      simpa using this
    have hil2 : i < xs.length := by rw [hlen] at hil; simpa using hil
    have hci : off + i < c.size := by omega
    rw [List.getElem?_map, List.getElem?_eq_getElem hil] at hy
    simp at hy
    subst hy
    show (Go.Sort.putCells enc off (srt (xs.map g)).toArray c)[off + i * 1 + 0]? = _
    simp only [Nat.mul_one, Nat.add_zero, Go.Sort.putCells, Array.getElem?_mapIdx, List.size_toArray, hgi]
    rw [Array.getElem?_eq_getElem hci]
    simp [hil]
end
section
open Go.WideElems
end
end Go.Gv
namespace Go.Gv
open Go Go.Proofs
set_option linter.unusedVariables false
def i64ok (x : Int) : Bool := (Lit.int .i64 x).wf
def keysI {ν : Type} (l : List (Int × ν)) : Option (List Int) :=
  if (l.map (·.1)).Nodup ∧ l.length ≤ 8796093022208 ∧ (∀ k ∈ l.map (·.1), i64ok k = true) then some (sortI (l.map (·.1))) else none
section
open Go.WideElems
theorem own_mapI {ν : Type} {val : Mem → Value → ν → Prop} {I C : Mem} {m : Nat} {l : List (Int × ν)} (h : OwnMap (Value.int .i64) val I C m l) {P : Program} {kt : Nat} (hk : P.underlying kt = some (.int .i64)) (hnd : (l.map (·.1)).Nodup) (hlen : l.length ≤ 8796093022208) (hsz : ∀ k ∈ l.map (·.1), i64ok k = true)
    {w : World} (hw : Rdb w C) : ∃ D0 : DataW Unit, w.ownsMap P kt (fun _ => some (.nil, [])) m l.length D0 ∧ Maps.size D0 = l.length ∧ (intKeys D0).Perm (l.map (·.1)) := by
  obtain ⟨es, clock, rfl, h2, h3, h4, h5⟩ := h.ex
  have hkeys : es.toList.map (·.key) = (l.map (·.1)).map (Value.int .i64) := by rw [h2, List.map_map]; rfl
  have hsize : es.size = l.length := by have := congrArg List.length h2; simpa using this
  have hkey : ∀ x ∈ es.toList, ∃ s, s ∈ l.map (·.1) ∧ x.key = .int .i64 s := by
    intro x hx
    have : x.key ∈ es.toList.map (·.key) := List.mem_map.2 ⟨x, hx, rfl⟩
    rw [hkeys] at this
    obtain ⟨s, hs, e⟩ := List.mem_map.1 this
    exact ⟨s, hs, e.symm⟩
  have hko : ∀ s : Int, i64ok s = true → keyOf P kt (.int .i64 s) = some (.int .i64 s) := by
    intro s hs
    unfold i64ok at hs
    simp [keyOf, mapKey, hk, hs]
  have hrd : ∀ x ∈ es.toList, ∀ s, x.key = .int .i64 s → i64ok s = true → rd (H := Unit) P kt (fun _ => some (.nil, [])) x = some (.int .i64 s, .nil) := by
    intro x hx s e hs
    unfold rd
    rw [e, hko s hs]
    rfl
  refine ⟨.map ((es.toList.map (rg P kt (fun _ => some (.nil, [])))).foldr DataW.insert []), ⟨es, clock, hw m _ (one_at m _), ⟨by simp only [hsize, maxLen]; omega, ⟨h4, h5, ?_⟩, ?_⟩, by omega, rfl⟩, ?_, ?_⟩
  · rw [hkeys]
    exact List.Pairwise.map _ (fun a b hab e => hab (by injection e)) hnd
  · intro x hx
    obtain ⟨s, hs, e⟩ := hkey x hx
    exact ⟨_, hrd x hx s e (hsz s hs)⟩
  · show ((es.toList.map _).foldr DataW.insert []).length = _
    rw [length_sorted]
    simp [hsize]
  · show (((es.toList.map _).foldr DataW.insert []).map fun p => intOf p.1).Perm _
    refine ((WideShapes.sorted_perm _).map _).trans ?_
    rw [List.map_map]
    have : es.toList.map ((fun p : Lit × DataW Unit => intOf p.1) ∘ rg P kt (fun _ => some (.nil, []))) = l.map (·.1) := by
      have e2 : l.map (·.1) = (es.toList.map (·.key)).map (fun v => match v with | .int _ s => s | _ => 0) := by
        rw [hkeys]
        simp
      rw [e2, List.map_map]
      refine List.map_congr_left fun x hx => ?_
      obtain ⟨s, hs, e⟩ := hkey x hx
      simp only [Function.comp, rg, hrd x hx s e (hsz s hs), Option.getD_some, e]
      rfl
    rw [this]
theorem keys_ownI {ν : Type} {val : Mem → Value → ν → Prop} {E w : World} {I C : Mem} {Os : List Mem} {m Bm T : Nat} {l : List (Int × ν)} (h : OwnMap (Value.int .i64) val I C m l) (hS : St E w I (one Bm (.cells #[.map (some m)] T (0, 0)) :: C :: Os)) {P : Program} {f g kt : Nat} (hk : P.underlying kt = some (.int .i64))
    (hcall : ∀ (b nn : Nat) (D0 : DataW Unit) (R : Value → Option (DataW Unit × List MemPlace)) (w : World), Bm < w.heap.size → w.cell? ⟨Bm, 0, none⟩ = some (.map (some b)) → w.ownsMap P kt R b nn D0 → Maps.size D0 ≤ maxLen → Maps.size D0 * 8 ≤ 140737488355328 →
      Calls P f #[.func (.func g) #[] #[.pointer (some ⟨Bm, 0, none⟩)]] w fun e w' => ∃ (v : Value) (ss : List Int), e = .returned v ∧ ss.Perm (intKeys D0) ∧
        w'.ownsRow w.heap.size kt 1 v ss.length ((ss.mergeSort (fun x y => decide (x ≤ y))).map encZ) ∧ (v = .slice none 0 0 ↔ ss = []) ∧ RowKit.Below w.heap.size w w')
    {r : List Int} (hr : keysI l = some r) :
    Calls P f #[.func (.func g) #[] #[.pointer (some ⟨Bm, 0, none⟩)]] w fun e w' => ∃ (I' : Mem) (a : Option Addr) (c : Nat), e = .returned (.slice a r.length c) ∧ I.Le I' ∧ St E w' I' (one Bm (.cells #[.map (some m)] T (0, 0)) :: C :: Os) ∧ RSl 1 (RInt .i64) I' a c r := by
  unfold keysI at hr
  split at hr
  · rename_i hc
    obtain ⟨hnd, hlen, hsz⟩ := hc
    injection hr with hr
    subst hr
    obtain ⟨D0, hown, hds, hperm⟩ := own_mapI h hk hnd hlen hsz (hS.drop.rd0)
    have hw := hS.rd0 Bm _ (one_at Bm _)
    have hbl : Bm < w.heap.size := (Array.getElem?_eq_some_iff.1 hw).1
    refine (hcall m l.length D0 _ w hbl (by simp [World.cell?, hw]) hown (by rw [hds]; simp only [maxLen]; omega) (by rw [hds]; omega)).mono ?_
    rintro e w' ⟨v, ss, rfl, hss, hrow, hnil, hb⟩
    have hsort : (ss.mergeSort fun x y => decide (x ≤ y)) = sortI (l.map (·.1)) := mergeSort_of_perm_i (hss.trans hperm)
    have hsl : (sortI (l.map (·.1))).length = ss.length := by rw [sortI_len]; have := (hss.trans hperm).length_eq; simpa using this.symm
    rcases hrow.2 with ⟨rfl, hz⟩ | ⟨gb, cap, cur, rfl, hbase, hgb, r1, r2, r3, r4⟩
    · have : sortI (l.map (·.1)) = [] := List.eq_nil_of_length_eq_zero (by rw [hsl]; exact hz)
      rw [this]
      exact ⟨I, none, 0, rfl, Mem.Le.refl _, hS.below hb, SlAt.nil⟩
    · refine ⟨_, some ⟨gb, 0, none⟩, cap, by rw [hsl], ybd _ _, hS.fresh hb hgb hbase, ⟨by rw [hsl]; exact r1, ?_, ?_⟩⟩
      · simp only [maxLen] at r2
        unfold big
        omega
      · intro i x hx
        refine ⟨rfl, [.int .i64 x], rfl, rfl, cur, kt, (0, 0), ?_, ?_⟩
        · show (I.with (one gb _)) gb = _
          have : I gb = none := hS.im.none_of_ge hbase
          simp [Mem.with, this, one_at]
        · intro j u hj
          have hj0 : j = 0 := by
            have := (List.getElem?_eq_some_iff.1 hj).1
            simpa using this
          subst hj0
          simp at hj
          subst hj
          have hil : i < ss.length := by
            have := (List.getElem?_eq_some_iff.1 hx).1
            omega
          have h5 : (cur.toList.take (ss.length * 1))[i]? = some (.int .i64 x) := by
            rw [r4, hsort, List.getElem?_map, hx]
            rfl
          rw [List.getElem?_take] at h5
          split at h5
          · show cur[of (some (⟨gb, 0, none⟩ : Addr)) + i * 1 + 0]? = _
            simpa [of] using h5
          · cases h5
  · cases hr
end
end Go.Gv
