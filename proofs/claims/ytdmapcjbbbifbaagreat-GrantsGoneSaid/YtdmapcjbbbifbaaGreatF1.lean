/- What functions of the program come to, each by a plain one. Conditions: none. -/
import Derived.Test.YtdmapcjbbbifbaaGreatProg
import Derived.Test.YtdmapcjbbbifbaaGreatShelf
set_option maxRecDepth 100000
namespace Go.Proofs.YtdmapcjbbbifbaaGreat
open Go.Gv
set_option maxHeartbeats 1000000
variable {E w : World} {I : Mem} {Os : List Mem}
noncomputable abbrev P := Tryz.prog
structure qValue where
  Kind : Int
  N : Int
  S : ByteArray
def cs_qValue (x : qValue) : List Value := [.int .i64 x.Kind, .int .i64 x.N, .string x.S]
def R_qValue (I : Mem) (cs : List Value) (x : qValue) : Prop := cs = cs_qValue x
instance : Mono R_qValue := ⟨fun hl h => (by obtain rfl := h; exact rfl), fun h c hv => (by obtain rfl := h; exact (by simp only [cs_qValue, List.mem_cons, List.not_mem_nil, or_false] at hv; rcases hv with rfl | rfl | rfl <;> first | rfl | rfl))⟩
def z_qValue : qValue := ⟨0, 0, (⟨#[]⟩ : ByteArray)⟩
structure qExpr where
  Kind : Int
  Op : Int
  V : qValue
  Name : ByteArray
  Kids : List qExpr
structure W_qExpr where
  Kids : SW
def cs_qExpr (x : qExpr) (v : W_qExpr) : List Value := [.int .i64 x.Kind, .int .i64 x.Op, .int .i64 x.V.Kind, .int .i64 x.V.N, .string x.V.S, .string x.Name, .slice v.Kids.a x.Kids.length v.Kids.c]
structure okF_qExpr (R : Mem → List Value → qExpr → Prop) (I : Mem) (x : qExpr) (v : W_qExpr) : Prop where
  Kids : RSl 7 R I v.Kids.a v.Kids.c x.Kids
theorem okF_qExpr.mono {R : Mem → List Value → qExpr → Prop} [Mono R] {I J : Mem} {x : qExpr} {v : W_qExpr} (h : okF_qExpr R I x v) (hl : I.Le J) : okF_qExpr R J x v := ⟨RSl.mono h.Kids hl⟩
theorem okF_qExpr.map {R S : Mem → List Value → qExpr → Prop} (hm : ∀ I cs x, R I cs x → S I cs x) {I : Mem} {x : qExpr} {v : W_qExpr} (h : okF_qExpr R I x v) : okF_qExpr S I x v := ⟨SlAt.map (hm I) h.Kids⟩
def RF_qExpr : Nat → Mem → List Value → qExpr → Prop
  | 0, _, _, _ => False
  | k + 1, I, cs, x => ∃ v : W_qExpr, cs = cs_qExpr x v ∧ okF_qExpr (RF_qExpr k) I x v
def Q_qExpr (I : Mem) (cs : List Value) (x : qExpr) : Prop := ∃ k, RF_qExpr k I cs x
abbrev ok_qExpr (I : Mem) (x : qExpr) (v : W_qExpr) : Prop := okF_qExpr Q_qExpr I x v
theorem RF_qExpr_up : ∀ (k : Nat) (I : Mem) (cs : List Value) (x : qExpr), RF_qExpr k I cs x → RF_qExpr (k + 1) I cs x
  | 0, _, _, _, h => h.elim
  | k + 1, I, cs, x, ⟨v, e, h⟩ => ⟨v, e, h.map (RF_qExpr_up k)⟩
theorem Q_qExpr_iff {I : Mem} {cs : List Value} {x : qExpr} : Q_qExpr I cs x ↔ ∃ v : W_qExpr, cs = cs_qExpr x v ∧ ok_qExpr I x v := by
  constructor
  · rintro ⟨k, h⟩
    cases k with
    | zero => exact h.elim
    | succ k =>
      obtain ⟨v, e, h⟩ := h
      exact ⟨v, e, h.map fun _ _ _ h => ⟨k, h⟩⟩
  · rintro ⟨v, e, h⟩
    obtain ⟨k, b⟩ := ybc (R := RF_qExpr) (fun k cs x => RF_qExpr_up k I cs x) h.Kids
    exact ⟨k + 1, v, e, ⟨b⟩⟩
theorem RF_qExpr_mono : ∀ k : Nat, Mono (RF_qExpr k)
  | 0 => ⟨fun _ h => h.elim, fun h => h.elim⟩
  | k + 1 => by
    haveI := RF_qExpr_mono k
    exact ⟨fun hl h => (by obtain ⟨v, rfl, h⟩ := h; exact ⟨v, rfl, h.mono hl⟩), fun h c hv => (by obtain ⟨v, rfl, h⟩ := h; exact (by simp only [cs_qExpr, List.mem_cons, List.not_mem_nil, or_false] at hv; rcases hv with rfl | rfl | rfl | rfl | rfl | rfl | rfl <;> first | rfl | rfl))⟩
instance : Mono Q_qExpr := ⟨fun hl h => (by obtain ⟨k, h⟩ := h; exact ⟨k, (RF_qExpr_mono k).mono hl h⟩), fun h c hv => (by obtain ⟨k, h⟩ := h; exact (RF_qExpr_mono k).one h c hv)⟩
theorem ok_qExpr.mono {I J : Mem} {x : qExpr} {v : W_qExpr} (h : ok_qExpr I x v) (hl : I.Le J) : ok_qExpr J x v := okF_qExpr.mono h hl
def R_qExpr (I : Mem) (cs : List Value) (x : qExpr) : Prop := ∃ v : W_qExpr, cs = cs_qExpr x v ∧ ok_qExpr I x v
instance : Mono R_qExpr := ⟨fun hl h => (by obtain ⟨v, rfl, h⟩ := h; exact ⟨v, rfl, h.mono hl⟩), fun h c hv => (by obtain ⟨v, rfl, h⟩ := h; exact (by simp only [cs_qExpr, List.mem_cons, List.not_mem_nil, or_false] at hv; rcases hv with rfl | rfl | rfl | rfl | rfl | rfl | rfl <;> first | rfl | rfl))⟩
def z_qExpr : qExpr := ⟨0, 0, z_qValue, (⟨#[]⟩ : ByteArray), []⟩
def zw_qExpr : W_qExpr := ⟨⟨none, 0⟩⟩
theorem zok_qExpr {I : Mem} : ok_qExpr I z_qExpr zw_qExpr := ⟨SlAt.nil⟩
structure qColumn where
  Name : ByteArray
  Type_ : Int
  NotNull : Bool
def cs_qColumn (x : qColumn) : List Value := [.string x.Name, .int .i64 x.Type_, .bool x.NotNull]
def R_qColumn (I : Mem) (cs : List Value) (x : qColumn) : Prop := cs = cs_qColumn x
instance : Mono R_qColumn := ⟨fun hl h => (by obtain rfl := h; exact rfl), fun h c hv => (by obtain rfl := h; exact (by simp only [cs_qColumn, List.mem_cons, List.not_mem_nil, or_false] at hv; rcases hv with rfl | rfl | rfl <;> first | rfl | rfl))⟩
def z_qColumn : qColumn := ⟨(⟨#[]⟩ : ByteArray), 0, false⟩
structure qCons where
  Name : ByteArray
  Kind : Int
  Cols : List ByteArray
  Check : qExpr
  Table : ByteArray
  Refs : List ByteArray
structure W_qCons where
  Cols : SW
  Check : W_qExpr
  Refs : SW
def cs_qCons (x : qCons) (v : W_qCons) : List Value := [.string x.Name, .int .i64 x.Kind, .slice v.Cols.a x.Cols.length v.Cols.c, .int .i64 x.Check.Kind, .int .i64 x.Check.Op, .int .i64 x.Check.V.Kind, .int .i64 x.Check.V.N, .string x.Check.V.S, .string x.Check.Name, .slice v.Check.Kids.a x.Check.Kids.length v.Check.Kids.c, .string x.Table, .slice v.Refs.a x.Refs.length v.Refs.c]
structure ok_qCons (I : Mem) (x : qCons) (v : W_qCons) : Prop where
  Cols : RSl 1 RStr I v.Cols.a v.Cols.c x.Cols
  Check : ok_qExpr I x.Check v.Check
  Refs : RSl 1 RStr I v.Refs.a v.Refs.c x.Refs
theorem ok_qCons.mono {I J : Mem} {x : qCons} {v : W_qCons} (h : ok_qCons I x v) (hl : I.Le J) : ok_qCons J x v := ⟨RSl.mono h.Cols hl, h.Check.mono hl, RSl.mono h.Refs hl⟩
def R_qCons (I : Mem) (cs : List Value) (x : qCons) : Prop := ∃ v : W_qCons, cs = cs_qCons x v ∧ ok_qCons I x v
instance : Mono R_qCons := ⟨fun hl h => (by obtain ⟨v, rfl, h⟩ := h; exact ⟨v, rfl, h.mono hl⟩), fun h c hv => (by obtain ⟨v, rfl, h⟩ := h; exact (by simp only [cs_qCons, List.mem_cons, List.not_mem_nil, or_false] at hv; rcases hv with rfl | rfl | rfl | rfl | rfl | rfl | rfl | rfl | rfl | rfl | rfl | rfl <;> first | rfl | rfl))⟩
def z_qCons : qCons := ⟨(⟨#[]⟩ : ByteArray), 0, [], z_qExpr, (⟨#[]⟩ : ByteArray), []⟩
def zw_qCons : W_qCons := ⟨⟨none, 0⟩, zw_qExpr, ⟨none, 0⟩⟩
theorem zok_qCons {I : Mem} : ok_qCons I z_qCons zw_qCons := ⟨SlAt.nil, zok_qExpr, SlAt.nil⟩
structure qSet where
  Name : ByteArray
  E : qExpr
structure W_qSet where
  E : W_qExpr
def cs_qSet (x : qSet) (v : W_qSet) : List Value := [.string x.Name, .int .i64 x.E.Kind, .int .i64 x.E.Op, .int .i64 x.E.V.Kind, .int .i64 x.E.V.N, .string x.E.V.S, .string x.E.Name, .slice v.E.Kids.a x.E.Kids.length v.E.Kids.c]
structure ok_qSet (I : Mem) (x : qSet) (v : W_qSet) : Prop where
  E : ok_qExpr I x.E v.E
theorem ok_qSet.mono {I J : Mem} {x : qSet} {v : W_qSet} (h : ok_qSet I x v) (hl : I.Le J) : ok_qSet J x v := ⟨h.E.mono hl⟩
def R_qSet (I : Mem) (cs : List Value) (x : qSet) : Prop := ∃ v : W_qSet, cs = cs_qSet x v ∧ ok_qSet I x v
instance : Mono R_qSet := ⟨fun hl h => (by obtain ⟨v, rfl, h⟩ := h; exact ⟨v, rfl, h.mono hl⟩), fun h c hv => (by obtain ⟨v, rfl, h⟩ := h; exact (by simp only [cs_qSet, List.mem_cons, List.not_mem_nil, or_false] at hv; rcases hv with rfl | rfl | rfl | rfl | rfl | rfl | rfl | rfl <;> first | rfl | rfl))⟩
def z_qSet : qSet := ⟨(⟨#[]⟩ : ByteArray), z_qExpr⟩
def zw_qSet : W_qSet := ⟨zw_qExpr⟩
theorem zok_qSet {I : Mem} : ok_qSet I z_qSet zw_qSet := ⟨zok_qExpr⟩
structure qOrder where
  E : qExpr
  Desc : Bool
structure W_qOrder where
  E : W_qExpr
def cs_qOrder (x : qOrder) (v : W_qOrder) : List Value := [.int .i64 x.E.Kind, .int .i64 x.E.Op, .int .i64 x.E.V.Kind, .int .i64 x.E.V.N, .string x.E.V.S, .string x.E.Name, .slice v.E.Kids.a x.E.Kids.length v.E.Kids.c, .bool x.Desc]
structure ok_qOrder (I : Mem) (x : qOrder) (v : W_qOrder) : Prop where
  E : ok_qExpr I x.E v.E
theorem ok_qOrder.mono {I J : Mem} {x : qOrder} {v : W_qOrder} (h : ok_qOrder I x v) (hl : I.Le J) : ok_qOrder J x v := ⟨h.E.mono hl⟩
def R_qOrder (I : Mem) (cs : List Value) (x : qOrder) : Prop := ∃ v : W_qOrder, cs = cs_qOrder x v ∧ ok_qOrder I x v
instance : Mono R_qOrder := ⟨fun hl h => (by obtain ⟨v, rfl, h⟩ := h; exact ⟨v, rfl, h.mono hl⟩), fun h c hv => (by obtain ⟨v, rfl, h⟩ := h; exact (by simp only [cs_qOrder, List.mem_cons, List.not_mem_nil, or_false] at hv; rcases hv with rfl | rfl | rfl | rfl | rfl | rfl | rfl | rfl <;> first | rfl | rfl))⟩
def z_qOrder : qOrder := ⟨z_qExpr, false⟩
def zw_qOrder : W_qOrder := ⟨zw_qExpr⟩
theorem zok_qOrder {I : Mem} : ok_qOrder I z_qOrder zw_qOrder := ⟨zok_qExpr⟩
structure qStmt where
  Kind : Int
  Table : ByteArray
  Name : ByteArray
  Role : ByteArray
  Cols : List qColumn
  Cons : List qCons
  Names : List ByteArray
  Rows : List (List qExpr)
  Where : qExpr
  Sets : List qSet
  Order : List qOrder
  Limit : Int
  Priv : Int
  Option : Bool
  Kids : List qStmt
structure W_qStmt where
  Cols : SW
  Cons : SW
  Names : SW
  Rows : SW
  Where : W_qExpr
  Sets : SW
  Order : SW
  Kids : SW
def cs_qStmt (x : qStmt) (v : W_qStmt) : List Value := [.int .i64 x.Kind, .string x.Table, .string x.Name, .string x.Role, .slice v.Cols.a x.Cols.length v.Cols.c, .slice v.Cons.a x.Cons.length v.Cons.c, .slice v.Names.a x.Names.length v.Names.c, .slice v.Rows.a x.Rows.length v.Rows.c, .int .i64 x.Where.Kind, .int .i64 x.Where.Op, .int .i64 x.Where.V.Kind, .int .i64 x.Where.V.N, .string x.Where.V.S, .string x.Where.Name, .slice v.Where.Kids.a x.Where.Kids.length v.Where.Kids.c, .slice v.Sets.a x.Sets.length v.Sets.c, .slice v.Order.a x.Order.length v.Order.c, .int .i64 x.Limit, .int .i64 x.Priv, .bool x.Option, .slice v.Kids.a x.Kids.length v.Kids.c]
structure okF_qStmt (R : Mem → List Value → qStmt → Prop) (I : Mem) (x : qStmt) (v : W_qStmt) : Prop where
  Cols : RSl 3 R_qColumn I v.Cols.a v.Cols.c x.Cols
  Cons : RSl 12 R_qCons I v.Cons.a v.Cons.c x.Cons
  Names : RSl 1 RStr I v.Names.a v.Names.c x.Names
  Rows : RSl 1 (RSlC 7 Q_qExpr) I v.Rows.a v.Rows.c x.Rows
  Where : ok_qExpr I x.Where v.Where
  Sets : RSl 8 R_qSet I v.Sets.a v.Sets.c x.Sets
  Order : RSl 8 R_qOrder I v.Order.a v.Order.c x.Order
  Kids : RSl 21 R I v.Kids.a v.Kids.c x.Kids
theorem okF_qStmt.mono {R : Mem → List Value → qStmt → Prop} [Mono R] {I J : Mem} {x : qStmt} {v : W_qStmt} (h : okF_qStmt R I x v) (hl : I.Le J) : okF_qStmt R J x v := ⟨RSl.mono h.Cols hl, RSl.mono h.Cons hl, RSl.mono h.Names hl, RSl.mono h.Rows hl, h.Where.mono hl, RSl.mono h.Sets hl, RSl.mono h.Order hl, RSl.mono h.Kids hl⟩
theorem okF_qStmt.map {R S : Mem → List Value → qStmt → Prop} (hm : ∀ I cs x, R I cs x → S I cs x) {I : Mem} {x : qStmt} {v : W_qStmt} (h : okF_qStmt R I x v) : okF_qStmt S I x v := ⟨h.Cols, h.Cons, h.Names, h.Rows, h.Where, h.Sets, h.Order, SlAt.map (hm I) h.Kids⟩
def RF_qStmt : Nat → Mem → List Value → qStmt → Prop
  | 0, _, _, _ => False
  | k + 1, I, cs, x => ∃ v : W_qStmt, cs = cs_qStmt x v ∧ okF_qStmt (RF_qStmt k) I x v
def Q_qStmt (I : Mem) (cs : List Value) (x : qStmt) : Prop := ∃ k, RF_qStmt k I cs x
abbrev ok_qStmt (I : Mem) (x : qStmt) (v : W_qStmt) : Prop := okF_qStmt Q_qStmt I x v
theorem RF_qStmt_up : ∀ (k : Nat) (I : Mem) (cs : List Value) (x : qStmt), RF_qStmt k I cs x → RF_qStmt (k + 1) I cs x
  | 0, _, _, _, h => h.elim
  | k + 1, I, cs, x, ⟨v, e, h⟩ => ⟨v, e, h.map (RF_qStmt_up k)⟩
theorem Q_qStmt_iff {I : Mem} {cs : List Value} {x : qStmt} : Q_qStmt I cs x ↔ ∃ v : W_qStmt, cs = cs_qStmt x v ∧ ok_qStmt I x v := by
  constructor
  · rintro ⟨k, h⟩
    cases k with
    | zero => exact h.elim
    | succ k =>
      obtain ⟨v, e, h⟩ := h
      exact ⟨v, e, h.map fun _ _ _ h => ⟨k, h⟩⟩
  · rintro ⟨v, e, h⟩
    obtain ⟨k, b⟩ := ybc (R := RF_qStmt) (fun k cs x => RF_qStmt_up k I cs x) h.Kids
    exact ⟨k + 1, v, e, ⟨h.Cols, h.Cons, h.Names, h.Rows, h.Where, h.Sets, h.Order, b⟩⟩
theorem RF_qStmt_mono : ∀ k : Nat, Mono (RF_qStmt k)
  | 0 => ⟨fun _ h => h.elim, fun h => h.elim⟩
  | k + 1 => by
    haveI := RF_qStmt_mono k
    exact ⟨fun hl h => (by obtain ⟨v, rfl, h⟩ := h; exact ⟨v, rfl, h.mono hl⟩), fun h c hv => (by obtain ⟨v, rfl, h⟩ := h; exact (by simp only [cs_qStmt, List.mem_cons, List.not_mem_nil, or_false] at hv; rcases hv with rfl | rfl | rfl | rfl | rfl | rfl | rfl | rfl | rfl | rfl | rfl | rfl | rfl | rfl | rfl | rfl | rfl | rfl | rfl | rfl | rfl <;> first | rfl | rfl))⟩
instance : Mono Q_qStmt := ⟨fun hl h => (by obtain ⟨k, h⟩ := h; exact ⟨k, (RF_qStmt_mono k).mono hl h⟩), fun h c hv => (by obtain ⟨k, h⟩ := h; exact (RF_qStmt_mono k).one h c hv)⟩
theorem ok_qStmt.mono {I J : Mem} {x : qStmt} {v : W_qStmt} (h : ok_qStmt I x v) (hl : I.Le J) : ok_qStmt J x v := okF_qStmt.mono h hl
def R_qStmt (I : Mem) (cs : List Value) (x : qStmt) : Prop := ∃ v : W_qStmt, cs = cs_qStmt x v ∧ ok_qStmt I x v
instance : Mono R_qStmt := ⟨fun hl h => (by obtain ⟨v, rfl, h⟩ := h; exact ⟨v, rfl, h.mono hl⟩), fun h c hv => (by obtain ⟨v, rfl, h⟩ := h; exact (by simp only [cs_qStmt, List.mem_cons, List.not_mem_nil, or_false] at hv; rcases hv with rfl | rfl | rfl | rfl | rfl | rfl | rfl | rfl | rfl | rfl | rfl | rfl | rfl | rfl | rfl | rfl | rfl | rfl | rfl | rfl | rfl <;> first | rfl | rfl))⟩
def z_qStmt : qStmt := ⟨0, (⟨#[]⟩ : ByteArray), (⟨#[]⟩ : ByteArray), (⟨#[]⟩ : ByteArray), [], [], [], [], z_qExpr, [], [], 0, 0, false, []⟩
def zw_qStmt : W_qStmt := ⟨⟨none, 0⟩, ⟨none, 0⟩, ⟨none, 0⟩, ⟨none, 0⟩, zw_qExpr, ⟨none, 0⟩, ⟨none, 0⟩, ⟨none, 0⟩⟩
theorem zok_qStmt {I : Mem} : ok_qStmt I z_qStmt zw_qStmt := ⟨SlAt.nil, SlAt.nil, SlAt.nil, SlAt.nil, zok_qExpr, SlAt.nil, SlAt.nil, SlAt.nil⟩
structure law19_Act where
  S : qStmt
  By : ByteArray
structure W_law19_Act where
  S : W_qStmt
def cs_law19_Act (x : law19_Act) (v : W_law19_Act) : List Value := [.int .i64 x.S.Kind, .string x.S.Table, .string x.S.Name, .string x.S.Role, .slice v.S.Cols.a x.S.Cols.length v.S.Cols.c, .slice v.S.Cons.a x.S.Cons.length v.S.Cons.c, .slice v.S.Names.a x.S.Names.length v.S.Names.c, .slice v.S.Rows.a x.S.Rows.length v.S.Rows.c, .int .i64 x.S.Where.Kind, .int .i64 x.S.Where.Op, .int .i64 x.S.Where.V.Kind, .int .i64 x.S.Where.V.N, .string x.S.Where.V.S, .string x.S.Where.Name, .slice v.S.Where.Kids.a x.S.Where.Kids.length v.S.Where.Kids.c, .slice v.S.Sets.a x.S.Sets.length v.S.Sets.c, .slice v.S.Order.a x.S.Order.length v.S.Order.c, .int .i64 x.S.Limit, .int .i64 x.S.Priv, .bool x.S.Option, .slice v.S.Kids.a x.S.Kids.length v.S.Kids.c, .string x.By]
structure ok_law19_Act (I : Mem) (x : law19_Act) (v : W_law19_Act) : Prop where
  S : ok_qStmt I x.S v.S
theorem ok_law19_Act.mono {I J : Mem} {x : law19_Act} {v : W_law19_Act} (h : ok_law19_Act I x v) (hl : I.Le J) : ok_law19_Act J x v := ⟨h.S.mono hl⟩
def R_law19_Act (I : Mem) (cs : List Value) (x : law19_Act) : Prop := ∃ v : W_law19_Act, cs = cs_law19_Act x v ∧ ok_law19_Act I x v
instance : Mono R_law19_Act := ⟨fun hl h => (by obtain ⟨v, rfl, h⟩ := h; exact ⟨v, rfl, h.mono hl⟩), fun h c hv => (by obtain ⟨v, rfl, h⟩ := h; exact (by simp only [cs_law19_Act, List.mem_cons, List.not_mem_nil, or_false] at hv; rcases hv with rfl | rfl | rfl | rfl | rfl | rfl | rfl | rfl | rfl | rfl | rfl | rfl | rfl | rfl | rfl | rfl | rfl | rfl | rfl | rfl | rfl | rfl <;> first | rfl | rfl))⟩
def z_law19_Act : law19_Act := ⟨z_qStmt, (⟨#[]⟩ : ByteArray)⟩
def zw_law19_Act : W_law19_Act := ⟨zw_qStmt⟩
theorem zok_law19_Act {I : Mem} : ok_law19_Act I z_law19_Act zw_law19_Act := ⟨zok_qStmt⟩
structure qIndex where
  Name : ByteArray
  Cols : List ByteArray
structure W_qIndex where
  Cols : SW
def cs_qIndex (x : qIndex) (v : W_qIndex) : List Value := [.string x.Name, .slice v.Cols.a x.Cols.length v.Cols.c]
structure ok_qIndex (I : Mem) (x : qIndex) (v : W_qIndex) : Prop where
  Cols : RSl 1 RStr I v.Cols.a v.Cols.c x.Cols
theorem ok_qIndex.mono {I J : Mem} {x : qIndex} {v : W_qIndex} (h : ok_qIndex I x v) (hl : I.Le J) : ok_qIndex J x v := ⟨RSl.mono h.Cols hl⟩
def R_qIndex (I : Mem) (cs : List Value) (x : qIndex) : Prop := ∃ v : W_qIndex, cs = cs_qIndex x v ∧ ok_qIndex I x v
instance : Mono R_qIndex := ⟨fun hl h => (by obtain ⟨v, rfl, h⟩ := h; exact ⟨v, rfl, h.mono hl⟩), fun h c hv => (by obtain ⟨v, rfl, h⟩ := h; exact (by simp only [cs_qIndex, List.mem_cons, List.not_mem_nil, or_false] at hv; rcases hv with rfl | rfl <;> first | rfl | rfl))⟩
def z_qIndex : qIndex := ⟨(⟨#[]⟩ : ByteArray), []⟩
def zw_qIndex : W_qIndex := ⟨⟨none, 0⟩⟩
theorem zok_qIndex {I : Mem} : ok_qIndex I z_qIndex zw_qIndex := ⟨SlAt.nil⟩
structure qTable where
  Name : ByteArray
  Owner : ByteArray
  Version : Int
  Cols : List qColumn
  Cons : List qCons
  Idx : List qIndex
structure W_qTable where
  Cols : SW
  Cons : SW
  Idx : SW
def cs_qTable (x : qTable) (v : W_qTable) : List Value := [.string x.Name, .string x.Owner, .int .i64 x.Version, .slice v.Cols.a x.Cols.length v.Cols.c, .slice v.Cons.a x.Cons.length v.Cons.c, .slice v.Idx.a x.Idx.length v.Idx.c]
structure ok_qTable (I : Mem) (x : qTable) (v : W_qTable) : Prop where
  Cols : RSl 3 R_qColumn I v.Cols.a v.Cols.c x.Cols
  Cons : RSl 12 R_qCons I v.Cons.a v.Cons.c x.Cons
  Idx : RSl 2 R_qIndex I v.Idx.a v.Idx.c x.Idx
theorem ok_qTable.mono {I J : Mem} {x : qTable} {v : W_qTable} (h : ok_qTable I x v) (hl : I.Le J) : ok_qTable J x v := ⟨RSl.mono h.Cols hl, RSl.mono h.Cons hl, RSl.mono h.Idx hl⟩
def R_qTable (I : Mem) (cs : List Value) (x : qTable) : Prop := ∃ v : W_qTable, cs = cs_qTable x v ∧ ok_qTable I x v
instance : Mono R_qTable := ⟨fun hl h => (by obtain ⟨v, rfl, h⟩ := h; exact ⟨v, rfl, h.mono hl⟩), fun h c hv => (by obtain ⟨v, rfl, h⟩ := h; exact (by simp only [cs_qTable, List.mem_cons, List.not_mem_nil, or_false] at hv; rcases hv with rfl | rfl | rfl | rfl | rfl | rfl <;> first | rfl | rfl))⟩
def z_qTable : qTable := ⟨(⟨#[]⟩ : ByteArray), (⟨#[]⟩ : ByteArray), 0, [], [], []⟩
def zw_qTable : W_qTable := ⟨⟨none, 0⟩, ⟨none, 0⟩, ⟨none, 0⟩⟩
theorem zok_qTable {I : Mem} : ok_qTable I z_qTable zw_qTable := ⟨SlAt.nil, SlAt.nil, SlAt.nil⟩
structure qRole where
  Name : ByteArray
  In : List ByteArray
structure W_qRole where
  In : SW
def cs_qRole (x : qRole) (v : W_qRole) : List Value := [.string x.Name, .slice v.In.a x.In.length v.In.c]
structure ok_qRole (I : Mem) (x : qRole) (v : W_qRole) : Prop where
  In : RSl 1 RStr I v.In.a v.In.c x.In
theorem ok_qRole.mono {I J : Mem} {x : qRole} {v : W_qRole} (h : ok_qRole I x v) (hl : I.Le J) : ok_qRole J x v := ⟨RSl.mono h.In hl⟩
def R_qRole (I : Mem) (cs : List Value) (x : qRole) : Prop := ∃ v : W_qRole, cs = cs_qRole x v ∧ ok_qRole I x v
instance : Mono R_qRole := ⟨fun hl h => (by obtain ⟨v, rfl, h⟩ := h; exact ⟨v, rfl, h.mono hl⟩), fun h c hv => (by obtain ⟨v, rfl, h⟩ := h; exact (by simp only [cs_qRole, List.mem_cons, List.not_mem_nil, or_false] at hv; rcases hv with rfl | rfl <;> first | rfl | rfl))⟩
def z_qRole : qRole := ⟨(⟨#[]⟩ : ByteArray), []⟩
def zw_qRole : W_qRole := ⟨⟨none, 0⟩⟩
theorem zok_qRole {I : Mem} : ok_qRole I z_qRole zw_qRole := ⟨SlAt.nil⟩
structure qGrant where
  To : ByteArray
  By : ByteArray
  Table : ByteArray
  Priv : Int
  Option : Bool
def cs_qGrant (x : qGrant) : List Value := [.string x.To, .string x.By, .string x.Table, .int .i64 x.Priv, .bool x.Option]
def R_qGrant (I : Mem) (cs : List Value) (x : qGrant) : Prop := cs = cs_qGrant x
instance : Mono R_qGrant := ⟨fun hl h => (by obtain rfl := h; exact rfl), fun h c hv => (by obtain rfl := h; exact (by simp only [cs_qGrant, List.mem_cons, List.not_mem_nil, or_false] at hv; rcases hv with rfl | rfl | rfl | rfl | rfl <;> first | rfl | rfl))⟩
def z_qGrant : qGrant := ⟨(⟨#[]⟩ : ByteArray), (⟨#[]⟩ : ByteArray), (⟨#[]⟩ : ByteArray), 0, false⟩
structure qCatalog where
  Version : Int
  Tables : List qTable
  Roles : List qRole
  Grants : List qGrant
structure W_qCatalog where
  Tables : SW
  Roles : SW
  Grants : SW
def cs_qCatalog (x : qCatalog) (v : W_qCatalog) : List Value := [.int .i64 x.Version, .slice v.Tables.a x.Tables.length v.Tables.c, .slice v.Roles.a x.Roles.length v.Roles.c, .slice v.Grants.a x.Grants.length v.Grants.c]
structure ok_qCatalog (I : Mem) (x : qCatalog) (v : W_qCatalog) : Prop where
  Tables : RSl 6 R_qTable I v.Tables.a v.Tables.c x.Tables
  Roles : RSl 2 R_qRole I v.Roles.a v.Roles.c x.Roles
  Grants : RSl 5 R_qGrant I v.Grants.a v.Grants.c x.Grants
theorem ok_qCatalog.mono {I J : Mem} {x : qCatalog} {v : W_qCatalog} (h : ok_qCatalog I x v) (hl : I.Le J) : ok_qCatalog J x v := ⟨RSl.mono h.Tables hl, RSl.mono h.Roles hl, RSl.mono h.Grants hl⟩
def R_qCatalog (I : Mem) (cs : List Value) (x : qCatalog) : Prop := ∃ v : W_qCatalog, cs = cs_qCatalog x v ∧ ok_qCatalog I x v
instance : Mono R_qCatalog := ⟨fun hl h => (by obtain ⟨v, rfl, h⟩ := h; exact ⟨v, rfl, h.mono hl⟩), fun h c hv => (by obtain ⟨v, rfl, h⟩ := h; exact (by simp only [cs_qCatalog, List.mem_cons, List.not_mem_nil, or_false] at hv; rcases hv with rfl | rfl | rfl | rfl <;> first | rfl | rfl))⟩
def z_qCatalog : qCatalog := ⟨0, [], [], []⟩
def zw_qCatalog : W_qCatalog := ⟨⟨none, 0⟩, ⟨none, 0⟩, ⟨none, 0⟩⟩
theorem zok_qCatalog {I : Mem} : ok_qCatalog I z_qCatalog zw_qCatalog := ⟨SlAt.nil, SlAt.nil, SlAt.nil⟩
def r10_count_fu : Nat → qExpr → Int → Option (Int × Bool)
  | 0, _, _ => none
  | fu + 1, p0, p1 => (some ((decide (p1 ≤ 0)) || (decide ((p0.Kids.length : Int) > 12)))).bind (fun (q5 : Bool) => (some ((q5 || (decide ((p0.Name.size : Int) > 100))) || (decide ((p0.V.S.size : Int) > 100)))).bind (fun (q10 : Bool) => (bif q10 then some (0, false) else (forN (fun (i18 : Nat) => fun (s17 : Int) => (idx p0.Kids (i18 : Int)).bind (fun x25 => (r10_count_fu fu x25 s17).bind (fun (r31, r32) => (bif (!r32) then some (.inr ((0 : Int), false)) else some (.inl r31))))) p0.Kids.length 0 (w64 (p1 - 1))).bind (fun (t : Int ⊕ ((Int × Bool))) => match t with | .inl s17 => some (s17, true) | .inr (s34, s35) => some (s34, s35)))))
noncomputable def r10_count (p0 : qExpr) (p1 : Int) : Option (Int × Bool) := anyFuel (fun fu => r10_count_fu fu p0 p1)
theorem r10_count_fu_ok : ∀ (fu : Nat) {E w : World} {I : Mem} {Os : List Mem} {p0 : qExpr} {p1 : Int} {w_p0 : W_qExpr} (h_p0 : ok_qExpr I p0 w_p0) (hS : St E w I Os) {r : Int × Bool} (hr : r10_count_fu fu p0 p1 = some r),
    Calls P 82 #[(.agg (cs_qExpr p0 w_p0).toArray), (Iv p1)] w (fun e w' => ∃ I', e = .returned (.tuple #[(Iv r.1), (.bool r.2)]) ∧ I.Le I' ∧ St E w' I' Os) := by
 intro fu
 induction fu with
 | zero => intro E w I Os p0 p1 w_p0 h_p0 hS r hr; cases hr
 | succ fu ih =>
 intro E w I Os p0 p1 w_p0 h_p0 hS r hr
 refine calls_W (fn := Tryz.f82) rfl rfl rfl ?_
 unfold r10_count_fu at hr
 refine yd nL3 (yy hS (cs_qExpr p0 w_p0) 39 rfl fun b1 w4 hS3 => ya 1 2 rfl (yb (yf (yd nL21 (ya 0 3 rfl ?_)))))
 obtain ⟨q5, hx_q5, hr⟩ := bsm hr
 replace hx_q5 := sj hx_q5
 refine yac (l1 := [3, 4, 5, 6, 7]) 15 q5 ?_ ?_
 refine yr (decide (p1 ≤ 0)) (fun hc => ?_) (fun hc => ?_)
 refine yl 10 hc ?_
 iterate 4 refine yt ?_
 exact yh 7 15 (.bool true) (WO.mk 10 hc (by rw [← hx_q5, hc]; rfl))
 exact yl 10 hc (yc 3 1 [6] rfl (yg (hS3.rf m0) rfl (ya 5 2 rfl (yh 7 15 (.bool (decide ((p0.Kids.length : Int) > 12))) (WO.mk 10 hc (by rw [← hx_q5, hc]; rfl))))))
 refine ya 8 1 rfl (yac (l1 := [9, 10, 11, 12, 13]) 21 (q5 || (decide ((p0.Name.size : Int) > 100))) ?_ ?_)
 refine yr q5 (fun hc => ?_) (fun hc => ?_)
 refine yl 16 hc ?_
 iterate 4 refine yt ?_
 exact yh 13 21 (.bool true) (WO.mk 16 hc (by rw [hc]; rfl))
 exact yl 16 hc (yc 9 1 [5] rfl (yg (hS3.rf m0) rfl (ya 11 2 rfl (yh 13 21 (.bool (decide ((p0.Name.size : Int) > 100))) (WO.mk 16 hc (by rw [hc]; rfl))))))
 refine ya 14 1 rfl ?_
 obtain ⟨q10, hx_q10, hr⟩ := bsm hr
 replace hx_q10 := sj hx_q10
 refine yac (l1 := [15, 16, 17, 18, 19, 20]) 28 q10 ?_ ?_
 refine yr (q5 || (decide ((p0.Name.size : Int) > 100))) (fun hc => ?_) (fun hc => ?_)
 refine yl 22 hc ?_
 iterate 5 refine yt ?_
 exact yh 20 28 (.bool true) (WO.mk 22 hc (by rw [← hx_q10, hc]; rfl))
 exact yl 22 hc (yc 15 2 [2, 2] rfl (yg (hS3.rf m0) rfl (ya 18 2 rfl (yh 20 28 (.bool (decide ((p0.V.S.size : Int) > 100))) (WO.mk 22 hc (by rw [← hx_q10, hc]; rfl))))))
 refine yb (W.cb hr (fun hc hr => ?_) (fun hc hr => ?_))
 refine yd nL2 (ya 0 2 rfl (yb (W.ret (ye ?_))))
 obtain rfl := sj hr
 exact yam ⟨I, rfl, lr, hS3.drop⟩
 refine yi (En.next (yd nL3 (ya 0 3 rfl (yb (yf (yd [0] (ya 0 1 rfl (yb (W.block (bsk hr fun t14 hloop19 hr => have hlt23 := (h_p0.Kids).len_lt; W.wk (W.forN (m := p0.Kids.length) hloop19 (fun (i18 : Nat) => fun (s17 : Int) fr w => ∃ I15, fr = [(1, Iv s17), (2, Pt b1 0), (6, Nv i18)] ∧ I.Le I15 ∧ St E w I15 ((Bx b1 (cs_qExpr p0 w_p0) 39) :: Os)) ⟨I, rfl, lr, hS3⟩ ?_ ?_)))))))))))
 rintro i18 s17 _ w20 hi24 ⟨I15, rfl, hl16, hS21⟩ x22 hr1 hext14
 refine yf (yd nL5 (yc 0 2 [6] rfl (yg (hS21.rf m0) rfl (ya 3 2 rfl (yb (yah fun _ => yi (En.next (yf (W.block (yd [0] (ya 0 1 rfl (y0 nL12 (yc 0 1 [6] rfl (yg (hS21.rf m0) rfl (ya 2 1 rfl ?_)))))))))))))))
 obtain ⟨x25, hx_x25, hr1⟩ := bsm hr1
 obtain ⟨h0_x25, h1_x25, hx_x25⟩ := idx_some hx_x25
 obtain ⟨ha_x25, cs_x25, hn_x25, hr_x25, hc_x25⟩ := ((RSl.mono h_p0.Kids hl16)).el _ _ hx_x25
 obtain ⟨w_x25, rfl, h_x25⟩ := Q_qExpr_iff.1 hr_x25
 refine yaq 39 7 ha_x25 h0_x25 h1_x25 ?_
 refine yak ((cs_qExpr x25 w_x25)) hc_x25 0 hS21.rm rfl (ya 5 1 rfl ?_)
 obtain ⟨⟨r31, r32⟩, hx_r26, hr1⟩ := bsm hr1
 refine WO.c1 (ih h_x25 hS21 hx_r26) rfl fun I28 w27 hl29 hS30 => ya 7 5 rfl (y0 nL2 (ya 0 2 rfl (yb (W.cb hr1 (fun hc hr1 => ?_) (fun hc hr1 => ?_)))))
 refine yd nL2 (ya 0 2 rfl (yb (W.ret (yj (ye (yp ?_))))))
 obtain rfl := hext14 _ (sj hr1).symm
 refine yj (ye ?_)
 obtain rfl := sj hr
 exact yam ⟨I28, rfl, le, hS30.drop⟩
 exact yi (yk (En.next (yaa nL3 (ya 0 1 rfl (yae i18 rfl (ya 2 1 rfl (WO.nil (yq ⟨r31, (sj hr1).symm, I28, rfl, le, hS30⟩))))))))
 rintro s17 _ w38 ⟨I15, rfl, hl16, hS39⟩ he
 cases he
 refine yf (yd nL5 (yc 0 2 [6] rfl (yg (hS39.rf m0) rfl (ya 3 2 rfl (yb (yai fun _ => yz (ym (yn (yo (En.next (yd nL3 (ya 0 3 rfl (yb (W.ret ?_))))))))))))))
 obtain rfl := sj hr
 exact yam ⟨I15, rfl, hl16, hS39.drop⟩
theorem r10_count_ok {p0 : qExpr} {p1 : Int} {w_p0 : W_qExpr} (h_p0 : ok_qExpr I p0 w_p0) (hS : St E w I Os) {r : Int × Bool} (hr : r10_count p0 p1 = some r) :
    Calls P 82 #[(.agg (cs_qExpr p0 w_p0).toArray), (Iv p1)] w (fun e w' => ∃ I', e = .returned (.tuple #[(Iv r.1), (.bool r.2)]) ∧ I.Le I' ∧ St E w' I' Os) := by
 obtain ⟨fu, hf⟩ := anyFuel_some hr
 exact r10_count_fu_ok fu h_p0 hS hf
noncomputable def r10_Few (p0 : qExpr) (p1 : Int) : Option Bool := (r10_count p0 p1).bind (fun (r10, r11) => some r11)
theorem r10_Few_ok {p0 : qExpr} {p1 : Int} {w_p0 : W_qExpr} (h_p0 : ok_qExpr I p0 w_p0) (hS : St E w I Os) {r : Bool} (hr : r10_Few p0 p1 = some r) :
    Calls P 49 #[(.agg (cs_qExpr p0 w_p0).toArray), (Iv p1)] w (fun e w' => ∃ I', e = .returned (.bool r) ∧ I.Le I' ∧ St E w' I' Os) := by
 refine calls_W (fn := Tryz.f49) rfl rfl rfl ?_
 unfold r10_Few at hr
 refine yd nL2 (yy hS (cs_qExpr p0 w_p0) 39 rfl fun b1 w4 hS3 => ya 1 1 rfl (y0 nL8 (yv ((cs_qExpr p0 w_p0)) (hS3.rf m0) rfl (ya 1 1 rfl ?_))))
 obtain ⟨⟨r10, r11⟩, hx_r5, hr⟩ := bsm hr
 refine WO.c1 (r10_count_ok h_p0 hS3 hx_r5) rfl fun I7 w6 hl8 hS9 => ya 3 5 rfl (y0 nL2 (ya 0 2 rfl (yb (W.ret ?_))))
 obtain rfl := sj hr
 exact yu ⟨I7, rfl, hl8, hS9.drop⟩
noncomputable def r12_Few_fu : Nat → qStmt → Option Bool
  | 0, _ => none
  | fu + 1, p0 => (some ((decide ((p0.Cols.length : Int) > 12)) || (decide ((p0.Cons.length : Int) > 12)))).bind (fun (q5 : Bool) => (some ((q5 || (decide ((p0.Names.length : Int) > 12))) || (decide ((p0.Rows.length : Int) > 12)))).bind (fun (q10 : Bool) => (some ((q10 || (decide ((p0.Sets.length : Int) > 12))) || (decide ((p0.Order.length : Int) > 12)))).bind (fun (q15 : Bool) => ((bif (q15 || (decide ((p0.Kids.length : Int) > 1))) then some true else (r10_Few p0.Where 60).bind (fun r29 => some (!r29)))).bind (fun (j20 : Bool) => (bif j20 then some false else (app 16 ([p0.Table, p0.Name, p0.Role] : List ByteArray) p0.Names).bind (fun x40 => (forE (fun (i51 : Nat) => fun (s50 : List ByteArray) => (idx p0.Cols (i51 : Int)).bind (fun x59 => (app 16 s50 ([x59.Name] : List ByteArray)).bind (fun x68 => some x68))) p0.Cols.length 0 x40).bind (fun s50 => (forN (fun (i84 : Nat) => fun (s83 : List ByteArray) => (idx p0.Cons (i84 : Int)).bind (fun x91 => (some ((decide ((x91.Cols.length : Int) > 12)) || (decide ((x91.Refs.length : Int) > 12)))).bind (fun (q98 : Bool) => ((bif q98 then some true else (r10_Few x91.Check 60).bind (fun r112 => some (!r112)))).bind (fun (j101 : Bool) => (bif j101 then some (.inr false) else (app 16 s83 ([x91.Name, x91.Table] : List ByteArray)).bind (fun x132 => (app 16 x132 x91.Cols).bind (fun x141 => (app 16 x141 x91.Refs).bind (fun x148 => some (.inl x148))))))))) p0.Cons.length 0 s50).bind (fun (t : (List ByteArray) ⊕ (Bool)) => match t with | .inl s83 => (forN (fun (i163 : Nat) => fun (_s : Unit) => (idx p0.Rows (i163 : Int)).bind (fun x170 => (bif (decide ((x170.length : Int) > 12)) then some (.inr false) else (loopO (fun (s180 : Int) => (idx p0.Rows (i163 : Int)).bind (fun x185 => (bif (decide (s180 < (x185.length : Int))) then (idx p0.Rows (i163 : Int)).bind (fun x186 => (idx x186 s180).bind (fun x187 => (r10_Few x187 60).bind (fun r193 => (bif (!r193) then some (.inr (.inl false)) else some (.inl (w64 (s180 + 1))))))) else some (.inr (.inr ()))))) 0).bind (fun (t : Bool ⊕ Unit) => match t with | (.inl s195) => some (.inr s195) | (.inr ()) => some (.inl ()))))) p0.Rows.length 0 ()).bind (fun (t : Unit ⊕ (Bool)) => match t with | .inl _ => (forN (fun (i207 : Nat) => fun (s206 : List ByteArray) => (idx p0.Sets (i207 : Int)).bind (fun x214 => (app 16 s206 ([x214.Name] : List ByteArray)).bind (fun x223 => (idx p0.Sets (i207 : Int)).bind (fun x232 => (r10_Few x232.E 60).bind (fun r238 => (bif (!r238) then some (.inr false) else some (.inl x223))))))) p0.Sets.length 0 s83).bind (fun (t : (List ByteArray) ⊕ (Bool)) => match t with | .inl s206 => (forN (fun (i251 : Nat) => fun (_s : Unit) => (idx p0.Order (i251 : Int)).bind (fun x258 => (r10_Few x258.E 60).bind (fun r264 => (bif (!r264) then some (.inr false) else some (.inl ()))))) p0.Order.length 0 ()).bind (fun (t : Unit ⊕ (Bool)) => match t with | .inl _ => (forN (fun (i276 : Nat) => fun (_s : Unit) => (idx s206 (i276 : Int)).bind (fun x283 => (bif (decide ((x283.size : Int) > 100)) then some (.inr false) else some (.inl ())))) s206.length 0 ()).bind (fun (t : Unit ⊕ (Bool)) => match t with | .inl _ => ((bif ((p0.Kids.length : Int) == 0) then some true else (idx p0.Kids 0).bind (fun x298 => ((bif ((x298.Kids.length : Int) == 0) then (idx p0.Kids 0).bind (fun x303 => (r12_Few_fu fu x303).bind (fun r309 => some r309)) else some false)).bind (fun (j299 : Bool) => some j299)))).bind (fun (j292 : Bool) => some j292) | .inr s285 => some s285) | .inr s266 => some s266) | .inr s240 => some s240) | .inr s172 => some s172) | .inr s118 => some s118))))))))
noncomputable def r12_Few (p0 : qStmt) : Option Bool := anyFuel (fun fu => r12_Few_fu fu p0)
theorem r12_Few_fu_ok : ∀ (fu : Nat) {E w : World} {I : Mem} {Os : List Mem} {p0 : qStmt} {w_p0 : W_qStmt} (h_p0 : ok_qStmt I p0 w_p0) (hS : St E w I Os) {r : Bool} (hr : r12_Few_fu fu p0 = some r),
    Calls P 28 #[(.agg (cs_qStmt p0 w_p0).toArray)] w (fun e w' => ∃ I', e = .returned (.bool r) ∧ I.Le I' ∧ St E w' I' Os) := by
 intro fu
 induction fu with
 | zero => intro E w I Os p0 w_p0 h_p0 hS r hr; cases hr
 | succ fu ih =>
 intro E w I Os p0 w_p0 h_p0 hS r hr
 refine calls_W (fn := Tryz.f28) rfl rfl rfl ?_
 unfold r12_Few_fu at hr
 refine yd nL2 (yy hS (cs_qStmt p0 w_p0) 44 rfl fun b1 w4 hS3 => ya 1 1 rfl (yb (yf (yd nL46 (yc 0 1 [4] rfl (yg (hS3.rf m0) rfl (ya 2 3 rfl ?_)))))))
 obtain ⟨q5, hx_q5, hr⟩ := bsm hr
 replace hx_q5 := sj hx_q5
 refine yac (l1 := [5, 6, 7, 8, 9]) 21 q5 ?_ ?_
 refine yr (decide ((p0.Cols.length : Int) > 12)) (fun hc => ?_) (fun hc => ?_)
 refine yl 16 hc ?_
 iterate 4 refine yt ?_
 exact yh 9 21 (.bool true) (WO.mk 16 hc (by rw [← hx_q5, hc]; rfl))
 exact yl 16 hc (yc 5 1 [5] rfl (yg (hS3.rf m0) rfl (ya 7 2 rfl (yh 9 21 (.bool (decide ((p0.Cons.length : Int) > 12))) (WO.mk 16 hc (by rw [← hx_q5, hc]; rfl))))))
 refine ya 10 1 rfl (yac (l1 := [11, 12, 13, 14, 15]) 27 (q5 || (decide ((p0.Names.length : Int) > 12))) ?_ ?_)
 refine yr q5 (fun hc => ?_) (fun hc => ?_)
 refine yl 22 hc ?_
 iterate 4 refine yt ?_
 exact yh 15 27 (.bool true) (WO.mk 22 hc (by rw [hc]; rfl))
 exact yl 22 hc (yc 11 1 [6] rfl (yg (hS3.rf m0) rfl (ya 13 2 rfl (yh 15 27 (.bool (decide ((p0.Names.length : Int) > 12))) (WO.mk 22 hc (by rw [hc]; rfl))))))
 refine ya 16 1 rfl ?_
 obtain ⟨q10, hx_q10, hr⟩ := bsm hr
 replace hx_q10 := sj hx_q10
 refine yac (l1 := [17, 18, 19, 20, 21]) 33 q10 ?_ ?_
 refine yr (q5 || (decide ((p0.Names.length : Int) > 12))) (fun hc => ?_) (fun hc => ?_)
 refine yl 28 hc ?_
 iterate 4 refine yt ?_
 exact yh 21 33 (.bool true) (WO.mk 28 hc (by rw [← hx_q10, hc]; rfl))
 exact yl 28 hc (yc 17 1 [7] rfl (yg (hS3.rf m0) rfl (ya 19 2 rfl (yh 21 33 (.bool (decide ((p0.Rows.length : Int) > 12))) (WO.mk 28 hc (by rw [← hx_q10, hc]; rfl))))))
 refine ya 22 1 rfl (yac (l1 := [23, 24, 25, 26, 27]) 39 (q10 || (decide ((p0.Sets.length : Int) > 12))) ?_ ?_)
 refine yr q10 (fun hc => ?_) (fun hc => ?_)
 refine yl 34 hc ?_
 iterate 4 refine yt ?_
 exact yh 27 39 (.bool true) (WO.mk 34 hc (by rw [hc]; rfl))
 exact yl 34 hc (yc 23 1 [15] rfl (yg (hS3.rf m0) rfl (ya 25 2 rfl (yh 27 39 (.bool (decide ((p0.Sets.length : Int) > 12))) (WO.mk 34 hc (by rw [hc]; rfl))))))
 refine ya 28 1 rfl ?_
 obtain ⟨q15, hx_q15, hr⟩ := bsm hr
 replace hx_q15 := sj hx_q15
 refine yac (l1 := [29, 30, 31, 32, 33]) 45 q15 ?_ ?_
 refine yr (q10 || (decide ((p0.Sets.length : Int) > 12))) (fun hc => ?_) (fun hc => ?_)
 refine yl 40 hc ?_
 iterate 4 refine yt ?_
 exact yh 33 45 (.bool true) (WO.mk 40 hc (by rw [← hx_q15, hc]; rfl))
 exact yl 40 hc (yc 29 1 [16] rfl (yg (hS3.rf m0) rfl (ya 31 2 rfl (yh 33 45 (.bool (decide ((p0.Order.length : Int) > 12))) (WO.mk 40 hc (by rw [← hx_q15, hc]; rfl))))))
 refine ya 34 1 rfl (yac (l1 := [35, 36, 37, 38, 39]) 51 (q15 || (decide ((p0.Kids.length : Int) > 1))) ?_ ?_)
 refine yr q15 (fun hc => ?_) (fun hc => ?_)
 refine yl 46 hc ?_
 iterate 4 refine yt ?_
 exact yh 39 51 (.bool true) (WO.mk 46 hc (by rw [hc]; rfl))
 exact yl 46 hc (yc 35 1 [20] rfl (yg (hS3.rf m0) rfl (ya 37 2 rfl (yh 39 51 (.bool (decide ((p0.Kids.length : Int) > 1))) (WO.mk 46 hc (by rw [hc]; rfl))))))
 refine ya 40 1 rfl (bsk hr fun j20 hr1 hr => WO.jw (l1 := [41, 42, 43, 44, 45]) (J := (fun fr w => ∃ I22, fr = [(1, Pt b1 0), (57, .bool j20)] ∧ I.Le I22 ∧ St E w I22 ((Bx b1 (cs_qStmt p0 w_p0) 44) :: Os))) ?_ ?_)
 refine WO.cb hr1 (fun hc hr1 => ?_) (fun hc hr1 => ?_)
 refine yl 52 hc ?_
 iterate 4 refine yt ?_
 refine yh 45 57 (.bool true) ?_
 obtain rfl := sj hr1
 exact yw ⟨I, rfl, lr, hS3⟩
 refine yl 52 hc (yc 41 1 [8] rfl (yv ((cs_qExpr p0.Where w_p0.Where)) (hS3.rf m0) rfl (bsk hr1 fun r29 hx_r24 hr1 => WO.c1 (r10_Few_ok h_p0.Where hS3 hx_r24) rfl fun I26 w25 hl27 hS28 => ya 44 1 rfl (yh 45 57 (.bool (!r29)) ?_))))
 obtain rfl := sj hr1
 exact yw ⟨I26, rfl, hl27, hS28⟩
 rintro _ w30 ⟨I22, rfl, hl23, hS31⟩
 refine yb (W.cb hr (fun hc hr => ?_) (fun hc hr => ?_))
 refine yd [0] (ya 0 1 rfl (yb (W.ret (ye ?_))))
 obtain rfl := sj hr
 exact yu ⟨I22, rfl, hl23, hS31.drop⟩
 refine yi (En.next (yd nL8 (yc 0 1 [1] rfl (yg (hS31.rf m0) rfl (yc 2 1 [2] rfl (yg (hS31.rf m0) rfl (yc 4 1 [3] rfl (yg (hS31.rf m0) rfl (y4 (rel := RStr) (xs := ([p0.Table, p0.Name, p0.Role] : List ByteArray)) hS31 rfl (by kernel_rfl) rfl 9 1 [[(.string p0.Table)], [(.string p0.Name)], [(.string p0.Role)]] (by kernel_rfl) rfl ((Elr.cons rfl (Elr.cons rfl (Elr.cons rfl Elr.nil)))) (fun _ _ _ => trivial) ?_)))))))))
 intro a36 C34 w38 hS37 ho35
 refine ya 7 1 rfl (y0 nL5 (yc 0 2 [6] rfl (yg (hS37.rf m1) rfl ?_)))
 obtain ⟨x40, hx_x40, hr⟩ := bsm hr
 obtain ⟨h0_x40, he_x40⟩ := app_some hx_x40
 refine yaj 9 16 [(.string (⟨#[]⟩ : ByteArray))] hS37 ho35 (RSl.mono h_p0.Names hl23) hS37.im h0_x40 he_x40 rfl fun a41 c42 w43 C44 hS45 ho46 => ya 4 1 rfl (yb (yf (yd [0] (ya 0 1 rfl (yb (W.block (bsk hr fun s50 hloop52 hr => have hlt57 := ((RSl.mono h_p0.Cols hl23)).len_lt; W.wk (W.forE (m := p0.Cols.length) hloop52 (fun (i51 : Nat) => fun (s50 : List ByteArray) fr w => ∃ I48 a_s50 c_s50 C_s50, fr = [(1, Pt b1 0), (3, Sl a_s50 s50 c_s50), (4, Nv i51)] ∧ I22.Le I48 ∧ St E w I48 ((Bx b1 (cs_qStmt p0 w_p0) 44) :: (C_s50) :: Os) ∧ OwnSl 9 1 RStr I48 C_s50 a_s50 c_s50 s50) ⟨I22, a41, c42, C44, rfl, lr, hS45.front1, ho46⟩ ?_ ?_))))))))
 rintro i51 s50 _ w54 hi58 ⟨I48, a_s50, c_s50, C_s50, rfl, hl49, hS55, h_s50⟩ x56 hr1
 refine yf (yd nL5 (yc 0 2 [4] rfl (yg (hS55.rf m0) rfl (ya 3 2 rfl (yb (yah fun _ => yi (En.next (yf (W.block (yaa nL10 (yc 0 2 [4] rfl (yg (hS55.rf m0) rfl (ya 3 1 rfl ?_)))))))))))))
 obtain ⟨x59, hr1, hb_x59, _, rfl, hc_x59⟩ := sl_ix ((RSl.mono h_p0.Cols (hl23.trans hl49))) hr1
 refine y3 73 3 hb_x59 rfl (yc 5 1 [0] rfl (yaf hc_x59 hS55.rm rfl (y4 (rel := RStr) (xs := ([x59.Name] : List ByteArray)) hS55 rfl (by kernel_rfl) rfl 9 1 [[(.string x59.Name)]] (by kernel_rfl) rfl ((Elr.cons rfl Elr.nil)) (fun _ _ _ => trivial) ?_)))
 intro a63 C61 w65 hS64 ho62
 have hS67 := hS64.front2
 obtain ⟨x68, hx_x68, hr1⟩ := bsm hr1
 obtain ⟨h0_x68, he_x68⟩ := app_some hx_x68
 refine yaj 9 16 [(.string (⟨#[]⟩ : ByteArray))] hS67 h_s50 ho62.sl (hS67.rd m1) h0_x68 he_x68 rfl fun a69 c70 w71 C72 hS73 ho74 => ya 9 1 rfl (WO.nil (yk (En.next (yaa nL3 (ya 0 1 rfl (yae i51 rfl (ya 2 1 rfl (WO.nil ?_))))))))
 obtain rfl := sj hr1
 exact yq ⟨I48, a69, c70, C72, rfl, hl49, hS73.front1.drop.front1, ho74⟩
 rintro _ w78 ⟨I48, a_s50, c_s50, C_s50, rfl, hl49, hS79, h_s50⟩
 refine yf (yd nL5 (yc 0 2 [4] rfl (yg (hS79.rf m0) rfl (ya 3 2 rfl (yb (yai fun _ => yz (ym (yn (yo (En.next (yf (yd [0] (ya 0 1 rfl (yb (W.block (bsk hr fun t80 hloop85 hr => have hlt89 := ((RSl.mono h_p0.Cons (hl23.trans hl49))).len_lt; W.wk (W.forN (m := p0.Cons.length) hloop85 (fun (i84 : Nat) => fun (s83 : List ByteArray) fr w => ∃ I81 a_s83 c_s83 C_s83, fr = [(1, Pt b1 0), (3, Sl a_s83 s83 c_s83), (5, Nv i84)] ∧ I48.Le I81 ∧ St E w I81 ((Bx b1 (cs_qStmt p0 w_p0) 44) :: (C_s83) :: Os) ∧ OwnSl 9 1 RStr I81 C_s83 a_s83 c_s83 s83) ⟨I48, a_s50, c_s50, C_s50, rfl, lr, hS79, h_s50⟩ ?_ ?_)))))))))))))))))
 rintro i84 s83 _ w86 hi90 ⟨I81, a_s83, c_s83, C_s83, rfl, hl82, hS87, h_s83⟩ x88 hr1 hext80
 refine yf (yd nL5 (yc 0 2 [5] rfl (yg (hS87.rf m0) rfl (ya 3 2 rfl (yb (yah fun _ => yi (En.next (yf (W.block (yd nL7 (yc 0 1 [5] rfl (yg (hS87.rf m0) rfl (ya 2 1 rfl ?_)))))))))))))
 obtain ⟨x91, hr1, hb_x91, _, ⟨w_x91, rfl, h_x91⟩, hc_x91⟩ := sl_ix ((RSl.mono h_p0.Cons ((hl23.trans hl49).trans hl82))) hr1
 refine y3 100 12 hb_x91 rfl (yak ((cs_qCons x91 w_x91)) hc_x91 0 hS87.rm rfl (yy hS87 (cs_qCons z_qCons zw_qCons) 100 rfl fun b92 w95 hS94 => yx hS94 0 (cs_qCons x91 w_x91) fun w97 hS96 => yb (yf (yd nL16 (yc 0 1 [2] rfl (yg (hS96.rf m0) rfl (ya 2 3 rfl ?_)))))))
 obtain ⟨q98, hx_q98, hr1⟩ := bsm hr1
 replace hx_q98 := sj hx_q98
 refine yac (l1 := [5, 6, 7, 8, 9]) 106 q98 ?_ ?_
 refine yr (decide ((x91.Cols.length : Int) > 12)) (fun hc => ?_) (fun hc => ?_)
 refine yl 101 hc ?_
 iterate 4 refine yt ?_
 exact yh 9 106 (.bool true) (WO.mk 101 hc (by rw [← hx_q98, hc]; rfl))
 exact yl 101 hc (yc 5 1 [11] rfl (yg (hS96.rf m0) rfl (ya 7 2 rfl (yh 9 106 (.bool (decide ((x91.Refs.length : Int) > 12))) (WO.mk 101 hc (by rw [← hx_q98, hc]; rfl))))))
 refine ya 10 1 rfl (bsk hr1 fun j101 hr2 hr1 => WO.jw (l1 := [11, 12, 13, 14, 15]) (J := (fun fr w => ∃ I103, fr = [(1, Pt b1 0), (3, Sl a_s83 s83 c_s83), (5, Nv i84), (6, Pt b92 0), (112, .bool j101)] ∧ I81.Le I103 ∧ St E w I103 ((Bx b1 (cs_qStmt p0 w_p0) 44) :: (C_s83) :: (Bx b92 (cs_qCons x91 w_x91) 100) :: Os))) ?_ ?_)
 refine WO.cb hr2 (fun hc hr2 => ?_) (fun hc hr2 => ?_)
 refine yl 107 hc ?_
 iterate 4 refine yt ?_
 refine yh 15 112 (.bool true) ?_
 obtain rfl := sj hr2
 exact yw ⟨I81, rfl, lr, hS96.front2.front2⟩
 refine yl 107 hc (yc 11 1 [3] rfl (yv ((cs_qExpr x91.Check w_x91.Check)) (hS96.rf m0) rfl (bsk hr2 fun r112 hx_r107 hr2 => WO.c1 (r10_Few_ok h_x91.Check hS96 hx_r107) rfl fun I109 w108 hl110 hS111 => ya 14 1 rfl (yh 15 112 (.bool (!r112)) ?_))))
 obtain rfl := sj hr2
 exact yw ⟨I109, rfl, hl110, hS111.front2.front2⟩
 rintro _ w115 ⟨I103, rfl, hl104, hS116⟩
 refine yb (W.cb hr1 (fun hc hr1 => ?_) (fun hc hr1 => ?_))
 refine yd [0] (ya 0 1 rfl (yb (W.ret (ye (yj (ye (yp ?_)))))))
 obtain rfl := hext80 _ (sj hr1).symm
 refine yj (ye ?_)
 obtain rfl := sj hr
 exact yu ⟨I103, rfl, le, hS116.drop.drop.drop⟩
 refine yi (En.next (yd nL8 (yc 0 2 [0] rfl (yg (hS116.rf m2) rfl (yc 3 1 [10] rfl (yg (hS116.rf m2) rfl (y4 (rel := RStr) (xs := ([x91.Name, x91.Table] : List ByteArray)) hS116 rfl (by kernel_rfl) rfl 9 1 [[(.string x91.Name)], [(.string x91.Table)]] (by kernel_rfl) rfl ((Elr.cons rfl (Elr.cons rfl Elr.nil))) (fun _ _ _ => trivial) ?_)))))))
 intro a127 C125 w129 hS128 ho126
 have hS131 := hS128.front2
 obtain ⟨x132, hx_x132, hr1⟩ := bsm hr1
 obtain ⟨h0_x132, he_x132⟩ := app_some hx_x132
 refine yaj 9 16 [(.string (⟨#[]⟩ : ByteArray))] hS131 (OwnSl.mono h_s83 hl104) ho126.sl (hS131.rd m1) h0_x132 he_x132 rfl fun a133 c134 w135 C136 hS137 ho138 => have hS140 := hS137.front1.drop; ya 7 1 rfl (y0 nL5 (yc 0 2 [2] rfl (yg (hS140.rf m2) rfl ?_)))
 obtain ⟨x141, hx_x141, hr1⟩ := bsm hr1
 obtain ⟨h0_x141, he_x141⟩ := app_some hx_x141
 refine yaj 9 16 [(.string (⟨#[]⟩ : ByteArray))] hS140 ho138 (RSl.mono h_x91.Cols hl104) hS140.im h0_x141 he_x141 rfl fun a142 c143 w144 C145 hS146 ho147 => ya 4 1 rfl (yb (yaa nL5 (yc 0 2 [11] rfl (yg (hS146.rf m2) rfl ?_))))
 obtain ⟨x148, hx_x148, hr1⟩ := bsm hr1
 obtain ⟨h0_x148, he_x148⟩ := app_some hx_x148
 exact yaj 9 16 [(.string (⟨#[]⟩ : ByteArray))] hS146 ho147 (RSl.mono h_x91.Refs hl104) hS146.im h0_x148 he_x148 rfl fun a149 c150 w151 C152 hS153 ho154 => ya 4 1 rfl (WO.nil (yk (En.next (yaa nL3 (ya 0 1 rfl (yae i84 rfl (ya 2 1 rfl (WO.nil (yq ⟨x148, (sj hr1).symm, I103, a149, c150, C152, rfl, le, hS153.front2.drop.front1, ho154⟩)))))))))
 rintro s83 _ w158 ⟨I81, a_s83, c_s83, C_s83, rfl, hl82, hS159, h_s83⟩ he
 cases he
 refine yf (yd nL5 (yc 0 2 [5] rfl (yg (hS159.rf m0) rfl (ya 3 2 rfl (yb (yai fun _ => yz (ym (yn (yo (En.next (yf (yd [0] (ya 0 1 rfl (yb (W.block (bsk hr fun t160 hloop164 hr => have hlt168 := ((RSl.mono h_p0.Rows ((hl23.trans hl49).trans hl82))).len_lt; W.wk (W.forN (m := p0.Rows.length) hloop164 (fun (i163 : Nat) => fun (_s : Unit) fr w => ∃ I161, fr = [(1, Pt b1 0), (3, Sl a_s83 s83 c_s83), (7, Nv i163)] ∧ I81.Le I161 ∧ St E w I161 ((Bx b1 (cs_qStmt p0 w_p0) 44) :: (C_s83) :: Os)) ⟨I81, rfl, lr, hS159⟩ ?_ ?_)))))))))))))))))
 rintro i163 _ _ w165 hi169 ⟨I161, rfl, hl162, hS166⟩ x167 hr1 hext160
 refine yf (yd nL5 (yc 0 2 [7] rfl (yg (hS166.rf m0) rfl (ya 3 2 rfl (yb (yah fun _ => yi (En.next (yf (W.block (yf (yd nL7 (yc 0 1 [7] rfl (yg (hS166.rf m0) rfl (ya 2 1 rfl ?_))))))))))))))
 obtain ⟨x170, hx_x170, hr1⟩ := bsm hr1
 obtain ⟨h0_x170, h1_x170, hx_x170⟩ := idx_some hx_x170
 obtain ⟨ha_x170, cs_x170, hn_x170, hr_x170, hc_x170⟩ := ((RSl.mono h_p0.Rows (((hl23.trans hl49).trans hl82).trans hl162))).el _ _ hx_x170
 obtain ⟨a_x170, c_x170, rfl, h_x170⟩ := hr_x170
 refine yaq 37 1 ha_x170 h0_x170 h1_x170 ?_
 refine yaf hc_x170 hS166.rm rfl (ya 5 2 rfl (yb (W.cb hr1 (fun hc hr1 => ?_) (fun hc hr1 => ?_))))
 refine yd [0] (ya 0 1 rfl (yb (W.ret (ye (yj (ye (yp ?_)))))))
 obtain rfl := hext160 _ (sj hr1).symm
 refine yj (ye ?_)
 obtain rfl := sj hr
 exact yu ⟨I161, rfl, le, hS166.drop.drop⟩
 refine yi (En.next (yd [0] (ya 0 1 rfl (yb (W.block (bsk hr1 fun t177 hloop181 hr1 => W.wk (yau hloop181 (fun (s180 : Int) fr w => ∃ I178, fr = [(1, Pt b1 0), (3, Sl a_s83 s83 c_s83), (7, Nv i163), (8, Iv s180)] ∧ I161.Le I178 ∧ St E w I178 ((Bx b1 (cs_qStmt p0 w_p0) 44) :: (C_s83) :: Os)) ⟨I161, rfl, lr, hS166⟩ ?_)))))))
 rintro s180 _ w182 ⟨I178, rfl, hl179, hS183⟩ x184 hr2 hext177
 refine yf (yd nL8 (yc 0 2 [7] rfl (yg (hS183.rf m0) rfl (ya 3 1 rfl ?_))))
 obtain ⟨x185, hx_x185, hr2⟩ := bsm hr2
 obtain ⟨h0_x185, h1_x185, hx_x185⟩ := idx_some hx_x185
 obtain ⟨ha_x185, cs_x185, hn_x185, hr_x185, hc_x185⟩ := ((RSl.mono h_p0.Rows ((((hl23.trans hl49).trans hl82).trans hl162).trans hl179))).el _ _ hx_x185
 obtain ⟨a_x185, c_x185, rfl, h_x185⟩ := hr_x185
 refine yaq 37 1 ha_x185 h0_x185 h1_x185 ?_
 refine yaf hc_x185 hS183.rm rfl (ya 6 2 rfl (yb (W.cb hr2 (fun hc hr2 => ?_) (fun hc hr2 => ?_))))
 refine yi (En.next (yf (W.block (yd nL10 (yc 0 1 [7] rfl (yg (hS183.rf m0) rfl (ya 2 1 rfl ?_)))))))
 obtain ⟨x186, hx_x186, hr2⟩ := bsm hr2
 obtain ⟨h0_x186, h1_x186, hx_x186⟩ := idx_some hx_x186
 obtain ⟨ha_x186, cs_x186, hn_x186, hr_x186, hc_x186⟩ := ((RSl.mono h_p0.Rows ((((hl23.trans hl49).trans hl82).trans hl162).trans hl179))).el _ _ hx_x186
 obtain ⟨a_x186, c_x186, rfl, h_x186⟩ := hr_x186
 refine yaq 37 1 ha_x186 h0_x186 h1_x186 ?_
 refine yaf hc_x186 hS183.rm rfl (ya 5 1 rfl ?_)
 obtain ⟨x187, hx_x187, hr2⟩ := bsm hr2
 obtain ⟨h0_x187, h1_x187, hx_x187⟩ := idx_some hx_x187
 obtain ⟨ha_x187, cs_x187, hn_x187, hr_x187, hc_x187⟩ := (h_x186).el _ _ hx_x187
 obtain ⟨w_x187, rfl, h_x187⟩ := Q_qExpr_iff.1 hr_x187
 refine yaq 39 7 ha_x187 h0_x187 h1_x187 ?_
 refine yak ((cs_qExpr x187 w_x187)) hc_x187 0 hS183.rm rfl (bsk hr2 fun r193 hx_r188 hr2 => WO.c1 (r10_Few_ok h_x187 hS183 hx_r188) rfl fun I190 w189 hl191 hS192 => ya 9 1 rfl (yb (W.cb hr2 (fun hc hr2 => ?_) (fun hc hr2 => ?_))))
 refine yd [0] (ya 0 1 rfl (yb (W.ret (yj (ye (yp ?_))))))
 obtain rfl := hext177 _ (sj hr2).symm
 refine yj (yj (ye (yp ?_)))
 obtain rfl := hext160 _ (sj hr1).symm
 refine yj (ye ?_)
 obtain rfl := sj hr
 exact yu ⟨I190, rfl, le, hS192.drop.drop⟩
 exact yi (yk (En.next (yaa nL3 (ya 0 3 rfl (WO.nil (yq ⟨(w64 (s180 + 1)), (sj hr2).symm, I190, rfl, le, hS192⟩))))))
 refine yz (ym (yn ?_))
 obtain rfl := hext177 _ (sj hr2).symm
 exact yo (yk (En.next (yaa nL3 (ya 0 1 rfl (yae i163 rfl (ya 2 1 rfl (WO.nil (yq ⟨(), (sj hr1).symm, I178, rfl, le, hS183⟩))))))))
 rintro _ _ w201 ⟨I161, rfl, hl162, hS202⟩ he
 cases he
 refine yf (yd nL5 (yc 0 2 [7] rfl (yg (hS202.rf m0) rfl (ya 3 2 rfl (yb (yai fun _ => yz (ym (yn (yo (En.next (yf (yd [0] (ya 0 1 rfl (yb (W.block (bsk hr fun t203 hloop208 hr => have hlt212 := ((RSl.mono h_p0.Sets (((hl23.trans hl49).trans hl82).trans hl162))).len_lt; W.wk (W.forN (m := p0.Sets.length) hloop208 (fun (i207 : Nat) => fun (s206 : List ByteArray) fr w => ∃ I204 a_s206 c_s206 C_s206, fr = [(1, Pt b1 0), (3, Sl a_s206 s206 c_s206), (9, Nv i207)] ∧ I161.Le I204 ∧ St E w I204 ((Bx b1 (cs_qStmt p0 w_p0) 44) :: (C_s206) :: Os) ∧ OwnSl 9 1 RStr I204 C_s206 a_s206 c_s206 s206) ⟨I161, a_s83, c_s83, C_s83, rfl, lr, hS202, (OwnSl.mono h_s83 hl162)⟩ ?_ ?_)))))))))))))))))
 rintro i207 s206 _ w209 hi213 ⟨I204, a_s206, c_s206, C_s206, rfl, hl205, hS210, h_s206⟩ x211 hr1 hext203
 refine yf (yd nL5 (yc 0 2 [15] rfl (yg (hS210.rf m0) rfl (ya 3 2 rfl (yb (yah fun _ => yi (En.next (yf (W.block (yd nL10 (yc 0 2 [15] rfl (yg (hS210.rf m0) rfl (ya 3 1 rfl ?_)))))))))))))
 obtain ⟨x214, hr1, hb_x214, _, ⟨w_x214, rfl, h_x214⟩, hc_x214⟩ := sl_ix ((RSl.mono h_p0.Sets ((((hl23.trans hl49).trans hl82).trans hl162).trans hl205))) hr1
 refine y3 102 8 hb_x214 rfl (yc 5 1 [0] rfl (yaf hc_x214 hS210.rm rfl (y4 (rel := RStr) (xs := ([x214.Name] : List ByteArray)) hS210 rfl (by kernel_rfl) rfl 9 1 [[(.string x214.Name)]] (by kernel_rfl) rfl ((Elr.cons rfl Elr.nil)) (fun _ _ _ => trivial) ?_)))
 intro a218 C216 w220 hS219 ho217
 have hS222 := hS219.front2
 obtain ⟨x223, hx_x223, hr1⟩ := bsm hr1
 obtain ⟨h0_x223, he_x223⟩ := app_some hx_x223
 refine yaj 9 16 [(.string (⟨#[]⟩ : ByteArray))] hS222 h_s206 ho217.sl (hS222.rd m1) h0_x223 he_x223 rfl fun a224 c225 w226 C227 hS228 ho229 => have hS231 := hS228.front1.drop; ya 9 1 rfl (y0 nL8 (yc 0 1 [15] rfl (yg (hS231.rf m1) rfl (ya 2 1 rfl ?_))))
 obtain ⟨x232, hr1, hb_x232, _, ⟨w_x232, rfl, h_x232⟩, hc_x232⟩ := sl_ix ((RSl.mono h_p0.Sets ((((hl23.trans hl49).trans hl82).trans hl162).trans hl205))) hr1
 refine y3 102 8 hb_x232 rfl (yc 4 1 [1] rfl (yak ((cs_qExpr x232.E w_x232.E)) hc_x232 1 hS231.rm rfl (bsk hr1 fun r238 hx_r233 hr1 => WO.c1 (r10_Few_ok h_x232.E hS231 hx_r233) rfl fun I235 w234 hl236 hS237 => ya 7 1 rfl (yb (W.cb hr1 (fun hc hr1 => ?_) (fun hc hr1 => ?_))))))
 refine yd [0] (ya 0 1 rfl (yb (W.ret (yj (ye (yp ?_))))))
 obtain rfl := hext203 _ (sj hr1).symm
 refine yj (ye ?_)
 obtain rfl := sj hr
 exact yu ⟨I235, rfl, le, hS237.drop.drop⟩
 exact yi (yk (En.next (yaa nL3 (ya 0 1 rfl (yae i207 rfl (ya 2 1 rfl (WO.nil (yq ⟨x223, (sj hr1).symm, I235, a224, c225, C227, rfl, le, hS237.front1, (OwnSl.mono ho229 hl236)⟩))))))))
 rintro s206 _ w246 ⟨I204, a_s206, c_s206, C_s206, rfl, hl205, hS247, h_s206⟩ he
 cases he
 refine yf (yd nL5 (yc 0 2 [15] rfl (yg (hS247.rf m0) rfl (ya 3 2 rfl (yb (yai fun _ => yz (ym (yn (yo (En.next (yf (yd [0] (ya 0 1 rfl (yb (W.block (bsk hr fun t248 hloop252 hr => have hlt256 := ((RSl.mono h_p0.Order ((((hl23.trans hl49).trans hl82).trans hl162).trans hl205))).len_lt; W.wk (W.forN (m := p0.Order.length) hloop252 (fun (i251 : Nat) => fun (_s : Unit) fr w => ∃ I249, fr = [(1, Pt b1 0), (3, Sl a_s206 s206 c_s206), (10, Nv i251)] ∧ I204.Le I249 ∧ St E w I249 ((Bx b1 (cs_qStmt p0 w_p0) 44) :: (C_s206) :: Os)) ⟨I204, rfl, lr, hS247⟩ ?_ ?_)))))))))))))))))
 rintro i251 _ _ w253 hi257 ⟨I249, rfl, hl250, hS254⟩ x255 hr1 hext248
 refine yf (yd nL5 (yc 0 2 [16] rfl (yg (hS254.rf m0) rfl (ya 3 2 rfl (yb (yah fun _ => yi (En.next (yf (W.block (yd nL8 (yc 0 1 [16] rfl (yg (hS254.rf m0) rfl (ya 2 1 rfl ?_)))))))))))))
 obtain ⟨x258, hr1, hb_x258, _, ⟨w_x258, rfl, h_x258⟩, hc_x258⟩ := sl_ix ((RSl.mono h_p0.Order (((((hl23.trans hl49).trans hl82).trans hl162).trans hl205).trans hl250))) hr1
 refine y3 104 8 hb_x258 rfl (yc 4 1 [0] rfl (yak ((cs_qExpr x258.E w_x258.E)) hc_x258 0 hS254.rm rfl (bsk hr1 fun r264 hx_r259 hr1 => WO.c1 (r10_Few_ok h_x258.E hS254 hx_r259) rfl fun I261 w260 hl262 hS263 => ya 7 1 rfl (yb (W.cb hr1 (fun hc hr1 => ?_) (fun hc hr1 => ?_))))))
 refine yd [0] (ya 0 1 rfl (yb (W.ret (yj (ye (yp ?_))))))
 obtain rfl := hext248 _ (sj hr1).symm
 refine yj (ye ?_)
 obtain rfl := sj hr
 exact yu ⟨I261, rfl, le, hS263.drop.drop⟩
 exact yi (yk (En.next (yaa nL3 (ya 0 1 rfl (yae i251 rfl (ya 2 1 rfl (WO.nil (yq ⟨(), (sj hr1).symm, I261, rfl, le, hS263⟩))))))))
 rintro _ _ w271 ⟨I249, rfl, hl250, hS272⟩ he
 cases he
 refine yf (yd nL5 (yc 0 2 [16] rfl (yg (hS272.rf m0) rfl (ya 3 2 rfl (yb (yai fun _ => yz (ym (yn (yo (En.next (yf (yd [0] (ya 0 1 rfl (yb (W.block (bsk hr fun t273 hloop277 hr => have hlt281 := ((h_s206.mono hl250).sl).len_lt; W.wk (W.forN (m := s206.length) hloop277 (fun (i276 : Nat) => fun (_s : Unit) fr w => ∃ I274, fr = [(1, Pt b1 0), (3, Sl a_s206 s206 c_s206), (11, Nv i276)] ∧ I249.Le I274 ∧ St E w I274 ((Bx b1 (cs_qStmt p0 w_p0) 44) :: (C_s206) :: Os)) ⟨I249, rfl, lr, hS272⟩ ?_ ?_)))))))))))))))))
 rintro i276 _ _ w278 hi282 ⟨I274, rfl, hl275, hS279⟩ x280 hr1 hext273
 refine yf (yd nL4 (ya 0 4 rfl (yb (yah fun _ => yi (En.next (yf (W.block (yd nL6 (ya 0 2 rfl ?_)))))))))
 obtain ⟨x283, hr1, hb_x283, _, rfl, hc_x283⟩ := sl_ix ((h_s206.mono (hl250.trans hl275)).sl) hr1
 refine y3 9 1 hb_x283 rfl (yaf hc_x283 (hS279.rf m1) rfl (ya 4 2 rfl (yb (W.cb hr1 (fun hc hr1 => ?_) (fun hc hr1 => ?_)))))
 refine yd [0] (ya 0 1 rfl (yb (W.ret (yj (ye (yp ?_))))))
 obtain rfl := hext273 _ (sj hr1).symm
 refine yj (ye ?_)
 obtain rfl := sj hr
 exact yu ⟨I274, rfl, le, hS279.drop.drop⟩
 exact yi (yk (En.next (yaa nL3 (ya 0 1 rfl (yae i276 rfl (ya 2 1 rfl (WO.nil (yq ⟨(), (sj hr1).symm, I274, rfl, hl275, hS279⟩))))))))
 rintro _ _ w290 ⟨I274, rfl, hl275, hS291⟩ he
 cases he
 refine yf (yd nL4 (ya 0 4 rfl (yb (yai fun _ => yz (ym (yn (yo (En.next (yd nL21 (yc 0 1 [20] rfl (yg (hS291.rf m0) rfl (ya 2 3 rfl (bsk hr fun j292 hr1 hr => WO.jw (l1 := [5, 6, 7, 8, 9, 10, 11, 12, 13, 14, 15, 16, 17, 18, 19]) (J := (fun fr w => ∃ I294, fr = [(232, .bool j292)] ∧ I274.Le I294 ∧ St E w I294 Os)) ?_ ?_)))))))))))))
 refine WO.cb hr1 (fun hc hr1 => ?_) (fun hc hr1 => ?_)
 refine yl 217 hc ?_
 iterate 14 refine yt ?_
 refine yh 19 232 (.bool true) ?_
 obtain rfl := sj hr1
 exact yw ⟨I274, rfl, lr, hS291.drop.drop⟩
 refine yl 217 hc (yc 5 1 [20] rfl (yg (hS291.rf m0) rfl ?_))
 obtain ⟨x298, hx_x298, hr1⟩ := bsm hr1
 obtain ⟨h0_x298, h1_x298, hx_x298⟩ := idx_some hx_x298
 obtain ⟨ha_x298, cs_x298, hn_x298, hr_x298, hc_x298⟩ := ((RSl.mono h_p0.Kids ((((((hl23.trans hl49).trans hl82).trans hl162).trans hl205).trans hl250).trans hl275))).el _ _ hx_x298
 obtain ⟨w_x298, rfl, h_x298⟩ := Q_qStmt_iff.1 hr_x298
 refine yaq 44 21 ha_x298 h0_x298 h1_x298 ?_
 refine yc 8 1 [20] rfl (yal hc_x298 20 hS291.rm rfl (ya 10 3 rfl (bsk hr1 fun j299 hr2 hr1 => WO.jw (l1 := [13, 14, 15, 16, 17, 18]) (J := (fun fr w => ∃ I301, fr = [(217, .bool false), (231, .bool j299)] ∧ I274.Le I301 ∧ St E w I301 Os)) ?_ ?_)))
 refine WO.cb hr2 (fun hc hr2 => ?_) (fun hc hr2 => ?_)
 refine yl 225 hc (yc 13 1 [20] rfl (yg (hS291.rf m0) rfl ?_))
 obtain ⟨x303, hx_x303, hr2⟩ := bsm hr2
 obtain ⟨h0_x303, h1_x303, hx_x303⟩ := idx_some hx_x303
 obtain ⟨ha_x303, cs_x303, hn_x303, hr_x303, hc_x303⟩ := ((RSl.mono h_p0.Kids ((((((hl23.trans hl49).trans hl82).trans hl162).trans hl205).trans hl250).trans hl275))).el _ _ hx_x303
 obtain ⟨w_x303, rfl, h_x303⟩ := Q_qStmt_iff.1 hr_x303
 refine yaq 44 21 ha_x303 h0_x303 h1_x303 ?_
 refine yak ((cs_qStmt x303 w_x303)) hc_x303 0 hS291.rm rfl (bsk hr2 fun r309 hx_r304 hr2 => WO.c1 (ih h_x303 hS291 hx_r304) rfl fun I306 w305 hl307 hS308 => yh 18 231 (.bool r309) ?_)
 obtain rfl := sj hr2
 exact yw ⟨I306, rfl, hl307, hS308.drop.drop⟩
 refine yl 225 hc ?_
 iterate 5 refine yt ?_
 refine yh 18 231 (.bool false) ?_
 obtain rfl := sj hr2
 exact yw ⟨I274, rfl, lr, hS291.drop.drop⟩
 rintro _ w314 ⟨I301, rfl, hl302, hS315⟩
 refine yh 19 232 (.bool j299) ?_
 obtain rfl := sj hr1
 exact yw ⟨I301, rfl, hl302, hS315⟩
 rintro _ w316 ⟨I294, rfl, hl295, hS317⟩
 refine ya 20 1 rfl (yb (W.ret ?_))
 obtain rfl := sj hr
 exact yu ⟨I294, rfl, le, hS317⟩
theorem r12_Few_ok {p0 : qStmt} {w_p0 : W_qStmt} (h_p0 : ok_qStmt I p0 w_p0) (hS : St E w I Os) {r : Bool} (hr : r12_Few p0 = some r) :
    Calls P 28 #[(.agg (cs_qStmt p0 w_p0).toArray)] w (fun e w' => ∃ I', e = .returned (.bool r) ∧ I.Le I' ∧ St E w' I' Os) := by
 obtain ⟨fu, hf⟩ := anyFuel_some hr
 exact r12_Few_fu_ok fu h_p0 hS hf
noncomputable def law19_Few (p0 : List law19_Act) : Option Bool := (forN (fun (i4 : Nat) => fun (_s : Unit) => ((bif (decide ((i4 : Int) ≥ 40)) then some true else (idx p0 (i4 : Int)).bind (fun x15 => (r12_Few x15.S).bind (fun r21 => some (!r21))))).bind (fun (j11 : Bool) => ((bif j11 then some true else (idx p0 (i4 : Int)).bind (fun x28 => some (decide ((x28.By.size : Int) > 100))))).bind (fun (j24 : Bool) => (bif j24 then some (.inr false) else some (.inl ()))))) p0.length 0 ()).bind (fun (t : Unit ⊕ (Bool)) => match t with | .inl _ => some true | .inr s32 => some s32)
theorem law19_Few_ok {p0 : List law19_Act} {a_p0 : Option Addr} {c_p0 : Nat} (h_p0 : RSl 22 R_law19_Act I a_p0 c_p0 p0) (hS : St E w I Os) {r : Bool} (hr : law19_Few p0 = some r) :
    Calls P 7 #[(Sl a_p0 p0 c_p0)] w (fun e w' => ∃ I', e = .returned (.bool r) ∧ I.Le I' ∧ St E w' I' Os) := by
 refine calls_W (fn := Tryz.f7) rfl rfl rfl ?_
 unfold law19_Few at hr
 refine yd [0] (ya 0 1 rfl (yb (yf (yd [0] (ya 0 1 rfl (yb (W.block (bsk hr fun t1 hloop5 hr => have hlt9 := (h_p0).len_lt; W.wk (W.forN (m := p0.length) hloop5 (fun (i4 : Nat) => fun (_s : Unit) fr w => ∃ I2, fr = [(0, Sl a_p0 p0 c_p0), (3, Nv i4)] ∧ I.Le I2 ∧ St E w I2 Os) ⟨I, rfl, lr, hS⟩ ?_ ?_)))))))))
 rintro i4 _ _ w6 hi10 ⟨I2, rfl, hl3, hS7⟩ x8 hr1 hext1
 refine yf (yd nL4 (ya 0 4 rfl (yb (yah fun _ => yi (En.next (yf (W.block (yd nL20 (ya 0 3 rfl (bsk hr1 fun j11 hr2 hr1 => WO.jw (l1 := [3, 4, 5, 6, 7, 8, 9, 10]) (J := (fun fr w => ∃ I13, fr = [(0, Sl a_p0 p0 c_p0), (3, Nv i4), (20, .bool j11)] ∧ I2.Le I13 ∧ St E w I13 Os)) ?_ ?_))))))))))
 refine WO.cb hr2 (fun hc hr2 => ?_) (fun hc hr2 => ?_)
 refine yl 12 hc ?_
 iterate 7 refine yt ?_
 refine yh 10 20 (.bool true) ?_
 obtain rfl := sj hr2
 exact yw ⟨I2, rfl, lr, hS7⟩
 refine yl 12 hc (ya 3 2 rfl ?_)
 obtain ⟨x15, hr2, hb_x15, _, ⟨w_x15, rfl, h_x15⟩, hc_x15⟩ := sl_ix ((RSl.mono h_p0 hl3)) hr2
 refine y3 46 22 hb_x15 rfl (yc 6 1 [0] rfl (yak ((cs_qStmt x15.S w_x15.S)) hc_x15 0 hS7.rm rfl (bsk hr2 fun r21 hx_r16 hr2 => WO.c1 (r12_Few_ok h_x15.S hS7 hx_r16) rfl fun I18 w17 hl19 hS20 => ya 9 1 rfl (yh 10 20 (.bool (!r21)) ?_))))
 obtain rfl := sj hr2
 exact yw ⟨I18, rfl, hl19, hS20⟩
 rintro _ w22 ⟨I13, rfl, hl14, hS23⟩
 refine ya 11 1 rfl (bsk hr1 fun j24 hr2 hr1 => WO.jw (l1 := [12, 13, 14, 15, 16, 17, 18, 19]) (J := (fun fr w => ∃ I26, fr = [(0, Sl a_p0 p0 c_p0), (3, Nv i4), (29, .bool j24)] ∧ I13.Le I26 ∧ St E w I26 Os)) ?_ ?_)
 refine WO.cb hr2 (fun hc hr2 => ?_) (fun hc hr2 => ?_)
 refine yl 21 hc ?_
 iterate 7 refine yt ?_
 refine yh 19 29 (.bool true) ?_
 obtain rfl := sj hr2
 exact yw ⟨I13, rfl, lr, hS23⟩
 refine yl 21 hc (ya 12 2 rfl ?_)
 obtain ⟨x28, hr2, hb_x28, _, ⟨w_x28, rfl, h_x28⟩, hc_x28⟩ := sl_ix ((RSl.mono h_p0 (hl3.trans hl14))) hr2
 refine y3 46 22 hb_x28 rfl (yc 15 1 [21] rfl (yal hc_x28 21 hS23.rm rfl (ya 17 2 rfl (yh 19 29 (.bool (decide ((x28.By.size : Int) > 100))) ?_))))
 obtain rfl := sj hr2
 exact yw ⟨I13, rfl, lr, hS23⟩
 rintro _ w29 ⟨I26, rfl, hl27, hS30⟩
 refine yb (W.cb hr1 (fun hc hr1 => ?_) (fun hc hr1 => ?_))
 refine yd [0] (ya 0 1 rfl (yb (W.ret (yj (ye (yp ?_))))))
 obtain rfl := hext1 _ (sj hr1).symm
 refine yj (ye ?_)
 obtain rfl := sj hr
 exact yu ⟨I26, rfl, le, hS30⟩
 exact yi (yk (En.next (yaa nL3 (ya 0 1 rfl (yae i4 rfl (ya 2 1 rfl (WO.nil (yq ⟨(), (sj hr1).symm, I26, rfl, le, hS30⟩))))))))
 rintro _ _ w33 ⟨I2, rfl, hl3, hS34⟩ he
 cases he
 refine yf (yd nL4 (ya 0 4 rfl (yb (yai fun _ => yz (ym (yn (yo (En.next (yd [0] (ya 0 1 rfl (yb (W.ret ?_))))))))))))
 obtain rfl := sj hr
 exact yu ⟨I2, rfl, hl3, hS34⟩
def r17_New  : Option qCatalog := some { z_qCatalog with Roles := ([{ z_qRole with Name := (⟨#[114, 111, 111, 116]⟩ : ByteArray) }] : List qRole) }
theorem r17_New_ok (hS : St E w I Os) {r : qCatalog} (hr : r17_New = some r) :
    Calls P 30 #[] w (fun e w' => ∃ I' w_rw0, e = .returned (.agg (cs_qCatalog r w_rw0).toArray) ∧ I.Le I' ∧ St E w' I' Os ∧ ok_qCatalog I' r w_rw0) := by
 refine calls_W (fn := Tryz.f30) rfl rfl rfl ?_
 unfold r17_New at hr
 refine yd [0] (yy hS (cs_qCatalog z_qCatalog zw_qCatalog) 29 rfl fun b1 w4 hS3 => y0 nL4 (yh 0 1 (.agg (cs_qRole ({ z_qRole with Name := (⟨#[114, 111, 111, 116]⟩ : ByteArray) }) zw_qRole).toArray) ?_))
 have hk12 : ok_qRole I ({ z_qRole with Name := (⟨#[114, 111, 111, 116]⟩ : ByteArray) }) zw_qRole := ⟨SlAt.nil⟩
 refine y4 (rel := R_qRole) (xs := ([{ z_qRole with Name := (⟨#[114, 111, 111, 116]⟩ : ByteArray) }] : List qRole)) hS3 rfl (by kernel_rfl) rfl 62 2 [(cs_qRole ({ z_qRole with Name := (⟨#[114, 111, 111, 116]⟩ : ByteArray) }) zw_qRole)] (by kernel_rfl) rfl ((Elr.cons ⟨zw_qRole, rfl, hk12⟩ Elr.nil)) (fun _ _ _ => trivial) ?_
 intro a8 C6 w10 hS9 ho7
 obtain ⟨I13, hl14, hS16, hp15⟩ := y6 ho7 hS9
 refine yh 2 3 (.agg #[(Iv 0), (.slice none 0 0), (.slice a8 1 1), (.slice none 0 0)]) (yx hS16 0 [(Iv 0), (.slice none 0 0), (.slice a8 1 1), (.slice none 0 0)] fun w18 hS17 => yb (W.ret ?_))
 have hk20 : ok_qCatalog I13 ({ z_qCatalog with Roles := ([{ z_qRole with Name := (⟨#[114, 111, 111, 116]⟩ : ByteArray) }] : List qRole) }) ({ zw_qCatalog with Roles := ⟨a8, 1⟩ }) := ⟨SlAt.nil, hp15, SlAt.nil⟩
 obtain rfl := sj hr
 exact En.c1 _ (hS17.rd m0) ⟨I13, ({ zw_qCatalog with Roles := ⟨a8, 1⟩ }), rfl, hl14, hS17.drop, hk20⟩
def r18_At (p0 : List qRole) (p1 : ByteArray) : Option Int := (forN (fun (i4 : Nat) => fun (_s : Unit) => (idx p0 (i4 : Int)).bind (fun x11 => (bif (sEq x11.Name p1) then some (.inr (i4 : Int)) else some (.inl ())))) p0.length 0 ()).bind (fun (t : Unit ⊕ (Int)) => match t with | .inl _ => some (-1) | .inr s13 => some s13)
theorem r18_At_ok {p0 : List qRole} {p1 : ByteArray} {a_p0 : Option Addr} {c_p0 : Nat} (h_p0 : RSl 2 R_qRole I a_p0 c_p0 p0) (hS : St E w I Os) {r : Int} (hr : r18_At p0 p1 = some r) :
    Calls P 37 #[(Sl a_p0 p0 c_p0), (.string p1)] w (fun e w' => ∃ I', e = .returned (Iv r) ∧ I.Le I' ∧ St E w' I' Os) := by
 refine calls_W (fn := Tryz.f37) rfl rfl rfl ?_
 unfold r18_At at hr
 refine yd [0] (ya 0 1 rfl (yb (yf (yd [0] (ya 0 1 rfl (yb (W.block (bsk hr fun t1 hloop5 hr => have hlt9 := (h_p0).len_lt; W.wk (W.forN (m := p0.length) hloop5 (fun (i4 : Nat) => fun (_s : Unit) fr w => ∃ I2, fr = [(0, Sl a_p0 p0 c_p0), (1, .string p1), (5, Nv i4)] ∧ I.Le I2 ∧ St E w I2 Os) ⟨I, rfl, lr, hS⟩ ?_ ?_)))))))))
 rintro i4 _ _ w6 hi10 ⟨I2, rfl, hl3, hS7⟩ x8 hr1 hext1
 refine yf (yd nL4 (ya 0 4 rfl (yb (yah fun _ => yi (En.next (yf (W.block (yd nL7 (ya 0 2 rfl ?_)))))))))
 obtain ⟨x11, hr1, hb_x11, _, ⟨w_x11, rfl, h_x11⟩, hc_x11⟩ := sl_ix ((RSl.mono h_p0 hl3)) hr1
 refine y3 62 2 hb_x11 rfl (yc 3 1 [0] rfl (yaf hc_x11 hS7.rm rfl (ya 5 2 rfl (yb (W.cb hr1 (fun hc hr1 => ?_) (fun hc hr1 => ?_))))))
 refine yd nL2 (ya 0 2 rfl (yb (W.ret (yj (ye (yp ?_))))))
 obtain rfl := hext1 _ (sj hr1).symm
 refine yj (ye ?_)
 obtain rfl := sj hr
 exact yu ⟨I2, rfl, hl3, hS7⟩
 exact yi (yk (En.next (yaa nL3 (ya 0 1 rfl (yae i4 rfl (ya 2 1 rfl (WO.nil (yq ⟨(), (sj hr1).symm, I2, rfl, hl3, hS7⟩))))))))
 rintro _ _ w14 ⟨I2, rfl, hl3, hS15⟩ he
 cases he
 refine yf (yd nL4 (ya 0 4 rfl (yb (yai fun _ => yz (ym (yn (yo (En.next (yd [0] (ya 0 1 rfl (yb (W.ret ?_))))))))))))
 obtain rfl := sj hr
 exact yu ⟨I2, rfl, hl3, hS15⟩
noncomputable def r18_Reach (p0 : List qRole) (p1 : ByteArray) : Option (List Bool) := (mk 1 (p0.length : Int)).bind (fun n1 => (r18_At p0 p1).bind (fun r13 => ((bif (decide (r13 ≥ 0)) then (idx (List.replicate n1 false) r13).bind (fun x18 => some ((List.replicate n1 false).set (r13).toNat true)) else some (List.replicate n1 false))).bind (fun (j14 : List Bool) => (forE (fun (i29 : Nat) => fun (s28 : List Bool) => (forE (fun (i40 : Nat) => fun (s39 : List Bool) => (loopO (fun (s : Int × (List Bool)) => match s with | (s50, s51) => (idx s51 (i40 : Int)).bind (fun x56 => ((bif x56 then (idx p0 (i40 : Int)).bind (fun x61 => some (decide (s50 < (x61.In.length : Int)))) else some false)).bind (fun (j57 : Bool) => (bif j57 then (idx p0 (i40 : Int)).bind (fun x64 => (idx x64.In s50).bind (fun x65 => (r18_At p0 x65).bind (fun r71 => ((bif (decide (r71 ≥ 0)) then (idx s51 r71).bind (fun x76 => some (s51.set (r71).toNat true)) else some s51)).bind (fun (j72 : List Bool) => some (.inl ((w64 (s50 + 1)), j72)))))) else some (.inr s51))))) (0, s39)).bind (fun (s84 : List Bool) => some s84)) p0.length 0 s28).bind (fun s39 => some s39)) p0.length 0 j14).bind (fun s28 => some s28))))
theorem r18_Reach_ok {p0 : List qRole} {p1 : ByteArray} {a_p0 : Option Addr} {c_p0 : Nat} (h_p0 : RSl 2 R_qRole I a_p0 c_p0 p0) (hS : St E w I Os) {r : (List Bool)} (hr : r18_Reach p0 p1 = some r) :
    Calls P 80 #[(Sl a_p0 p0 c_p0), (.string p1)] w (fun e w' => ∃ (I' : Mem) (ra0 : Option Addr) (rc0 : Nat), e = .returned (Sl ra0 r rc0) ∧ I.Le I' ∧ St E w' I' Os ∧ RSl 1 RBool I' ra0 rc0 r) := by
 refine calls_W (fn := Tryz.f80) rfl rfl rfl ?_
 unfold r18_Reach at hr
 refine yd [0] (yh 0 4 (.slice none 0 0) (y0 nL4 (ya 0 2 rfl ?_)))
 obtain ⟨n1, hx_n1, hr⟩ := bsm hr
 obtain ⟨h0_n1, he_n1⟩ := mk_some hx_n1
 refine WO.make (rel := RBool) hS rfl (by kernel_rfl) rfl (by kernel_rfl) (T := 4) (sz := 1) (b := 1) (zs := #[(.bool false)]) (by kernel_rfl) rfl rfl n1 (congrArg (Value.int .i64) he_n1) (congrArg (Value.int .i64) he_n1) h0_n1 rfl (z0 := false) rfl (fun _ _ _ => trivial) ?_
 intro a2 w6 C3 hS5 ho4
 refine y7 13 rfl (show Value.slice a2 n1 n1 = Value.slice a2 (List.replicate n1 false).length n1 by simp only [List.length_replicate]) ?_
 refine ya 3 1 rfl (y0 nL4 (ya 0 2 rfl (bsk hr fun r13 hx_r8 hr => WO.c1 (r18_At_ok h_p0 hS5 hx_r8) rfl fun I10 w9 hl11 hS12 => ya 3 1 rfl (yb (yf (yd nL2 (ya 0 2 rfl (yb (bsk hr fun j14 hr1 hr => W.jw (J := (fun fr w => ∃ I16 C_j14, fr = [(0, Sl a_p0 p0 c_p0), (5, Sl a2 j14 n1)] ∧ I10.Le I16 ∧ St E w I16 ((C_j14) :: Os) ∧ OwnSl 4 1 RBool I16 C_j14 a2 n1 j14)) ?_ ?_)))))))))
 refine W.cb hr1 (fun hc hr1 => ?_) (fun hc hr1 => ?_)
 refine yaa nL4 (ya 0 2 rfl ?_)
 obtain ⟨x18, hr1, h0_x18, h1_x18, hx_x18, ha_x18, _, _, rfl, hc_x18⟩ := sl_at ((ho4.mono hl11).sl) hr1
 refine yaq 4 1 ha_x18 h0_x18 h1_x18 ?_
 refine yas hS12 (OwnSl.mono ho4 hl11) rfl (by kernel_rfl) rfl hx_x18 (u' := true) 0 rfl rfl (by kernel_rfl) rfl rfl (fun cs hrel => (by obtain rfl := hrel; exact rfl)) (fun _ _ _ => trivial) ?_
 intro w20 C21 hS19 ho22
 refine y7 5 rfl (show Value.slice a2 (List.replicate n1 false).length n1 = Value.slice a2 ((List.replicate n1 false).set (r13).toNat true).length n1 by simp only [List.length_set]) ?_
 refine WO.nil ?_
 obtain rfl := sj hr1
 exact yq ⟨I10, C21, rfl, lr, hS19, ho22⟩
 refine yi ?_
 obtain rfl := sj hr1
 exact yq ⟨I10, C3, rfl, lr, hS12, (OwnSl.mono ho4 hl11)⟩
 rintro _ w23 ⟨I16, C_j14, rfl, hl17, hS24, h_j14⟩
 refine En.next (yf (yd [0] (ya 0 1 rfl (yb (W.block (bsk hr fun s28 hloop30 hr => have hlt34 := ((RSl.mono h_p0 (hl11.trans hl17))).len_lt; W.wk (W.forE (m := p0.length) hloop30 (fun (i29 : Nat) => fun (s28 : List Bool) fr w => ∃ I26 C_s28, fr = [(0, Sl a_p0 p0 c_p0), (5, Sl a2 s28 n1), (7, Nv i29)] ∧ I16.Le I26 ∧ St E w I26 ((C_s28) :: Os) ∧ OwnSl 4 1 RBool I26 C_s28 a2 n1 s28) ⟨I16, C_j14, rfl, lr, hS24, h_j14⟩ ?_ ?_)))))))
 rintro i29 s28 _ w31 hi35 ⟨I26, C_s28, rfl, hl27, hS32, h_s28⟩ x33 hr1
 refine yf (yd nL4 (ya 0 4 rfl (yb (yah fun _ => yi (En.next (yf (W.block (yd [0] (ya 0 1 rfl (yb (W.block (bsk hr1 fun s39 hloop41 hr1 => have hlt45 := ((RSl.mono h_p0 ((hl11.trans hl17).trans hl27))).len_lt; W.wk (W.forE (m := p0.length) hloop41 (fun (i40 : Nat) => fun (s39 : List Bool) fr w => ∃ I37 C_s39, fr = [(0, Sl a_p0 p0 c_p0), (5, Sl a2 s39 n1), (7, Nv i29), (8, Nv i40)] ∧ I26.Le I37 ∧ St E w I37 ((C_s39) :: Os) ∧ OwnSl 4 1 RBool I37 C_s39 a2 n1 s39) ⟨I26, C_s28, rfl, lr, hS32, h_s28⟩ ?_ ?_)))))))))))))
 rintro i40 s39 _ w42 hi46 ⟨I37, C_s39, rfl, hl38, hS43, h_s39⟩ x44 hr2
 refine yf (yd nL4 (ya 0 4 rfl (yb (yah fun _ => yi (En.next (yf (W.block (yd [0] (ya 0 1 rfl (yb (W.block (bsk hr2 fun t47 hloop52 hr2 => W.wk (yau hloop52 (fun (s : Int × (List Bool)) fr w => match s with | (s50, s51) => ∃ I48 C_s51, fr = [(0, Sl a_p0 p0 c_p0), (5, Sl a2 s51 n1), (7, Nv i29), (8, Nv i40), (9, Iv s50)] ∧ I37.Le I48 ∧ St E w I48 ((C_s51) :: Os) ∧ OwnSl 4 1 RBool I48 C_s51 a2 n1 s51) ⟨I37, C_s39, rfl, lr, hS43, h_s39⟩ ?_)))))))))))))
 rintro ⟨s50, s51⟩ _ w53 ⟨I48, C_s51, rfl, hl49, hS54, h_s51⟩ x55 hr3 hext47
 refine yf (yd nL14 (ya 0 2 rfl ?_))
 obtain ⟨x56, hr3, hb_x56, _, rfl, hc_x56⟩ := sl_ix (h_s51.sl) hr3
 refine y3 4 1 hb_x56 rfl (yaf hc_x56 (hS54.rf m0) rfl (ya 4 1 rfl (bsk hr3 fun j57 hr4 hr3 => WO.jw (l1 := [5, 6, 7, 8, 9, 10, 11, 12, 13]) (J := (fun fr w => ∃ I59, fr = [(0, Sl a_p0 p0 c_p0), (5, Sl a2 s51 n1), (7, Nv i29), (8, Nv i40), (9, Iv s50), (47, .bool j57)] ∧ I48.Le I59 ∧ St E w I59 ((C_s51) :: Os))) ?_ ?_)))
 refine WO.cb hr4 (fun hc hr4 => ?_) (fun hc hr4 => ?_)
 refine yl 38 hc (ya 5 3 rfl ?_)
 obtain ⟨x61, hr4, hb_x61, _, ⟨w_x61, rfl, h_x61⟩, hc_x61⟩ := sl_ix ((RSl.mono h_p0 ((((hl11.trans hl17).trans hl27).trans hl38).trans hl49))) hr4
 refine y3 62 2 hb_x61 rfl (yc 9 1 [1] rfl (yal hc_x61 1 hS54.rm rfl (ya 11 2 rfl (yh 13 47 (.bool (decide (s50 < (x61.In.length : Int)))) ?_))))
 obtain rfl := sj hr4
 exact yw ⟨I48, rfl, lr, hS54⟩
 refine yl 38 hc ?_
 iterate 8 refine yt ?_
 refine yh 13 47 (.bool false) ?_
 obtain rfl := sj hr4
 exact yw ⟨I48, rfl, lr, hS54⟩
 rintro _ w62 ⟨I59, rfl, hl60, hS63⟩
 refine yb (W.cb hr3 (fun hc hr3 => ?_) (fun hc hr3 => ?_))
 refine yi (En.next (yf (W.block (yd nL11 (ya 0 3 rfl ?_)))))
 obtain ⟨x64, hr3, hb_x64, _, ⟨w_x64, rfl, h_x64⟩, hc_x64⟩ := sl_ix ((RSl.mono h_p0 (((((hl11.trans hl17).trans hl27).trans hl38).trans hl49).trans hl60))) hr3
 refine y3 62 2 hb_x64 rfl (yc 4 1 [1] rfl (yal hc_x64 1 hS63.rm rfl (ya 6 1 rfl ?_)))
 obtain ⟨x65, hr3, hb_x65, _, rfl, hc_x65⟩ := sl_ix (h_x64.In) hr3
 refine y3 9 1 hb_x65 rfl (yaf hc_x65 hS63.rm rfl (bsk hr3 fun r71 hx_r66 hr3 => WO.c1 (r18_At_ok (RSl.mono h_p0 le) hS63 hx_r66) rfl fun I68 w67 hl69 hS70 => ya 10 1 rfl (y0 nL2 (ya 0 2 rfl (yb (bsk hr3 fun j72 hr4 hr3 => W.jw (J := (fun fr w => ∃ I74 C_j72, fr = [(0, Sl a_p0 p0 c_p0), (5, Sl a2 j72 n1), (7, Nv i29), (8, Nv i40), (9, Iv s50)] ∧ I68.Le I74 ∧ St E w I74 ((C_j72) :: Os) ∧ OwnSl 4 1 RBool I74 C_j72 a2 n1 j72)) ?_ ?_))))))
 refine W.cb hr4 (fun hc hr4 => ?_) (fun hc hr4 => ?_)
 refine yaa nL4 (ya 0 2 rfl ?_)
 obtain ⟨x76, hr4, h0_x76, h1_x76, hx_x76, ha_x76, _, _, rfl, hc_x76⟩ := sl_at ((h_s51.mono (hl60.trans hl69)).sl) hr4
 refine yaq 4 1 ha_x76 h0_x76 h1_x76 ?_
 refine yas hS70 (OwnSl.mono h_s51 le) rfl (by kernel_rfl) rfl hx_x76 (u' := true) 0 rfl rfl (by kernel_rfl) rfl rfl (fun cs hrel => (by obtain rfl := hrel; exact rfl)) (fun _ _ _ => trivial) ?_
 intro w78 C79 hS77 ho80
 refine y7 5 rfl (show Value.slice a2 s51.length n1 = Value.slice a2 (s51.set (r71).toNat true).length n1 by simp only [List.length_set]) ?_
 refine WO.nil ?_
 obtain rfl := sj hr4
 exact yq ⟨I68, C79, rfl, lr, hS77, ho80⟩
 refine yi ?_
 obtain rfl := sj hr4
 exact yq ⟨I68, C_s51, rfl, lr, hS70, (OwnSl.mono h_s51 le)⟩
 rintro _ w81 ⟨I74, C_j72, rfl, hl75, hS82, h_j72⟩
 exact yk (En.next (yaa nL3 (ya 0 3 rfl (WO.nil (yq ⟨((w64 (s50 + 1)), j72), (sj hr3).symm, I74, C_j72, rfl, le, hS82, h_j72⟩)))))
 refine yz (ym (yn ?_))
 obtain rfl := hext47 _ (sj hr3).symm
 refine yo (yk (En.next (yaa nL3 (ya 0 1 rfl (yae i40 rfl (ya 2 1 rfl (WO.nil ?_)))))))
 obtain rfl := sj hr2
 exact yq ⟨I59, C_s51, rfl, le, hS63, (OwnSl.mono h_s51 hl60)⟩
 rintro _ w85 ⟨I37, C_s39, rfl, hl38, hS86, h_s39⟩
 refine yf (yd nL4 (ya 0 4 rfl (yb (yai fun _ => yz (ym (yn (yo (yk (En.next (yaa nL3 (ya 0 1 rfl (yae i29 rfl (ya 2 1 rfl (WO.nil ?_))))))))))))))
 obtain rfl := sj hr1
 exact yq ⟨I37, C_s39, rfl, le, hS86, h_s39⟩
 rintro _ w87 ⟨I26, C_s28, rfl, hl27, hS88, h_s28⟩
 refine yf (yd nL4 (ya 0 4 rfl (yb (yai fun _ => yz (ym (yn (yo (En.next (yd nL2 (ya 0 1 rfl ?_))))))))))
 obtain ⟨I89, hl90, hS92, hp91⟩ := y6 h_s28 hS88
 refine ya 1 1 rfl (yb (W.ret ?_))
 obtain rfl := sj hr
 exact yu ⟨I89, a2, n1, rfl, le, hS92, hp91⟩
noncomputable def r18_into (p0 : List ByteArray) (p1 : ByteArray) : Option (List ByteArray) := (loopO (fun (s4 : Int) => ((bif (decide (s4 < (p0.length : Int))) then (idx p0 s4).bind (fun x13 => some (sLt x13 p1)) else some false)).bind (fun (j9 : Bool) => (bif j9 then some (.inl (w64 (s4 + 1))) else some (.inr s4)))) 0).bind (fun (s17 : Int) => (sub p0 0 s17).bind (fun x18 => (app 16 ([] : List ByteArray) x18).bind (fun x21 => (app 16 x21 ([p1] : List ByteArray)).bind (fun x36 => (sub p0 s17 (p0.length : Int)).bind (fun x45 => (app 16 x36 x45).bind (fun x46 => some x46))))))
theorem r18_into_ok {p0 : List ByteArray} {p1 : ByteArray} {a_p0 : Option Addr} {c_p0 : Nat} (h_p0 : RSl 1 RStr I a_p0 c_p0 p0) (hS : St E w I Os) {r : (List ByteArray)} (hr : r18_into p0 p1 = some r) :
    Calls P 81 #[(Sl a_p0 p0 c_p0), (.string p1)] w (fun e w' => ∃ (I' : Mem) (ra0 : Option Addr) (rc0 : Nat), e = .returned (Sl ra0 r rc0) ∧ I.Le I' ∧ St E w' I' Os ∧ RSl 1 RStr I' ra0 rc0 r) := by
 refine calls_W (fn := Tryz.f81) rfl rfl rfl ?_
 unfold r18_into at hr
 refine yd [0] (yh 0 4 (.slice none 0 0) (y0 [0] (ya 0 1 rfl (yb (yf (W.block (bsk hr fun t1 hloop5 hr => W.wk (yau hloop5 (fun (s4 : Int) fr w => ∃ I2, fr = [(0, Sl a_p0 p0 c_p0), (1, .string p1), (5, Iv s4)] ∧ I.Le I2 ∧ St E w I2 Os) ⟨I, rfl, lr, hS⟩ ?_))))))))
 rintro s4 _ w6 ⟨I2, rfl, hl3, hS7⟩ x8 hr1 hext1
 refine yf (yd nL12 (ya 0 5 rfl (bsk hr1 fun j9 hr2 hr1 => WO.jw (l1 := [5, 6, 7, 8, 9, 10, 11]) (J := (fun fr w => ∃ I11, fr = [(0, Sl a_p0 p0 c_p0), (1, .string p1), (5, Iv s4), (18, .bool j9)] ∧ I2.Le I11 ∧ St E w I11 Os)) ?_ ?_)))
 refine WO.cb hr2 (fun hc hr2 => ?_) (fun hc hr2 => ?_)
 refine yl 11 hc (ya 5 2 rfl ?_)
 obtain ⟨x13, hr2, hb_x13, _, rfl, hc_x13⟩ := sl_ix ((RSl.mono h_p0 hl3)) hr2
 refine y3 9 1 hb_x13 rfl (yaf hc_x13 hS7.rm rfl (ya 9 1 rfl (WO.vs 10 [(17, .bool (sLt x13 p1)), (18, .bool (sLt x13 p1))] ?_)))
 obtain rfl := sj hr2
 exact yw ⟨I2, rfl, lr, hS7⟩
 refine yl 11 hc ?_
 iterate 6 refine yt ?_
 refine yh 11 18 (.bool false) ?_
 obtain rfl := sj hr2
 exact yw ⟨I2, rfl, lr, hS7⟩
 rintro _ w14 ⟨I11, rfl, hl12, hS15⟩
 refine yb (W.cb hr1 (fun hc hr1 => ?_) (fun hc hr1 => ?_))
 exact yi (En.next (W.block (yaa nL3 (ya 0 3 rfl (WO.nil (yk (yq ⟨(w64 (s4 + 1)), (sj hr1).symm, I11, rfl, le, hS15⟩)))))))
 refine yz (ym (yn ?_))
 obtain rfl := hext1 _ (sj hr1).symm
 refine yo (En.next (yd [0] (yh 0 6 (.slice none 0 0) (y0 nL6 (ya 0 3 rfl ?_)))))
 obtain ⟨x57, hx_x57, hr⟩ := bsm hr
 obtain ⟨h0_x57, h1_x57, h2_x57, he_x57⟩ := sub_some hx_x57
 have hl_x57 : (s4 : Int) ≤ (c_p0 : Int) := Int.le_trans h2_x57 (Int.ofNat_le.2 ((RSl.mono h_p0 (hl3.trans hl12))).le)
 refine WO.slice (e := 9) (sz := 1) rfl (by kernel_rfl) (by kernel_rfl) (by kernel_rfl) rfl (0 : Int) (s4 : Int) h0_x57 (.inl ⟨rfl, rfl⟩) (.inr ⟨_, _, rfl, rfl⟩) h1_x57 hl_x57 ?_
 obtain ⟨a_x57, c_x57, h_x57, ev_x57⟩ := sub_ok ((RSl.mono h_p0 (hl3.trans hl12))) h0_x57 h1_x57 h2_x57 he_x57
 refine y7 24 rfl ev_x57 ?_
 have hS59 := hS15.no
 obtain ⟨x60, hx_x60, hr⟩ := bsm hr
 obtain ⟨h0_x60, he_x60⟩ := app_some hx_x60
 refine WO.append (e' := 9) (b := 16) (zs := #[(.string (⟨#[]⟩ : ByteArray))]) hS59 (OwnSl.nil (T := 9) (rel := RStr) (I := I11)) rfl (by kernel_rfl) rfl (by kernel_rfl) (by kernel_rfl) (by kernel_rfl) rfl rfl rfl rfl h_x57 hS59.im h0_x60 he_x60 (fun _ _ _ => trivial) ?_
 intro a61 c62 w63 C64 hS65 ho66
 refine ya 5 1 rfl (y0 nL5 (ya 0 2 rfl (y4 (rel := RStr) (xs := ([p1] : List ByteArray)) hS65 rfl (by kernel_rfl) rfl 9 1 [[(.string p1)]] (by kernel_rfl) rfl ((Elr.cons rfl Elr.nil)) (fun _ _ _ => trivial) ?_)))
 intro a70 C68 w72 hS71 ho69
 have hS74 := hS71.front1
 obtain ⟨x75, hx_x75, hr⟩ := bsm hr
 obtain ⟨h0_x75, he_x75⟩ := app_some hx_x75
 refine yaj 9 16 [(.string (⟨#[]⟩ : ByteArray))] hS74 ho66 ho69.sl (hS74.rd m1) h0_x75 he_x75 rfl fun a76 c77 w78 C79 hS80 ho81 => have hS83 := hS80.front1.drop; ya 4 1 rfl (y0 nL6 (ya 0 3 rfl ?_))
 obtain ⟨x84, hx_x84, hr⟩ := bsm hr
 obtain ⟨h0_x84, h1_x84, h2_x84, he_x84⟩ := sub_some hx_x84
 have hl_x84 : ((p0.length : Int) : Int) ≤ (c_p0 : Int) := Int.le_trans h2_x84 (Int.ofNat_le.2 ((RSl.mono h_p0 (hl3.trans hl12))).le)
 refine WO.slice (e := 9) (sz := 1) rfl (by kernel_rfl) (by kernel_rfl) (by kernel_rfl) rfl (s4 : Int) ((p0.length : Int) : Int) h0_x84 (.inr ⟨_, _, rfl, rfl⟩) (.inl ⟨rfl, rfl⟩) h1_x84 hl_x84 ?_
 obtain ⟨a_x84, c_x84, h_x84, ev_x84⟩ := sub_ok ((RSl.mono h_p0 (hl3.trans hl12))) h0_x84 h1_x84 h2_x84 he_x84
 refine y7 33 rfl ev_x84 ?_
 obtain ⟨x85, hx_x85, hr⟩ := bsm hr
 obtain ⟨h0_x85, he_x85⟩ := app_some hx_x85
 refine yaj 9 16 [(.string (⟨#[]⟩ : ByteArray))] hS83 ho81 h_x84 hS83.im h0_x85 he_x85 rfl ?_
 intro a86 c87 w88 C89 hS90 ho91
 obtain ⟨I92, hl93, hS95, hp94⟩ := y6 ho91 hS90
 refine ya 5 1 rfl (yb (W.ret ?_))
 obtain rfl := sj hr
 exact yu ⟨I92, a86, c87, rfl, le, hS95, hp94⟩
noncomputable def r18_All (p0 : List qRole) (p1 : ByteArray) : Option (List ByteArray) := (r18_Reach p0 p1).bind (fun r6 => (forE (fun (i11 : Nat) => fun (s10 : List ByteArray) => (idx r6 (i11 : Int)).bind (fun x18 => ((bif x18 then (idx p0 (i11 : Int)).bind (fun x23 => (r18_into s10 x23.Name).bind (fun r29 => some r29)) else some s10)).bind (fun (j19 : List ByteArray) => some j19))) p0.length 0 ([] : List ByteArray)).bind (fun s10 => some s10))
theorem r18_All_ok {p0 : List qRole} {p1 : ByteArray} {a_p0 : Option Addr} {c_p0 : Nat} (h_p0 : RSl 2 R_qRole I a_p0 c_p0 p0) (hS : St E w I Os) {r : (List ByteArray)} (hr : r18_All p0 p1 = some r) :
    Calls P 48 #[(Sl a_p0 p0 c_p0), (.string p1)] w (fun e w' => ∃ (I' : Mem) (ra0 : Option Addr) (rc0 : Nat), e = .returned (Sl ra0 r rc0) ∧ I.Le I' ∧ St E w' I' Os ∧ RSl 1 RStr I' ra0 rc0 r) := by
 refine calls_W (fn := Tryz.f48) rfl rfl rfl ?_
 unfold r18_All at hr
 refine yd [0] (yh 0 4 (.slice none 0 0) (y0 nL4 (ya 0 2 rfl (bsk hr fun r6 hx_r1 hr => yab (r18_Reach_ok h_p0 hS hx_r1) ?_))))
 rintro _ w2 ⟨I3, a_r6, c_r6, rfl, hl4, hS5, h_r6⟩
 refine ⟨_, rfl, trivial, ?_⟩
 refine ya 3 1 rfl (y0 [0] (yh 0 6 (.slice none 0 0) (yb (yf (yd [0] (ya 0 1 rfl (yb (W.block (bsk hr fun s10 hloop12 hr => have hlt16 := ((RSl.mono h_p0 hl4)).len_lt; W.wk (W.forE (m := p0.length) hloop12 (fun (i11 : Nat) => fun (s10 : List ByteArray) fr w => ∃ I8 a_s10 c_s10, fr = [(0, Sl a_p0 p0 c_p0), (5, Sl a_r6 r6 c_r6), (6, Sl a_s10 s10 c_s10), (7, Nv i11)] ∧ I3.Le I8 ∧ St E w I8 Os ∧ RSl 1 RStr I8 a_s10 c_s10 s10) ⟨I3, none, 0, rfl, lr, hS5, SlAt.nil⟩ ?_ ?_))))))))))
 rintro i11 s10 _ w13 hi17 ⟨I8, a_s10, c_s10, rfl, hl9, hS14, h_s10⟩ x15 hr1
 refine yf (yd nL4 (ya 0 4 rfl (yb (yah fun _ => yi (En.next (yf (W.block (yd nL4 (ya 0 2 rfl ?_)))))))))
 obtain ⟨x18, hr1, hb_x18, _, rfl, hc_x18⟩ := sl_ix ((RSl.mono h_r6 hl9)) hr1
 refine y3 4 1 hb_x18 rfl (yaf hc_x18 hS14.rm rfl (yb (bsk hr1 fun j19 hr2 hr1 => W.jw (J := (fun fr w => ∃ I21 a_j19 c_j19, fr = [(0, Sl a_p0 p0 c_p0), (5, Sl a_r6 r6 c_r6), (6, Sl a_j19 j19 c_j19), (7, Nv i11)] ∧ I8.Le I21 ∧ St E w I21 Os ∧ RSl 1 RStr I21 a_j19 c_j19 j19)) ?_ ?_)))
 refine W.cb hr2 (fun hc hr2 => ?_) (fun hc hr2 => ?_)
 refine yaa nL8 (ya 0 3 rfl ?_)
 obtain ⟨x23, hr2, hb_x23, _, ⟨w_x23, rfl, h_x23⟩, hc_x23⟩ := sl_ix ((RSl.mono h_p0 (hl4.trans hl9))) hr2
 refine y3 62 2 hb_x23 rfl (yc 4 1 [0] rfl (yaf hc_x23 hS14.rm rfl (bsk hr2 fun r29 hx_r24 hr2 => yab (r18_into_ok h_s10 hS14 hx_r24) ?_)))
 rintro _ w25 ⟨I26, a_r29, c_r29, rfl, hl27, hS28, h_r29⟩
 refine ⟨_, rfl, trivial, ?_⟩
 refine ya 7 1 rfl (WO.nil ?_)
 obtain rfl := sj hr2
 exact yq ⟨I26, a_r29, c_r29, rfl, hl27, hS28, h_r29⟩
 refine yi ?_
 obtain rfl := sj hr2
 exact yq ⟨I8, a_s10, c_s10, rfl, lr, hS14, h_s10⟩
 rintro _ w30 ⟨I21, a_j19, c_j19, rfl, hl22, hS31, h_j19⟩
 refine yk (En.next (yaa nL3 (ya 0 1 rfl (yae i11 rfl (ya 2 1 rfl (WO.nil ?_))))))
 obtain rfl := sj hr1
 exact yq ⟨I21, a_j19, c_j19, rfl, le, hS31, h_j19⟩
 rintro _ w32 ⟨I8, a_s10, c_s10, rfl, hl9, hS33, h_s10⟩
 refine yf (yd nL4 (ya 0 4 rfl (yb (yai fun _ => yz (ym (yn (yo (En.next (yd nL2 (ya 0 2 rfl (yb (W.ret ?_))))))))))))
 obtain rfl := sj hr
 exact yu ⟨I8, a_s10, c_s10, rfl, le, hS33, h_s10⟩
def r14_Has (p0 : List ByteArray) (p1 : ByteArray) : Option Bool := (forN (fun (i4 : Nat) => fun (_s : Unit) => (idx p0 (i4 : Int)).bind (fun x11 => (bif (sEq x11 p1) then some (.inr true) else some (.inl ())))) p0.length 0 ()).bind (fun (t : Unit ⊕ (Bool)) => match t with | .inl _ => some false | .inr s13 => some s13)
theorem r14_Has_ok {p0 : List ByteArray} {p1 : ByteArray} {a_p0 : Option Addr} {c_p0 : Nat} (h_p0 : RSl 1 RStr I a_p0 c_p0 p0) (hS : St E w I Os) {r : Bool} (hr : r14_Has p0 p1 = some r) :
    Calls P 47 #[(Sl a_p0 p0 c_p0), (.string p1)] w (fun e w' => ∃ I', e = .returned (.bool r) ∧ I.Le I' ∧ St E w' I' Os) := by
 refine calls_W (fn := Tryz.f47) rfl rfl rfl ?_
 unfold r14_Has at hr
 refine yd [0] (ya 0 1 rfl (yb (yf (yd [0] (ya 0 1 rfl (yb (W.block (bsk hr fun t1 hloop5 hr => have hlt9 := (h_p0).len_lt; W.wk (W.forN (m := p0.length) hloop5 (fun (i4 : Nat) => fun (_s : Unit) fr w => ∃ I2, fr = [(0, Sl a_p0 p0 c_p0), (1, .string p1), (5, Nv i4)] ∧ I.Le I2 ∧ St E w I2 Os) ⟨I, rfl, lr, hS⟩ ?_ ?_)))))))))
 rintro i4 _ _ w6 hi10 ⟨I2, rfl, hl3, hS7⟩ x8 hr1 hext1
 refine yf (yd nL4 (ya 0 4 rfl (yb (yah fun _ => yi (En.next (yf (W.block (yd nL6 (ya 0 2 rfl ?_)))))))))
 obtain ⟨x11, hr1, hb_x11, _, rfl, hc_x11⟩ := sl_ix ((RSl.mono h_p0 hl3)) hr1
 refine y3 9 1 hb_x11 rfl (yaf hc_x11 hS7.rm rfl (ya 4 2 rfl (yb (W.cb hr1 (fun hc hr1 => ?_) (fun hc hr1 => ?_)))))
 refine yd [0] (ya 0 1 rfl (yb (W.ret (yj (ye (yp ?_))))))
 obtain rfl := hext1 _ (sj hr1).symm
 refine yj (ye ?_)
 obtain rfl := sj hr
 exact yu ⟨I2, rfl, hl3, hS7⟩
 exact yi (yk (En.next (yaa nL3 (ya 0 1 rfl (yae i4 rfl (ya 2 1 rfl (WO.nil (yq ⟨(), (sj hr1).symm, I2, rfl, hl3, hS7⟩))))))))
 rintro _ _ w14 ⟨I2, rfl, hl3, hS15⟩ he
 cases he
 refine yf (yd nL4 (ya 0 4 rfl (yb (yai fun _ => yz (ym (yn (yo (En.next (yd [0] (ya 0 1 rfl (yb (W.ret ?_))))))))))))
 obtain rfl := sj hr
 exact yu ⟨I2, rfl, hl3, hS15⟩
noncomputable def r18_Is (p0 : List qRole) (p1 : ByteArray) (p2 : ByteArray) : Option Bool := (r18_All p0 p1).bind (fun r6 => (r14_Has r6 p2).bind (fun r12 => some r12))
theorem r18_Is_ok {p0 : List qRole} {p1 : ByteArray} {p2 : ByteArray} {a_p0 : Option Addr} {c_p0 : Nat} (h_p0 : RSl 2 R_qRole I a_p0 c_p0 p0) (hS : St E w I Os) {r : Bool} (hr : r18_Is p0 p1 p2 = some r) :
    Calls P 27 #[(Sl a_p0 p0 c_p0), (.string p1), (.string p2)] w (fun e w' => ∃ I', e = .returned (.bool r) ∧ I.Le I' ∧ St E w' I' Os) := by
 refine calls_W (fn := Tryz.f27) rfl rfl rfl ?_
 unfold r18_Is at hr
 refine yd [0] (ya 0 1 rfl (y0 nL6 (ya 0 2 rfl (bsk hr fun r6 hx_r1 hr => yab (r18_All_ok h_p0 hS hx_r1) ?_))))
 rintro _ w2 ⟨I3, a_r6, c_r6, rfl, hl4, hS5, h_r6⟩
 refine ⟨_, rfl, trivial, ?_⟩
 refine ya 3 1 rfl (bsk hr fun r12 hx_r7 hr => WO.c1 (r14_Has_ok h_r6 hS5 hx_r7) rfl fun I9 w8 hl10 hS11 => ya 5 1 rfl (yb (W.ret ?_)))
 obtain rfl := sj hr
 exact yu ⟨I9, rfl, le, hS11⟩
noncomputable def r09_all (p0 : ByteArray) (p1 : Int) (p2 : ByteArray) : Option Bool := (loopO (fun (s4 : Int) => (bif (decide (s4 < (p0.size : Int))) then (loopO (fun (s : Bool × Int) => match s with | (s12, s13) => (bif (decide (s13 < (p2.size : Int))) then ((bif s12 then some true else (sAt p2 s13).bind (fun y24 => (sAt p0 s4).bind (fun y25 => some (y24 == y25))))).bind (fun (j20 : Bool) => some (.inl (j20, (w64 (s13 + 1))))) else some (.inr s12))) (false, 0)).bind (fun (s29 : Bool) => (bif (!s29) then some (.inr (.inl false)) else some (.inl (w64 (s4 + 1))))) else some (.inr (.inr ())))) p1).bind (fun (t : Bool ⊕ Unit) => match t with | (.inl s31) => some s31 | (.inr ()) => some true)
theorem r09_all_ok {p0 : ByteArray} {p1 : Int} {p2 : ByteArray} (hS : St E w I Os) {r : Bool} (hr : r09_all p0 p1 p2 = some r) :
    Calls P 165 #[(.string p0), (Iv p1), (.string p2)] w (fun e w' => ∃ I', e = .returned (.bool r) ∧ I.Le I' ∧ St E w' I' Os) := by
 refine calls_W (fn := Tryz.f165) rfl rfl rfl ?_
 unfold r09_all at hr
 refine yd [0] (ya 0 1 rfl (yb (yf (yd nL2 (ya 0 2 rfl (yb (W.block (bsk hr fun t1 hloop5 hr => W.wk (yau hloop5 (fun (s4 : Int) fr w => ∃ I2, fr = [(0, .string p0), (2, .string p2), (7, Iv s4)] ∧ I.Le I2 ∧ St E w I2 Os) ⟨I, rfl, lr, hS⟩ ?_)))))))))
 rintro s4 _ w6 ⟨I2, rfl, hl3, hS7⟩ x8 hr1 hext1
 refine yf (yd nL4 (ya 0 4 rfl (yb (W.cb hr1 (fun hc hr1 => ?_) (fun hc hr1 => ?_)))))
 refine yi (En.next (yf (W.block (yd [0] (ya 0 1 rfl (yb (yf (yd [0] (ya 0 1 rfl (yb (W.block (bsk hr1 fun t9 hloop14 hr1 => W.wk (yau hloop14 (fun (s : Bool × Int) fr w => match s with | (s12, s13) => ∃ I10, fr = [(0, .string p0), (2, .string p2), (7, Iv s4), (8, .bool s12), (9, Iv s13)] ∧ I2.Le I10 ∧ St E w I10 Os) ⟨I2, rfl, lr, hS7⟩ ?_)))))))))))))
 rintro ⟨s12, s13⟩ _ w15 ⟨I10, rfl, hl11, hS16⟩ x17 hr2 hext9
 refine yf (yd nL4 (ya 0 4 rfl (yb (W.cb hr2 (fun hc hr2 => ?_) (fun hc hr2 => ?_)))))
 refine yi (En.next (yf (W.block (have hS18 := hS16.drew; yat nL11 10 (KR.nil hS18.im) ?_))))
 generalize World.drew _ = w19 at *
 refine ya 0 2 rfl (bsk hr2 fun j20 hr3 hr2 => WO.jw (l1 := [2, 3, 4, 5, 6, 7, 8, 9]) (J := (fun fr w => ∃ I22, fr = [(0, .string p0), (2, .string p2), (7, Iv s4), (9, Iv s13), (32, .bool j20)] ∧ I10.Le I22 ∧ St E w I22 Os)) ?_ ?_)
 refine WO.cb hr3 (fun hc hr3 => ?_) (fun hc hr3 => ?_)
 refine yl 24 hc ?_
 iterate 7 refine yt ?_
 refine yh 9 32 (.bool true) ?_
 obtain rfl := sj hr3
 exact yw ⟨I10, rfl, lr, hS18⟩
 refine yl 24 hc (ya 2 2 rfl (bsk hr3 fun y24 hx_y24 hr3 => yap rfl (by kernel_rfl) (by kernel_rfl) rfl rfl hx_y24 ?_))
 refine ya 5 2 rfl (bsk hr3 fun y25 hx_y25 hr3 => yap rfl (by kernel_rfl) (by kernel_rfl) rfl rfl hx_y25 ?_)
 refine ya 8 1 rfl (yh 9 32 (.bool (y24 == y25)) ?_)
 obtain rfl := sj hr3
 exact yw ⟨I10, rfl, lr, hS18⟩
 rintro _ w26 ⟨I22, rfl, hl23, hS27⟩
 exact WO.tail rfl (ya 10 1 rfl (WO.nil (yk (En.next (yaa nL3 (ya 0 3 rfl (WO.nil (yq ⟨(j20, (w64 (s13 + 1))), (sj hr2).symm, I22, rfl, le, hS27⟩))))))))
 refine yz (ym (yn ?_))
 obtain rfl := hext9 _ (sj hr2).symm
 refine yo (En.next (yd nL2 (ya 0 2 rfl (yb (W.cb hr1 (fun hc hr1 => ?_) (fun hc hr1 => ?_))))))
 refine yd [0] (ya 0 1 rfl (yb (W.ret (yj (ye (yp ?_))))))
 obtain rfl := hext1 _ (sj hr1).symm
 refine yj (ye ?_)
 obtain rfl := sj hr
 exact yu ⟨I10, rfl, le, hS16⟩
 exact yi (yk (En.next (yaa nL3 (ya 0 3 rfl (WO.nil (yq ⟨(w64 (s4 + 1)), (sj hr1).symm, I10, rfl, le, hS16⟩))))))
 refine yz (ym (yn ?_))
 obtain rfl := hext1 _ (sj hr1).symm
 refine yo (En.next (yd [0] (ya 0 1 rfl (yb (W.ret ?_)))))
 obtain rfl := sj hr
 exact yu ⟨I2, rfl, hl3, hS7⟩
noncomputable def r03_Plain (p0 : ByteArray) : Option Bool := (loopO (fun (s4 : Int) => (bif (decide (s4 < (p0.size : Int))) then (sAt p0 s4).bind (fun y9 => ((bif (decide (y9 < 32)) then some true else (sAt p0 s4).bind (fun y14 => some (decide (y14 > 126))))).bind (fun (j10 : Bool) => (bif j10 then some (.inr (.inl false)) else some (.inl (w64 (s4 + 1)))))) else some (.inr (.inr ())))) 0).bind (fun (t : Bool ⊕ Unit) => match t with | (.inl s18) => some s18 | (.inr ()) => some true)
theorem r03_Plain_ok {p0 : ByteArray} (hS : St E w I Os) {r : Bool} (hr : r03_Plain p0 = some r) :
    Calls P 191 #[(.string p0)] w (fun e w' => ∃ I', e = .returned (.bool r) ∧ I.Le I' ∧ St E w' I' Os) := by
 refine calls_W (fn := Tryz.f191) rfl rfl rfl ?_
 unfold r03_Plain at hr
 refine yd [0] (ya 0 1 rfl (yb (yf (yd [0] (ya 0 1 rfl (yb (W.block (bsk hr fun t1 hloop5 hr => W.wk (yau hloop5 (fun (s4 : Int) fr w => ∃ I2, fr = [(0, .string p0), (3, Iv s4)] ∧ I.Le I2 ∧ St E w I2 Os) ⟨I, rfl, lr, hS⟩ ?_)))))))))
 rintro s4 _ w6 ⟨I2, rfl, hl3, hS7⟩ x8 hr1 hext1
 refine yf (yd nL4 (ya 0 4 rfl (yb (W.cb hr1 (fun hc hr1 => ?_) (fun hc hr1 => ?_)))))
 refine yi (En.next (yf (W.block (yd nL10 (ya 0 2 rfl (bsk hr1 fun y9 hx_y9 hr1 => yap rfl (by kernel_rfl) (by kernel_rfl) rfl rfl hx_y9 ?_))))))
 refine ya 3 2 rfl (bsk hr1 fun j10 hr2 hr1 => WO.jw (l1 := [5, 6, 7, 8, 9]) (J := (fun fr w => ∃ I12, fr = [(0, .string p0), (3, Iv s4), (19, .bool j10)] ∧ I2.Le I12 ∧ St E w I12 Os)) ?_ ?_)
 refine WO.cb hr2 (fun hc hr2 => ?_) (fun hc hr2 => ?_)
 refine yl 14 hc ?_
 iterate 4 refine yt ?_
 refine yh 9 19 (.bool true) ?_
 obtain rfl := sj hr2
 exact yw ⟨I2, rfl, lr, hS7⟩
 refine yl 14 hc (ya 5 2 rfl (bsk hr2 fun y14 hx_y14 hr2 => yap rfl (by kernel_rfl) (by kernel_rfl) rfl rfl hx_y14 ?_))
 refine ya 8 1 rfl (yh 9 19 (.bool (decide (y14 > 126))) ?_)
 obtain rfl := sj hr2
 exact yw ⟨I2, rfl, lr, hS7⟩
 rintro _ w15 ⟨I12, rfl, hl13, hS16⟩
 refine yb (W.cb hr1 (fun hc hr1 => ?_) (fun hc hr1 => ?_))
 refine yd [0] (ya 0 1 rfl (yb (W.ret (yj (ye (yp ?_))))))
 obtain rfl := hext1 _ (sj hr1).symm
 refine yj (ye ?_)
 obtain rfl := sj hr
 exact yu ⟨I12, rfl, le, hS16⟩
 exact yi (yk (En.next (yaa nL3 (ya 0 3 rfl (WO.nil (yq ⟨(w64 (s4 + 1)), (sj hr1).symm, I12, rfl, le, hS16⟩))))))
 refine yz (ym (yn ?_))
 obtain rfl := hext1 _ (sj hr1).symm
 refine yo (En.next (yd [0] (ya 0 1 rfl (yb (W.ret ?_)))))
 obtain rfl := sj hr
 exact yu ⟨I2, rfl, hl3, hS7⟩
noncomputable def r09_quoted (p0 : ByteArray) : Option Bool := ((bif (decide ((p0.size : Int) < 2)) then some true else (sAt p0 0).bind (fun y5 => some (y5 != 39)))).bind (fun (j1 : Bool) => ((bif j1 then some true else (sAt p0 (w64 ((p0.size : Int) - 1))).bind (fun y12 => some (y12 != 39)))).bind (fun (j8 : Bool) => ((bif j8 then some true else (r03_Plain p0).bind (fun r24 => some (!r24)))).bind (fun (j15 : Bool) => (bif j15 then some false else (loopO (fun (s : Int × Int) => match s with | (s30, s31) => (bif (decide (s31 < (w64 ((p0.size : Int) - 1)))) then ((sAt p0 s31).bind (fun y40 => (bif (y40 != 39) then (bif ((Int.tmod s30 2) == 1) then some (.inl false) else some (.inr s30)) else some (.inr (w64 (s30 + 1)))))).bind (fun (t : Bool ⊕ Int) => match t with | (.inl s42) => some (.inr (.inl s42)) | (.inr s45) => some (.inl (s45, (w64 (s31 + 1))))) else some (.inr (.inr s30)))) (0, 1)).bind (fun (t : Bool ⊕ Int) => match t with | (.inl s44) => some s44 | (.inr s49) => some ((Int.tmod s49 2) == 0))))))
theorem r09_quoted_ok {p0 : ByteArray} (hS : St E w I Os) {r : Bool} (hr : r09_quoted p0 = some r) :
    Calls P 166 #[(.string p0)] w (fun e w' => ∃ I', e = .returned (.bool r) ∧ I.Le I' ∧ St E w' I' Os) := by
 refine calls_W (fn := Tryz.f166) rfl rfl rfl ?_
 unfold r09_quoted at hr
 refine yd [0] (ya 0 1 rfl (yb (yf (yd nL21 (ya 0 4 rfl (bsk hr fun j1 hr1 hr => WO.jw (l1 := [4, 5, 6, 7]) (J := (fun fr w => ∃ I3, fr = [(0, .string p0), (12, .bool j1)] ∧ I.Le I3 ∧ St E w I3 Os)) ?_ ?_))))))
 refine WO.cb hr1 (fun hc hr1 => ?_) (fun hc hr1 => ?_)
 refine yl 8 hc ?_
 iterate 3 refine yt ?_
 refine yh 7 12 (.bool true) ?_
 obtain rfl := sj hr1
 exact yw ⟨I, rfl, lr, hS⟩
 refine yl 8 hc (ya 4 1 rfl (bsk hr1 fun y5 hx_y5 hr1 => yap rfl (by kernel_rfl) (by kernel_rfl) rfl rfl hx_y5 ?_))
 refine ya 6 1 rfl (yh 7 12 (.bool (y5 != 39)) ?_)
 obtain rfl := sj hr1
 exact yw ⟨I, rfl, lr, hS⟩
 rintro _ w6 ⟨I3, rfl, hl4, hS7⟩
 refine ya 8 1 rfl (bsk hr fun j8 hr1 hr => WO.jw (l1 := [9, 10, 11, 12, 13, 14, 15]) (J := (fun fr w => ∃ I10, fr = [(0, .string p0), (20, .bool j8)] ∧ I3.Le I10 ∧ St E w I10 Os)) ?_ ?_)
 refine WO.cb hr1 (fun hc hr1 => ?_) (fun hc hr1 => ?_)
 refine yl 13 hc ?_
 iterate 6 refine yt ?_
 refine yh 15 20 (.bool true) ?_
 obtain rfl := sj hr1
 exact yw ⟨I3, rfl, lr, hS7⟩
 refine yl 13 hc (ya 9 4 rfl (bsk hr1 fun y12 hx_y12 hr1 => yap rfl (by kernel_rfl) (by kernel_rfl) rfl rfl hx_y12 ?_))
 refine ya 14 1 rfl (yh 15 20 (.bool (y12 != 39)) ?_)
 obtain rfl := sj hr1
 exact yw ⟨I3, rfl, lr, hS7⟩
 rintro _ w13 ⟨I10, rfl, hl11, hS14⟩
 refine ya 16 1 rfl (bsk hr fun j15 hr1 hr => WO.jw (l1 := [17, 18, 19, 20]) (J := (fun fr w => ∃ I17, fr = [(0, .string p0), (25, .bool j15)] ∧ I10.Le I17 ∧ St E w I17 Os)) ?_ ?_)
 refine WO.cb hr1 (fun hc hr1 => ?_) (fun hc hr1 => ?_)
 refine yl 21 hc ?_
 iterate 3 refine yt ?_
 refine yh 20 25 (.bool true) ?_
 obtain rfl := sj hr1
 exact yw ⟨I10, rfl, lr, hS14⟩
 refine yl 21 hc (ya 17 1 rfl (bsk hr1 fun r24 hx_r19 hr1 => WO.c1 (r03_Plain_ok  hS14 hx_r19) rfl fun I21 w20 hl22 hS23 => ya 19 1 rfl (yh 20 25 (.bool (!r24)) ?_)))
 obtain rfl := sj hr1
 exact yw ⟨I21, rfl, hl22, hS23⟩
 rintro _ w25 ⟨I17, rfl, hl18, hS26⟩
 refine yb (W.cb hr (fun hc hr => ?_) (fun hc hr => ?_))
 refine yd [0] (ya 0 1 rfl (yb (W.ret (ye ?_))))
 obtain rfl := sj hr
 exact yu ⟨I17, rfl, le, hS26⟩
 refine yi (En.next (yd [0] (ya 0 1 rfl (yb (yf (yd [0] (ya 0 1 rfl (yb (W.block (bsk hr fun t27 hloop32 hr => W.wk (yau hloop32 (fun (s : Int × Int) fr w => match s with | (s30, s31) => ∃ I28, fr = [(0, .string p0), (3, Iv s30), (4, Iv s31)] ∧ I17.Le I28 ∧ St E w I28 Os) ⟨I17, rfl, lr, hS26⟩ ?_)))))))))))
 rintro ⟨s30, s31⟩ _ w33 ⟨I28, rfl, hl29, hS34⟩ x35 hr1 hext27
 refine yf (yd nL5 (ya 0 5 rfl (yb (W.cb hr1 (fun hc hr1 => ?_) (fun hc hr1 => ?_)))))
 refine yi (En.next (yf (bsk hr1 fun j36 hr2 hr1 => W.jw (J := (fun fr w => ∃ (s45 : Int), ∃ I38, (.inr s45) = j36 ∧ fr = [(0, .string p0), (3, Iv s45), (4, Iv s31)] ∧ I28.Le I38 ∧ St E w I38 Os)) ?_ ?_)))
 refine W.block (yf (yd nL4 (ya 0 2 rfl (bsk hr2 fun y40 hx_y40 hr2 => yap rfl (by kernel_rfl) (by kernel_rfl) rfl rfl hx_y40 ?_))))
 refine ya 3 1 rfl (yb (W.cb hr2 (fun hc hr2 => ?_) (fun hc hr2 => ?_)))
 refine yf (yd nL3 (ya 0 1 rfl (yh 1 38 (Iv (Int.tmod s30 2)) (ya 2 1 rfl (yb (W.cb hr2 (fun hc hr2 => ?_) (fun hc hr2 => ?_)))))))
 refine yd [0] (ya 0 1 rfl (yb (W.ret (ye (ye (yj (yp ?_)))))))
 obtain rfl := sj hr2
 refine ye (yp ?_)
 obtain rfl := hext27 _ (sj hr1).symm
 refine yj (ye ?_)
 obtain rfl := sj hr
 exact yu ⟨I28, rfl, le, hS34⟩
 exact yi (En.next (yz (ym (yo (yq ⟨s30, I28, sj hr2, rfl, lr, hS34⟩)))))
 exact yi (En.next (yaa nL3 (ya 0 3 rfl (WO.nil (yk (yq ⟨(w64 (s30 + 1)), I28, sj hr2, rfl, lr, hS34⟩))))))
 rintro _ w46 ⟨s45, I38, rfl, rfl, hl39, hS47⟩
 exact En.next (yaa nL3 (ya 0 3 rfl (WO.nil (yq ⟨(s45, (w64 (s31 + 1))), (sj hr1).symm, I38, rfl, le, hS47⟩))))
 refine yz (ym (yn ?_))
 obtain rfl := hext27 _ (sj hr1).symm
 refine yo (En.next (yd nL4 (ya 0 1 rfl (yh 1 43 (Iv (Int.tmod s30 2)) (ya 2 2 rfl (yb (W.ret ?_)))))))
 obtain rfl := sj hr
 exact yu ⟨I28, rfl, le, hS34⟩
def r09_sign (p0 : ByteArray) : Option Bool := ((bif (sEq p0 (⟨#[40]⟩ : ByteArray)) then some (sEq p0 (⟨#[40]⟩ : ByteArray)) else ((bif (sEq p0 (⟨#[41]⟩ : ByteArray)) then some (sEq p0 (⟨#[41]⟩ : ByteArray)) else ((bif (sEq p0 (⟨#[44]⟩ : ByteArray)) then some (sEq p0 (⟨#[44]⟩ : ByteArray)) else ((bif (sEq p0 (⟨#[61]⟩ : ByteArray)) then some (sEq p0 (⟨#[61]⟩ : ByteArray)) else ((bif (sEq p0 (⟨#[60, 62]⟩ : ByteArray)) then some (sEq p0 (⟨#[60, 62]⟩ : ByteArray)) else ((bif (sEq p0 (⟨#[60]⟩ : ByteArray)) then some (sEq p0 (⟨#[60]⟩ : ByteArray)) else ((bif (sEq p0 (⟨#[60, 61]⟩ : ByteArray)) then some (sEq p0 (⟨#[60, 61]⟩ : ByteArray)) else ((bif (sEq p0 (⟨#[62]⟩ : ByteArray)) then some (sEq p0 (⟨#[62]⟩ : ByteArray)) else ((bif (sEq p0 (⟨#[62, 61]⟩ : ByteArray)) then some (sEq p0 (⟨#[62, 61]⟩ : ByteArray)) else ((bif (sEq p0 (⟨#[43]⟩ : ByteArray)) then some (sEq p0 (⟨#[43]⟩ : ByteArray)) else ((bif (sEq p0 (⟨#[45]⟩ : ByteArray)) then some (sEq p0 (⟨#[45]⟩ : ByteArray)) else ((bif (sEq p0 (⟨#[42]⟩ : ByteArray)) then some (sEq p0 (⟨#[42]⟩ : ByteArray)) else ((bif (sEq p0 (⟨#[47]⟩ : ByteArray)) then some (sEq p0 (⟨#[47]⟩ : ByteArray)) else ((bif (sEq p0 (⟨#[37]⟩ : ByteArray)) then some (sEq p0 (⟨#[37]⟩ : ByteArray)) else some (sEq p0 (⟨#[124, 124]⟩ : ByteArray)))).bind (fun (j53 : Bool) => some j53))).bind (fun (j49 : Bool) => some j49))).bind (fun (j45 : Bool) => some j45))).bind (fun (j41 : Bool) => some j41))).bind (fun (j37 : Bool) => some j37))).bind (fun (j33 : Bool) => some j33))).bind (fun (j29 : Bool) => some j29))).bind (fun (j25 : Bool) => some j25))).bind (fun (j21 : Bool) => some j21))).bind (fun (j17 : Bool) => some j17))).bind (fun (j13 : Bool) => some j13))).bind (fun (j9 : Bool) => some j9))).bind (fun (j5 : Bool) => some j5))).bind (fun (j1 : Bool) => (bif j1 then some true else some false))
theorem r09_sign_ok {p0 : ByteArray} (hS : St E w I Os) {r : Bool} (hr : r09_sign p0 = some r) :
    Calls P 167 #[(.string p0)] w (fun e w' => ∃ I', e = .returned (.bool r) ∧ I.Le I' ∧ St E w' I' Os) := by
 refine calls_W (fn := Tryz.f167) rfl rfl rfl ?_
 unfold r09_sign at hr
 refine yd [0] (ya 0 1 rfl (yb (yf (yd [0] (ya 0 1 rfl (yb (W.block (yf (yd nL2 (ya 0 2 rfl (yb (bsk hr fun j1 hr1 hr => W.jw (J := (fun fr w => ∃ I3, fr = [(4, .bool j1)] ∧ I.Le I3 ∧ St E w I3 Os)) ?_ ?_))))))))))))
 refine W.cb hr1 (fun hc hr1 => ?_) (fun hc hr1 => ?_)
 refine yi ?_
 obtain rfl := sj hr1
 exact yq ⟨I, rfl, lr, hS⟩
 refine yd nL2 (ya 0 2 rfl (yb (bsk hr1 fun j5 hr2 hr1 => W.jw (J := (fun fr w => ∃ I7, fr = [(4, .bool j5)] ∧ I.Le I7 ∧ St E w I7 Os)) ?_ ?_)))
 refine W.cb hr2 (fun hc hr2 => ?_) (fun hc hr2 => ?_)
 refine yi ?_
 obtain rfl := sj hr2
 exact yq ⟨I, rfl, lr, hS⟩
 refine yd nL2 (ya 0 2 rfl (yb (bsk hr2 fun j9 hr3 hr2 => W.jw (J := (fun fr w => ∃ I11, fr = [(4, .bool j9)] ∧ I.Le I11 ∧ St E w I11 Os)) ?_ ?_)))
 refine W.cb hr3 (fun hc hr3 => ?_) (fun hc hr3 => ?_)
 refine yi ?_
 obtain rfl := sj hr3
 exact yq ⟨I, rfl, lr, hS⟩
 refine yd nL2 (ya 0 2 rfl (yb (bsk hr3 fun j13 hr4 hr3 => W.jw (J := (fun fr w => ∃ I15, fr = [(4, .bool j13)] ∧ I.Le I15 ∧ St E w I15 Os)) ?_ ?_)))
 refine W.cb hr4 (fun hc hr4 => ?_) (fun hc hr4 => ?_)
 refine yi ?_
 obtain rfl := sj hr4
 exact yq ⟨I, rfl, lr, hS⟩
 refine yd nL2 (ya 0 2 rfl (yb (bsk hr4 fun j17 hr5 hr4 => W.jw (J := (fun fr w => ∃ I19, fr = [(4, .bool j17)] ∧ I.Le I19 ∧ St E w I19 Os)) ?_ ?_)))
 refine W.cb hr5 (fun hc hr5 => ?_) (fun hc hr5 => ?_)
 refine yi ?_
 obtain rfl := sj hr5
 exact yq ⟨I, rfl, lr, hS⟩
 refine yd nL2 (ya 0 2 rfl (yb (bsk hr5 fun j21 hr6 hr5 => W.jw (J := (fun fr w => ∃ I23, fr = [(4, .bool j21)] ∧ I.Le I23 ∧ St E w I23 Os)) ?_ ?_)))
 refine W.cb hr6 (fun hc hr6 => ?_) (fun hc hr6 => ?_)
 refine yi ?_
 obtain rfl := sj hr6
 exact yq ⟨I, rfl, lr, hS⟩
 refine yd nL2 (ya 0 2 rfl (yb (bsk hr6 fun j25 hr7 hr6 => W.jw (J := (fun fr w => ∃ I27, fr = [(4, .bool j25)] ∧ I.Le I27 ∧ St E w I27 Os)) ?_ ?_)))
 refine W.cb hr7 (fun hc hr7 => ?_) (fun hc hr7 => ?_)
 refine yi ?_
 obtain rfl := sj hr7
 exact yq ⟨I, rfl, lr, hS⟩
 refine yd nL2 (ya 0 2 rfl (yb (bsk hr7 fun j29 hr8 hr7 => W.jw (J := (fun fr w => ∃ I31, fr = [(4, .bool j29)] ∧ I.Le I31 ∧ St E w I31 Os)) ?_ ?_)))
 refine W.cb hr8 (fun hc hr8 => ?_) (fun hc hr8 => ?_)
 refine yi ?_
 obtain rfl := sj hr8
 exact yq ⟨I, rfl, lr, hS⟩
 refine yd nL2 (ya 0 2 rfl (yb (bsk hr8 fun j33 hr9 hr8 => W.jw (J := (fun fr w => ∃ I35, fr = [(4, .bool j33)] ∧ I.Le I35 ∧ St E w I35 Os)) ?_ ?_)))
 refine W.cb hr9 (fun hc hr9 => ?_) (fun hc hr9 => ?_)
 refine yi ?_
 obtain rfl := sj hr9
 exact yq ⟨I, rfl, lr, hS⟩
 refine yd nL2 (ya 0 2 rfl (yb (bsk hr9 fun j37 hr10 hr9 => W.jw (J := (fun fr w => ∃ I39, fr = [(4, .bool j37)] ∧ I.Le I39 ∧ St E w I39 Os)) ?_ ?_)))
 refine W.cb hr10 (fun hc hr10 => ?_) (fun hc hr10 => ?_)
 refine yi ?_
 obtain rfl := sj hr10
 exact yq ⟨I, rfl, lr, hS⟩
 refine yd nL2 (ya 0 2 rfl (yb (bsk hr10 fun j41 hr11 hr10 => W.jw (J := (fun fr w => ∃ I43, fr = [(4, .bool j41)] ∧ I.Le I43 ∧ St E w I43 Os)) ?_ ?_)))
 refine W.cb hr11 (fun hc hr11 => ?_) (fun hc hr11 => ?_)
 refine yi ?_
 obtain rfl := sj hr11
 exact yq ⟨I, rfl, lr, hS⟩
 refine yd nL2 (ya 0 2 rfl (yb (bsk hr11 fun j45 hr12 hr11 => W.jw (J := (fun fr w => ∃ I47, fr = [(4, .bool j45)] ∧ I.Le I47 ∧ St E w I47 Os)) ?_ ?_)))
 refine W.cb hr12 (fun hc hr12 => ?_) (fun hc hr12 => ?_)
 refine yi ?_
 obtain rfl := sj hr12
 exact yq ⟨I, rfl, lr, hS⟩
 refine yd nL2 (ya 0 2 rfl (yb (bsk hr12 fun j49 hr13 hr12 => W.jw (J := (fun fr w => ∃ I51, fr = [(4, .bool j49)] ∧ I.Le I51 ∧ St E w I51 Os)) ?_ ?_)))
 refine W.cb hr13 (fun hc hr13 => ?_) (fun hc hr13 => ?_)
 refine yi ?_
 obtain rfl := sj hr13
 exact yq ⟨I, rfl, lr, hS⟩
 refine yd nL2 (ya 0 2 rfl (yb (bsk hr13 fun j53 hr14 hr13 => W.jw (J := (fun fr w => ∃ I55, fr = [(4, .bool j53)] ∧ I.Le I55 ∧ St E w I55 Os)) ?_ ?_)))
 refine W.cb hr14 (fun hc hr14 => ?_) (fun hc hr14 => ?_)
 refine yi ?_
 obtain rfl := sj hr14
 exact yq ⟨I, rfl, lr, hS⟩
 refine yaa nL2 (ya 0 2 rfl (WO.nil ?_))
 obtain rfl := sj hr14
 exact yq ⟨I, rfl, lr, hS⟩
 rintro _ w57 ⟨I55, rfl, hl56, hS58⟩
 obtain rfl := sj hr13
 exact yq ⟨I55, rfl, hl56, hS58⟩
 rintro _ w59 ⟨I51, rfl, hl52, hS60⟩
 obtain rfl := sj hr12
 exact yq ⟨I51, rfl, hl52, hS60⟩
 rintro _ w61 ⟨I47, rfl, hl48, hS62⟩
 obtain rfl := sj hr11
 exact yq ⟨I47, rfl, hl48, hS62⟩
 rintro _ w63 ⟨I43, rfl, hl44, hS64⟩
 obtain rfl := sj hr10
 exact yq ⟨I43, rfl, hl44, hS64⟩
 rintro _ w65 ⟨I39, rfl, hl40, hS66⟩
 obtain rfl := sj hr9
 exact yq ⟨I39, rfl, hl40, hS66⟩
 rintro _ w67 ⟨I35, rfl, hl36, hS68⟩
 obtain rfl := sj hr8
 exact yq ⟨I35, rfl, hl36, hS68⟩
 rintro _ w69 ⟨I31, rfl, hl32, hS70⟩
 obtain rfl := sj hr7
 exact yq ⟨I31, rfl, hl32, hS70⟩
 rintro _ w71 ⟨I27, rfl, hl28, hS72⟩
 obtain rfl := sj hr6
 exact yq ⟨I27, rfl, hl28, hS72⟩
 rintro _ w73 ⟨I23, rfl, hl24, hS74⟩
 obtain rfl := sj hr5
 exact yq ⟨I23, rfl, hl24, hS74⟩
 rintro _ w75 ⟨I19, rfl, hl20, hS76⟩
 obtain rfl := sj hr4
 exact yq ⟨I19, rfl, hl20, hS76⟩
 rintro _ w77 ⟨I15, rfl, hl16, hS78⟩
 obtain rfl := sj hr3
 exact yq ⟨I15, rfl, hl16, hS78⟩
 rintro _ w79 ⟨I11, rfl, hl12, hS80⟩
 obtain rfl := sj hr2
 exact yq ⟨I11, rfl, hl12, hS80⟩
 rintro _ w81 ⟨I7, rfl, hl8, hS82⟩
 obtain rfl := sj hr1
 exact yq ⟨I7, rfl, hl8, hS82⟩
 rintro _ w83 ⟨I3, rfl, hl4, hS84⟩
 refine En.next (W.cb hr (fun hc hr => ?_) (fun hc hr => ?_))
 refine yd [0] (ya 0 1 rfl (yb (W.ret (yj (ye ?_)))))
 obtain rfl := sj hr
 exact yu ⟨I3, rfl, hl4, hS84⟩
 refine yi (yk (En.next (yd [0] (ya 0 1 rfl (yb (W.ret ?_))))))
 obtain rfl := sj hr
 exact yu ⟨I3, rfl, hl4, hS84⟩
noncomputable def r09_Kind (p0 : ByteArray) : Option Int := (bif (sEq p0 (⟨#[]⟩ : ByteArray)) then some 7 else ((bif (decide ((p0.size : Int) ≤ 12)) then (ssub p0 0 1).bind (fun x5 => (r09_all x5 0 (⟨#[97, 98, 99, 100, 101, 102, 103, 104, 105, 106, 107, 108, 109, 110, 111, 112, 113, 114, 115, 116, 117, 118, 119, 120, 121, 122]⟩ : ByteArray)).bind (fun r11 => some r11)) else some false)).bind (fun (j1 : Bool) => ((bif j1 then (r09_all p0 1 (⟨#[97, 98, 99, 100, 101, 102, 103, 104, 105, 106, 107, 108, 109, 110, 111, 112, 113, 114, 115, 116, 117, 118, 119, 120, 121, 122, 48, 49, 50, 51, 52, 53, 54, 55, 56, 57, 95]⟩ : ByteArray)).bind (fun r23 => some r23) else some false)).bind (fun (j14 : Bool) => (bif j14 then some 1 else ((bif (decide ((p0.size : Int) ≤ 16)) then (ssub p0 0 1).bind (fun x30 => (r09_all x30 0 (⟨#[65, 66, 67, 68, 69, 70, 71, 72, 73, 74, 75, 76, 77, 78, 79, 80, 81, 82, 83, 84, 85, 86, 87, 88, 89, 90]⟩ : ByteArray)).bind (fun r36 => some r36)) else some false)).bind (fun (j26 : Bool) => ((bif j26 then (r09_all p0 1 (⟨#[65, 66, 67, 68, 69, 70, 71, 72, 73, 74, 75, 76, 77, 78, 79, 80, 81, 82, 83, 84, 85, 86, 87, 88, 89, 90, 95]⟩ : ByteArray)).bind (fun r48 => some r48) else some false)).bind (fun (j39 : Bool) => (bif j39 then some 2 else ((bif (decide ((p0.size : Int) ≤ 19)) then (r09_all p0 0 (⟨#[48, 49, 50, 51, 52, 53, 54, 55, 56, 57]⟩ : ByteArray)).bind (fun r60 => some r60) else some false)).bind (fun (j51 : Bool) => ((bif j51 then ((bif (sEq p0 (⟨#[48]⟩ : ByteArray)) then some true else (sAt p0 0).bind (fun y71 => some (y71 != 48)))).bind (fun (j67 : Bool) => some j67) else some false)).bind (fun (j63 : Bool) => (bif j63 then some 3 else (r09_quoted p0).bind (fun r81 => (bif r81 then some 4 else ((bif ((p0.size : Int) == 2) then (sAt p0 0).bind (fun y86 => some (y86 == 36)) else some false)).bind (fun (j82 : Bool) => ((bif j82 then (sAt p0 1).bind (fun y93 => some (decide (y93 ≥ 49))) else some false)).bind (fun (j89 : Bool) => ((bif j89 then (sAt p0 1).bind (fun y100 => some (decide (y100 ≤ 54))) else some false)).bind (fun (j96 : Bool) => (bif j96 then some 5 else (r09_sign p0).bind (fun r108 => (bif r108 then some 6 else some 0))))))))))))))))))
theorem r09_Kind_ok {p0 : ByteArray} (hS : St E w I Os) {r : Int} (hr : r09_Kind p0 = some r) :
    Calls P 150 #[(.string p0)] w (fun e w' => ∃ I', e = .returned (Iv r) ∧ I.Le I' ∧ St E w' I' Os) := by
 refine calls_W (fn := Tryz.f150) rfl rfl rfl ?_
 unfold r09_Kind at hr
 refine yd [0] (ya 0 1 rfl (yb (yf (W.block (yd nL3 (ya 0 3 rfl (yb (W.cb hr (fun hc hr => ?_) (fun hc hr => ?_)))))))))
 refine yd [0] (ya 0 1 rfl (yb (W.ret (yj (ye ?_)))))
 obtain rfl := sj hr
 exact yu ⟨I, rfl, lr, hS⟩
 refine yd nL13 (ya 0 4 rfl (bsk hr fun j1 hr1 hr => WO.jw (l1 := [4, 5, 6, 7]) (J := (fun fr w => ∃ I3, fr = [(0, .string p0), (14, .bool j1)] ∧ I.Le I3 ∧ St E w I3 Os)) ?_ ?_))
 refine WO.cb hr1 (fun hc hr1 => ?_) (fun hc hr1 => ?_)
 refine yl 10 hc (ya 4 1 rfl (bsk hr1 fun x5 hx_x5 hr1 => WO.sliceS rfl (by kernel_rfl) (by kernel_rfl) rfl (0 : Int) (1 : Int) (.inl ⟨rfl, rfl⟩) (.inr ⟨_, _, rfl, rfl⟩) hx_x5 ?_))
 refine bsk hr1 fun r11 hx_r6 hr1 => WO.c1 (r09_all_ok  hS hx_r6) rfl fun I8 w7 hl9 hS10 => yh 7 14 (.bool r11) ?_
 obtain rfl := sj hr1
 exact yw ⟨I8, rfl, hl9, hS10⟩
 refine yl 10 hc ?_
 iterate 3 refine yt ?_
 refine yh 7 14 (.bool false) ?_
 obtain rfl := sj hr1
 exact yw ⟨I, rfl, lr, hS⟩
 rintro _ w12 ⟨I3, rfl, hl4, hS13⟩
 refine ya 8 1 rfl (bsk hr fun j14 hr1 hr => WO.jw (l1 := [9, 10, 11]) (J := (fun fr w => ∃ I16, fr = [(0, .string p0), (18, .bool j14)] ∧ I3.Le I16 ∧ St E w I16 Os)) ?_ ?_)
 refine WO.cb hr1 (fun hc hr1 => ?_) (fun hc hr1 => ?_)
 refine yl 15 hc (ya 9 1 rfl (bsk hr1 fun r23 hx_r18 hr1 => WO.c1 (r09_all_ok  hS13 hx_r18) rfl fun I20 w19 hl21 hS22 => yh 11 18 (.bool r23) ?_))
 obtain rfl := sj hr1
 exact yw ⟨I20, rfl, hl21, hS22⟩
 refine yl 15 hc ?_
 iterate 2 refine yt ?_
 refine yh 11 18 (.bool false) ?_
 obtain rfl := sj hr1
 exact yw ⟨I3, rfl, lr, hS13⟩
 rintro _ w24 ⟨I16, rfl, hl17, hS25⟩
 refine ya 12 1 rfl (yb (W.cb hr (fun hc hr => ?_) (fun hc hr => ?_)))
 refine yd [0] (ya 0 1 rfl (yb (W.ret (yj (ye ?_)))))
 obtain rfl := sj hr
 exact yu ⟨I16, rfl, le, hS25⟩
 refine yd nL13 (ya 0 4 rfl (bsk hr fun j26 hr1 hr => WO.jw (l1 := [4, 5, 6, 7]) (J := (fun fr w => ∃ I28, fr = [(0, .string p0), (27, .bool j26)] ∧ I16.Le I28 ∧ St E w I28 Os)) ?_ ?_))
 refine WO.cb hr1 (fun hc hr1 => ?_) (fun hc hr1 => ?_)
 refine yl 23 hc (ya 4 1 rfl (bsk hr1 fun x30 hx_x30 hr1 => WO.sliceS rfl (by kernel_rfl) (by kernel_rfl) rfl (0 : Int) (1 : Int) (.inl ⟨rfl, rfl⟩) (.inr ⟨_, _, rfl, rfl⟩) hx_x30 ?_))
 refine bsk hr1 fun r36 hx_r31 hr1 => WO.c1 (r09_all_ok  hS25 hx_r31) rfl fun I33 w32 hl34 hS35 => yh 7 27 (.bool r36) ?_
 obtain rfl := sj hr1
 exact yw ⟨I33, rfl, hl34, hS35⟩
 refine yl 23 hc ?_
 iterate 3 refine yt ?_
 refine yh 7 27 (.bool false) ?_
 obtain rfl := sj hr1
 exact yw ⟨I16, rfl, lr, hS25⟩
 rintro _ w37 ⟨I28, rfl, hl29, hS38⟩
 refine ya 8 1 rfl (bsk hr fun j39 hr1 hr => WO.jw (l1 := [9, 10, 11]) (J := (fun fr w => ∃ I41, fr = [(0, .string p0), (31, .bool j39)] ∧ I28.Le I41 ∧ St E w I41 Os)) ?_ ?_)
 refine WO.cb hr1 (fun hc hr1 => ?_) (fun hc hr1 => ?_)
 refine yl 28 hc (ya 9 1 rfl (bsk hr1 fun r48 hx_r43 hr1 => WO.c1 (r09_all_ok  hS38 hx_r43) rfl fun I45 w44 hl46 hS47 => yh 11 31 (.bool r48) ?_))
 obtain rfl := sj hr1
 exact yw ⟨I45, rfl, hl46, hS47⟩
 refine yl 28 hc ?_
 iterate 2 refine yt ?_
 refine yh 11 31 (.bool false) ?_
 obtain rfl := sj hr1
 exact yw ⟨I28, rfl, lr, hS38⟩
 rintro _ w49 ⟨I41, rfl, hl42, hS50⟩
 refine ya 12 1 rfl (yb (W.cb hr (fun hc hr => ?_) (fun hc hr => ?_)))
 refine yd [0] (ya 0 1 rfl (yb (W.ret (yj (ye ?_)))))
 obtain rfl := sj hr
 exact yu ⟨I41, rfl, le, hS50⟩
 refine yd nL17 (ya 0 4 rfl (bsk hr fun j51 hr1 hr => WO.jw (l1 := [4, 5, 6]) (J := (fun fr w => ∃ I53, fr = [(0, .string p0), (39, .bool j51)] ∧ I41.Le I53 ∧ St E w I53 Os)) ?_ ?_))
 refine WO.cb hr1 (fun hc hr1 => ?_) (fun hc hr1 => ?_)
 refine yl 36 hc (ya 4 1 rfl (bsk hr1 fun r60 hx_r55 hr1 => WO.c1 (r09_all_ok  hS50 hx_r55) rfl fun I57 w56 hl58 hS59 => yh 6 39 (.bool r60) ?_))
 obtain rfl := sj hr1
 exact yw ⟨I57, rfl, hl58, hS59⟩
 refine yl 36 hc ?_
 iterate 2 refine yt ?_
 refine yh 6 39 (.bool false) ?_
 obtain rfl := sj hr1
 exact yw ⟨I41, rfl, lr, hS50⟩
 rintro _ w61 ⟨I53, rfl, hl54, hS62⟩
 refine ya 7 1 rfl (bsk hr fun j63 hr1 hr => WO.jw (l1 := [8, 9, 10, 11, 12, 13, 14, 15]) (J := (fun fr w => ∃ I65, fr = [(0, .string p0), (48, .bool j63)] ∧ I53.Le I65 ∧ St E w I65 Os)) ?_ ?_)
 refine WO.cb hr1 (fun hc hr1 => ?_) (fun hc hr1 => ?_)
 refine yl 40 hc (ya 8 3 rfl (bsk hr1 fun j67 hr2 hr1 => WO.jw (l1 := [11, 12, 13, 14]) (J := (fun fr w => ∃ I69, fr = [(0, .string p0), (40, .bool true), (47, .bool j67)] ∧ I53.Le I69 ∧ St E w I69 Os)) ?_ ?_))
 refine WO.cb hr2 (fun hc hr2 => ?_) (fun hc hr2 => ?_)
 refine yl 43 hc ?_
 iterate 3 refine yt ?_
 refine yh 14 47 (.bool true) ?_
 obtain rfl := sj hr2
 exact yw ⟨I53, rfl, lr, hS62⟩
 refine yl 43 hc (ya 11 1 rfl (bsk hr2 fun y71 hx_y71 hr2 => yap rfl (by kernel_rfl) (by kernel_rfl) rfl rfl hx_y71 ?_))
 refine ya 13 1 rfl (yh 14 47 (.bool (y71 != 48)) ?_)
 obtain rfl := sj hr2
 exact yw ⟨I53, rfl, lr, hS62⟩
 rintro _ w72 ⟨I69, rfl, hl70, hS73⟩
 refine yh 15 48 (.bool j67) ?_
 obtain rfl := sj hr1
 exact yw ⟨I69, rfl, hl70, hS73⟩
 refine yl 40 hc ?_
 iterate 7 refine yt ?_
 refine yh 15 48 (.bool false) ?_
 obtain rfl := sj hr1
 exact yw ⟨I53, rfl, lr, hS62⟩
 rintro _ w74 ⟨I65, rfl, hl66, hS75⟩
 refine ya 16 1 rfl (yb (W.cb hr (fun hc hr => ?_) (fun hc hr => ?_)))
 refine yd [0] (ya 0 1 rfl (yb (W.ret (yj (ye ?_)))))
 obtain rfl := sj hr
 exact yu ⟨I65, rfl, le, hS75⟩
 refine yd nL3 (ya 0 1 rfl (bsk hr fun r81 hx_r76 hr => WO.c1 (r09_quoted_ok  hS75 hx_r76) rfl fun I78 w77 hl79 hS80 => ya 2 1 rfl (yb (W.cb hr (fun hc hr => ?_) (fun hc hr => ?_)))))
 refine yd [0] (ya 0 1 rfl (yb (W.ret (yj (ye ?_)))))
 obtain rfl := sj hr
 exact yu ⟨I78, rfl, le, hS80⟩
 refine yd nL19 (ya 0 4 rfl (bsk hr fun j82 hr1 hr => WO.jw (l1 := [4, 5, 6, 7]) (J := (fun fr w => ∃ I84, fr = [(0, .string p0), (60, .bool j82)] ∧ I78.Le I84 ∧ St E w I84 Os)) ?_ ?_))
 refine WO.cb hr1 (fun hc hr1 => ?_) (fun hc hr1 => ?_)
 refine yl 56 hc (ya 4 1 rfl (bsk hr1 fun y86 hx_y86 hr1 => yap rfl (by kernel_rfl) (by kernel_rfl) rfl rfl hx_y86 ?_))
 refine ya 6 1 rfl (yh 7 60 (.bool (y86 == 36)) ?_)
 obtain rfl := sj hr1
 exact yw ⟨I78, rfl, lr, hS80⟩
 refine yl 56 hc ?_
 iterate 3 refine yt ?_
 refine yh 7 60 (.bool false) ?_
 obtain rfl := sj hr1
 exact yw ⟨I78, rfl, lr, hS80⟩
 rintro _ w87 ⟨I84, rfl, hl85, hS88⟩
 refine ya 8 1 rfl (bsk hr fun j89 hr1 hr => WO.jw (l1 := [9, 10, 11, 12]) (J := (fun fr w => ∃ I91, fr = [(0, .string p0), (65, .bool j89)] ∧ I84.Le I91 ∧ St E w I91 Os)) ?_ ?_)
 refine WO.cb hr1 (fun hc hr1 => ?_) (fun hc hr1 => ?_)
 refine yl 61 hc (ya 9 1 rfl (bsk hr1 fun y93 hx_y93 hr1 => yap rfl (by kernel_rfl) (by kernel_rfl) rfl rfl hx_y93 ?_))
 refine ya 11 1 rfl (yh 12 65 (.bool (decide (y93 ≥ 49))) ?_)
 obtain rfl := sj hr1
 exact yw ⟨I84, rfl, lr, hS88⟩
 refine yl 61 hc ?_
 iterate 3 refine yt ?_
 refine yh 12 65 (.bool false) ?_
 obtain rfl := sj hr1
 exact yw ⟨I84, rfl, lr, hS88⟩
 rintro _ w94 ⟨I91, rfl, hl92, hS95⟩
 refine ya 13 1 rfl (bsk hr fun j96 hr1 hr => WO.jw (l1 := [14, 15, 16, 17]) (J := (fun fr w => ∃ I98, fr = [(0, .string p0), (70, .bool j96)] ∧ I91.Le I98 ∧ St E w I98 Os)) ?_ ?_)
 refine WO.cb hr1 (fun hc hr1 => ?_) (fun hc hr1 => ?_)
 refine yl 66 hc (ya 14 1 rfl (bsk hr1 fun y100 hx_y100 hr1 => yap rfl (by kernel_rfl) (by kernel_rfl) rfl rfl hx_y100 ?_))
 refine ya 16 1 rfl (yh 17 70 (.bool (decide (y100 ≤ 54))) ?_)
 obtain rfl := sj hr1
 exact yw ⟨I91, rfl, lr, hS95⟩
 refine yl 66 hc ?_
 iterate 3 refine yt ?_
 refine yh 17 70 (.bool false) ?_
 obtain rfl := sj hr1
 exact yw ⟨I91, rfl, lr, hS95⟩
 rintro _ w101 ⟨I98, rfl, hl99, hS102⟩
 refine ya 18 1 rfl (yb (W.cb hr (fun hc hr => ?_) (fun hc hr => ?_)))
 refine yd [0] (ya 0 1 rfl (yb (W.ret (yj (ye ?_)))))
 obtain rfl := sj hr
 exact yu ⟨I98, rfl, le, hS102⟩
 refine yd nL3 (ya 0 1 rfl (bsk hr fun r108 hx_r103 hr => WO.c1 (r09_sign_ok  hS102 hx_r103) rfl fun I105 w104 hl106 hS107 => ya 2 1 rfl (yb (W.cb hr (fun hc hr => ?_) (fun hc hr => ?_)))))
 refine yd [0] (ya 0 1 rfl (yb (W.ret (yj (ye ?_)))))
 obtain rfl := sj hr
 exact yu ⟨I105, rfl, le, hS107⟩
 refine yi (yk (En.next (yd [0] (ya 0 1 rfl (yb (W.ret ?_))))))
 obtain rfl := sj hr
 exact yu ⟨I105, rfl, le, hS107⟩
noncomputable def r09_IsName (p0 : ByteArray) : Option Bool := (r09_Kind p0).bind (fun r6 => some (r6 == 1))
theorem r09_IsName_ok {p0 : ByteArray} (hS : St E w I Os) {r : Bool} (hr : r09_IsName p0 = some r) :
    Calls P 114 #[(.string p0)] w (fun e w' => ∃ I', e = .returned (.bool r) ∧ I.Le I' ∧ St E w' I' Os) := by
 refine calls_W (fn := Tryz.f114) rfl rfl rfl ?_
 unfold r09_IsName at hr
 refine yd [0] (ya 0 1 rfl (y0 nL4 (ya 0 1 rfl (bsk hr fun r6 hx_r1 hr => WO.c1 (r09_Kind_ok  hS hx_r1) rfl fun I3 w2 hl4 hS5 => ya 2 2 rfl (yb (W.ret ?_))))))
 obtain rfl := sj hr
 exact yu ⟨I3, rfl, hl4, hS5⟩
noncomputable def r18_Check (p0 : List qRole) : Option Int := (bif (decide ((p0.length : Int) > 8)) then some 2 else (forN (fun (i4 : Nat) => fun (_s : Unit) => (idx p0 (i4 : Int)).bind (fun x13 => (r09_IsName x13.Name).bind (fun r19 => ((bif (!r19) then some true else ((bif (decide ((i4 : Int) > 0)) then (idx p0 (w64 ((i4 : Int) - 1))).bind (fun x28 => (idx p0 (i4 : Int)).bind (fun x29 => some (!sLt x28.Name x29.Name))) else some false)).bind (fun (j24 : Bool) => some j24))).bind (fun (j20 : Bool) => (bif j20 then some (.inr (2 : Int)) else (loopO (fun (s39 : Int) => (idx p0 (i4 : Int)).bind (fun x44 => (bif (decide (s39 < (x44.In.length : Int))) then (idx p0 (i4 : Int)).bind (fun x47 => (idx x47.In s39).bind (fun x48 => (r18_At p0 x48).bind (fun r54 => ((bif (decide (r54 < 0)) then some true else ((bif (decide (s39 > 0)) then (idx p0 (i4 : Int)).bind (fun x63 => (idx x63.In (w64 (s39 - 1))).bind (fun x64 => (idx p0 (i4 : Int)).bind (fun x65 => (idx x65.In s39).bind (fun x66 => some (!sLt x64 x66))))) else some false)).bind (fun (j59 : Bool) => some j59))).bind (fun (j55 : Bool) => (bif j55 then some (.inr (.inl (2 : Int))) else some (.inl (w64 (s39 + 1)))))))) else some (.inr (.inr ()))))) 0).bind (fun (t : Int ⊕ Unit) => match t with | (.inl s72) => some (.inr s72) | (.inr ()) => some (.inl ()))))))) p0.length 0 ()).bind (fun (t : Unit ⊕ (Int)) => match t with | .inl _ => (forN (fun (i79 : Nat) => fun (_s : Unit) => (loopO (fun (s89 : Int) => (idx p0 (i79 : Int)).bind (fun x94 => (bif (decide (s89 < (x94.In.length : Int))) then (idx p0 (i79 : Int)).bind (fun x97 => (idx x97.In s89).bind (fun x98 => (idx p0 (i79 : Int)).bind (fun x99 => (r18_Is p0 x98 x99.Name).bind (fun r105 => (bif r105 then some (.inr (.inl (2 : Int))) else some (.inl (w64 (s89 + 1)))))))) else some (.inr (.inr ()))))) 0).bind (fun (t : Int ⊕ Unit) => match t with | (.inl s107) => some (.inr s107) | (.inr ()) => some (.inl ()))) p0.length 0 ()).bind (fun (t : Unit ⊕ (Int)) => match t with | .inl _ => some 0 | .inr s109 => some s109) | .inr s35 => some s35))
theorem r18_Check_ok {p0 : List qRole} {a_p0 : Option Addr} {c_p0 : Nat} (h_p0 : RSl 2 R_qRole I a_p0 c_p0 p0) (hS : St E w I Os) {r : Int} (hr : r18_Check p0 = some r) :
    Calls P 113 #[(Sl a_p0 p0 c_p0)] w (fun e w' => ∃ I', e = .returned (Iv r) ∧ I.Le I' ∧ St E w' I' Os) := by
 refine calls_W (fn := Tryz.f113) rfl rfl rfl ?_
 unfold r18_Check at hr
 refine yd [0] (ya 0 1 rfl (yb (yf (yd nL3 (ya 0 3 rfl (yb (W.cb hr (fun hc hr => ?_) (fun hc hr => ?_))))))))
 refine yd [0] (ya 0 1 rfl (yb (W.ret (ye ?_))))
 obtain rfl := sj hr
 exact yu ⟨I, rfl, lr, hS⟩
 refine yi (En.next (yf (yd [0] (ya 0 1 rfl (yb (W.block (bsk hr fun t1 hloop5 hr => have hlt9 := (h_p0).len_lt; W.wk (W.forN (m := p0.length) hloop5 (fun (i4 : Nat) => fun (_s : Unit) fr w => ∃ I2, fr = [(0, Sl a_p0 p0 c_p0), (3, Nv i4)] ∧ I.Le I2 ∧ St E w I2 Os) ⟨I, rfl, lr, hS⟩ ?_ ?_))))))))
 rintro i4 _ _ w6 hi10 ⟨I2, rfl, hl3, hS7⟩ x8 hr1 hext1
 refine yf (yd nL4 (ya 0 4 rfl (yb (yah fun _ => yi (En.next (yf (W.block (yf (yf (have hS11 := hS7.drew; yat nL25 25 (KR.nil hS11.im) ?_))))))))))
 generalize World.drew _ = w12 at *
 refine ya 0 2 rfl ?_
 obtain ⟨x13, hr1, hb_x13, _, ⟨w_x13, rfl, h_x13⟩, hc_x13⟩ := sl_ix ((RSl.mono h_p0 hl3)) hr1
 refine y3 62 2 hb_x13 rfl (yc 3 1 [0] rfl (yaf hc_x13 (rd_i hS11.im) rfl (bsk hr1 fun r19 hx_r14 hr1 => yab (r09_IsName_ok  hS11 hx_r14) ?_)))
 rintro _ w15 ⟨I16, rfl, hl17, hS18⟩
 refine ⟨_, rfl, (KR.nil (hS18.im.of_le hl17)), ?_⟩
 refine ya 6 2 rfl (bsk hr1 fun j20 hr2 hr1 => WO.jw (l1 := [8, 9, 10, 11, 12, 13, 14, 15, 16, 17, 18, 19, 20, 21, 22, 23, 24]) (J := (fun fr w => ∃ I22, fr = [(0, Sl a_p0 p0 c_p0), (3, Nv i4), (40, .bool j20)] ∧ I16.Le I22 ∧ St E w I22 Os)) ?_ ?_)
 refine WO.cb hr2 (fun hc hr2 => ?_) (fun hc hr2 => ?_)
 refine yl 23 hc ?_
 iterate 16 refine yt ?_
 refine yh 24 40 (.bool true) ?_
 obtain rfl := sj hr2
 exact yw ⟨I16, rfl, lr, hS18⟩
 refine yl 23 hc (ya 8 3 rfl (bsk hr2 fun j24 hr3 hr2 => WO.jw (l1 := [11, 12, 13, 14, 15, 16, 17, 18, 19, 20, 21, 22, 23]) (J := (fun fr w => ∃ I26, fr = [(0, Sl a_p0 p0 c_p0), (3, Nv i4), (23, .bool false), (39, .bool j24)] ∧ I16.Le I26 ∧ St E w I26 Os)) ?_ ?_))
 refine WO.cb hr3 (fun hc hr3 => ?_) (fun hc hr3 => ?_)
 refine yl 26 hc (ya 11 3 rfl ?_)
 obtain ⟨x28, hr3, hb_x28, _, ⟨w_x28, rfl, h_x28⟩, hc_x28⟩ := sl_ix ((RSl.mono h_p0 hl3)) hr3
 refine y3 62 2 hb_x28 rfl (yc 15 1 [0] rfl (yaf hc_x28 (rd_i (hS18.im.of_le hl17)) rfl (ya 17 2 rfl ?_)))
 obtain ⟨x29, hr3, hb_x29, _, ⟨w_x29, rfl, h_x29⟩, hc_x29⟩ := sl_ix ((RSl.mono h_p0 hl3)) hr3
 refine y3 62 2 hb_x29 rfl (yc 20 1 [0] rfl (yaf hc_x29 (rd_i (hS18.im.of_le hl17)) rfl (WO.vs 22 [(38, .bool (!sLt x28.Name x29.Name)), (39, .bool (!sLt x28.Name x29.Name))] ?_)))
 obtain rfl := sj hr3
 exact yw ⟨I16, rfl, lr, hS18⟩
 refine yl 26 hc ?_
 iterate 12 refine yt ?_
 refine yh 23 39 (.bool false) ?_
 obtain rfl := sj hr3
 exact yw ⟨I16, rfl, lr, hS18⟩
 rintro _ w30 ⟨I26, rfl, hl27, hS31⟩
 refine yh 24 40 (.bool j24) ?_
 obtain rfl := sj hr2
 exact yw ⟨I26, rfl, hl27, hS31⟩
 rintro _ w32 ⟨I22, rfl, hl23, hS33⟩
 refine yb (W.cb hr1 (fun hc hr1 => ?_) (fun hc hr1 => ?_))
 refine yd [0] (ya 0 1 rfl (yb (W.ret (ye (yj (ye (yp ?_)))))))
 obtain rfl := hext1 _ (sj hr1).symm
 refine yj (ye ?_)
 obtain rfl := sj hr
 exact yu ⟨I22, rfl, le, hS33⟩
 refine yi (En.next (yd [0] (ya 0 1 rfl (yb (W.block (bsk hr1 fun t36 hloop40 hr1 => W.wk (yau hloop40 (fun (s39 : Int) fr w => ∃ I37, fr = [(0, Sl a_p0 p0 c_p0), (3, Nv i4), (4, Iv s39)] ∧ I22.Le I37 ∧ St E w I37 Os) ⟨I22, rfl, lr, hS33⟩ ?_)))))))
 rintro s39 _ w41 ⟨I37, rfl, hl38, hS42⟩ x43 hr2 hext36
 refine yf (yd nL8 (ya 0 3 rfl ?_))
 obtain ⟨x44, hr2, hb_x44, _, ⟨w_x44, rfl, h_x44⟩, hc_x44⟩ := sl_ix ((RSl.mono h_p0 (((hl3.trans hl17).trans hl23).trans hl38))) hr2
 refine y3 62 2 hb_x44 rfl (yc 4 1 [1] rfl (yal hc_x44 1 hS42.rm rfl (ya 6 2 rfl (yb (W.cb hr2 (fun hc hr2 => ?_) (fun hc hr2 => ?_))))))
 refine yi (En.next (yf (W.block (yf (have hS45 := hS42.drew; yat nL35 35 (KR.nil hS45.im) ?_)))))
 generalize World.drew _ = w46 at *
 refine ya 0 3 rfl ?_
 obtain ⟨x47, hr2, hb_x47, _, ⟨w_x47, rfl, h_x47⟩, hc_x47⟩ := sl_ix ((RSl.mono h_p0 (((hl3.trans hl17).trans hl23).trans hl38))) hr2
 refine y3 62 2 hb_x47 rfl (yc 4 1 [1] rfl (yal hc_x47 1 (rd_i hS45.im) rfl (ya 6 1 rfl ?_)))
 obtain ⟨x48, hr2, hb_x48, _, rfl, hc_x48⟩ := sl_ix (h_x47.In) hr2
 refine y3 9 1 hb_x48 rfl (yaf hc_x48 (rd_i hS45.im) rfl (bsk hr2 fun r54 hx_r49 hr2 => yab (r18_At_ok (RSl.mono h_p0 le) hS45 hx_r49) ?_))
 rintro _ w50 ⟨I51, rfl, hl52, hS53⟩
 refine ⟨_, rfl, (KR.nil (hS53.im.of_le hl52)), ?_⟩
 refine ya 10 2 rfl (bsk hr2 fun j55 hr3 hr2 => WO.jw (l1 := [12, 13, 14, 15, 16, 17, 18, 19, 20, 21, 22, 23, 24, 25, 26, 27, 28, 29, 30, 31, 32, 33, 34]) (J := (fun fr w => ∃ I57, fr = [(0, Sl a_p0 p0 c_p0), (3, Nv i4), (4, Iv s39), (85, .bool j55)] ∧ I51.Le I57 ∧ St E w I57 Os)) ?_ ?_)
 refine WO.cb hr3 (fun hc hr3 => ?_) (fun hc hr3 => ?_)
 refine yl 62 hc ?_
 iterate 22 refine yt ?_
 refine yh 34 85 (.bool true) ?_
 obtain rfl := sj hr3
 exact yw ⟨I51, rfl, lr, hS53⟩
 refine yl 62 hc (ya 12 3 rfl (bsk hr3 fun j59 hr4 hr3 => WO.jw (l1 := [15, 16, 17, 18, 19, 20, 21, 22, 23, 24, 25, 26, 27, 28, 29, 30, 31, 32, 33]) (J := (fun fr w => ∃ I61, fr = [(0, Sl a_p0 p0 c_p0), (3, Nv i4), (4, Iv s39), (62, .bool false), (84, .bool j59)] ∧ I51.Le I61 ∧ St E w I61 Os)) ?_ ?_))
 refine WO.cb hr4 (fun hc hr4 => ?_) (fun hc hr4 => ?_)
 refine yl 65 hc (ya 15 2 rfl ?_)
 obtain ⟨x63, hr4, hb_x63, _, ⟨w_x63, rfl, h_x63⟩, hc_x63⟩ := sl_ix ((RSl.mono h_p0 (((hl3.trans hl17).trans hl23).trans hl38))) hr4
 refine y3 62 2 hb_x63 rfl (yc 18 1 [1] rfl (yal hc_x63 1 (rd_i (hS53.im.of_le hl52)) rfl (ya 20 2 rfl ?_)))
 obtain ⟨x64, hr4, hb_x64, _, rfl, hc_x64⟩ := sl_ix (h_x63.In) hr4
 refine y3 9 1 hb_x64 rfl (yaf hc_x64 (rd_i (hS53.im.of_le hl52)) rfl (ya 24 2 rfl ?_))
 obtain ⟨x65, hr4, hb_x65, _, ⟨w_x65, rfl, h_x65⟩, hc_x65⟩ := sl_ix ((RSl.mono h_p0 (((hl3.trans hl17).trans hl23).trans hl38))) hr4
 refine y3 62 2 hb_x65 rfl (yc 27 1 [1] rfl (yal hc_x65 1 (rd_i (hS53.im.of_le hl52)) rfl (ya 29 1 rfl ?_)))
 obtain ⟨x66, hr4, hb_x66, _, rfl, hc_x66⟩ := sl_ix (h_x65.In) hr4
 refine y3 9 1 hb_x66 rfl (yaf hc_x66 (rd_i (hS53.im.of_le hl52)) rfl (WO.vs 32 [(83, .bool (!sLt x64 x66)), (84, .bool (!sLt x64 x66))] ?_))
 obtain rfl := sj hr4
 exact yw ⟨I51, rfl, lr, hS53⟩
 refine yl 65 hc ?_
 iterate 18 refine yt ?_
 refine yh 33 84 (.bool false) ?_
 obtain rfl := sj hr4
 exact yw ⟨I51, rfl, lr, hS53⟩
 rintro _ w67 ⟨I61, rfl, hl62, hS68⟩
 refine yh 34 85 (.bool j59) ?_
 obtain rfl := sj hr3
 exact yw ⟨I61, rfl, hl62, hS68⟩
 rintro _ w69 ⟨I57, rfl, hl58, hS70⟩
 refine yb (W.cb hr2 (fun hc hr2 => ?_) (fun hc hr2 => ?_))
 refine yd [0] (ya 0 1 rfl (yb (W.ret (yj (ye (yp ?_))))))
 obtain rfl := hext36 _ (sj hr2).symm
 refine yj (yj (ye (yp ?_)))
 obtain rfl := hext1 _ (sj hr1).symm
 refine yj (ye ?_)
 obtain rfl := sj hr
 exact yu ⟨I57, rfl, le, hS70⟩
 exact yi (yk (En.next (yaa nL3 (ya 0 3 rfl (WO.nil (yq ⟨(w64 (s39 + 1)), (sj hr2).symm, I57, rfl, le, hS70⟩))))))
 refine yz (ym (yn ?_))
 obtain rfl := hext36 _ (sj hr2).symm
 exact yo (yk (En.next (yaa nL3 (ya 0 1 rfl (yae i4 rfl (ya 2 1 rfl (WO.nil (yq ⟨(), (sj hr1).symm, I37, rfl, le, hS42⟩))))))))
 rintro _ _ w74 ⟨I2, rfl, hl3, hS75⟩ he
 cases he
 refine yf (yd nL4 (ya 0 4 rfl (yb (yai fun _ => yz (ym (yn (yo (En.next (yf (yd [0] (ya 0 1 rfl (yb (W.block (bsk hr fun t76 hloop80 hr => have hlt84 := ((RSl.mono h_p0 hl3)).len_lt; W.wk (W.forN (m := p0.length) hloop80 (fun (i79 : Nat) => fun (_s : Unit) fr w => ∃ I77, fr = [(0, Sl a_p0 p0 c_p0), (5, Nv i79)] ∧ I2.Le I77 ∧ St E w I77 Os) ⟨I2, rfl, lr, hS75⟩ ?_ ?_)))))))))))))))
 rintro i79 _ _ w81 hi85 ⟨I77, rfl, hl78, hS82⟩ x83 hr1 hext76
 refine yf (yd nL4 (ya 0 4 rfl (yb (yah fun _ => yi (En.next (yf (W.block (yd [0] (ya 0 1 rfl (yb (W.block (bsk hr1 fun t86 hloop90 hr1 => W.wk (yau hloop90 (fun (s89 : Int) fr w => ∃ I87, fr = [(0, Sl a_p0 p0 c_p0), (5, Nv i79), (6, Iv s89)] ∧ I77.Le I87 ∧ St E w I87 Os) ⟨I77, rfl, lr, hS82⟩ ?_)))))))))))))
 rintro s89 _ w91 ⟨I87, rfl, hl88, hS92⟩ x93 hr2 hext86
 refine yf (yd nL8 (ya 0 3 rfl ?_))
 obtain ⟨x94, hr2, hb_x94, _, ⟨w_x94, rfl, h_x94⟩, hc_x94⟩ := sl_ix ((RSl.mono h_p0 ((hl3.trans hl78).trans hl88))) hr2
 refine y3 62 2 hb_x94 rfl (yc 4 1 [1] rfl (yal hc_x94 1 hS92.rm rfl (ya 6 2 rfl (yb (W.cb hr2 (fun hc hr2 => ?_) (fun hc hr2 => ?_))))))
 refine yi (En.next (yf (W.block (yf (have hS95 := hS92.drew; yat nL15 14 (KR.nil hS95.im) ?_)))))
 generalize World.drew _ = w96 at *
 refine ya 0 3 rfl ?_
 obtain ⟨x97, hr2, hb_x97, _, ⟨w_x97, rfl, h_x97⟩, hc_x97⟩ := sl_ix ((RSl.mono h_p0 ((hl3.trans hl78).trans hl88))) hr2
 refine y3 62 2 hb_x97 rfl (yc 4 1 [1] rfl (yal hc_x97 1 (rd_i hS95.im) rfl (ya 6 1 rfl ?_)))
 obtain ⟨x98, hr2, hb_x98, _, rfl, hc_x98⟩ := sl_ix (h_x97.In) hr2
 refine y3 9 1 hb_x98 rfl (yaf hc_x98 (rd_i hS95.im) rfl (ya 9 2 rfl ?_))
 obtain ⟨x99, hr2, hb_x99, _, ⟨w_x99, rfl, h_x99⟩, hc_x99⟩ := sl_ix ((RSl.mono h_p0 ((hl3.trans hl78).trans hl88))) hr2
 refine y3 62 2 hb_x99 rfl (yc 12 1 [0] rfl (yaf hc_x99 (rd_i hS95.im) rfl (WO.tail rfl (bsk hr2 fun r105 hx_r100 hr2 => WO.c1 (r18_Is_ok (RSl.mono h_p0 le) hS95 hx_r100) rfl fun I102 w101 hl103 hS104 => yb (W.cb hr2 (fun hc hr2 => ?_) (fun hc hr2 => ?_))))))
 refine yd [0] (ya 0 1 rfl (yb (W.ret (yj (ye (yp ?_))))))
 obtain rfl := hext86 _ (sj hr2).symm
 refine yj (yj (ye (yp ?_)))
 obtain rfl := hext76 _ (sj hr1).symm
 refine yj (ye ?_)
 obtain rfl := sj hr
 exact yu ⟨I102, rfl, le, hS104⟩
 exact yi (yk (En.next (yaa nL3 (ya 0 3 rfl (WO.nil (yq ⟨(w64 (s89 + 1)), (sj hr2).symm, I102, rfl, le, hS104⟩))))))
 refine yz (ym (yn ?_))
 obtain rfl := hext86 _ (sj hr2).symm
 exact yo (yk (En.next (yaa nL3 (ya 0 1 rfl (yae i79 rfl (ya 2 1 rfl (WO.nil (yq ⟨(), (sj hr1).symm, I87, rfl, le, hS92⟩))))))))
 rintro _ _ w111 ⟨I77, rfl, hl78, hS112⟩ he
 cases he
 refine yf (yd nL4 (ya 0 4 rfl (yb (yai fun _ => yz (ym (yn (yo (En.next (yd [0] (ya 0 1 rfl (yb (W.ret ?_))))))))))))
 obtain rfl := sj hr
 exact yu ⟨I77, rfl, le, hS112⟩
noncomputable def r18_Create (p0 : List qRole) (p1 : ByteArray) : Option ((List qRole) × Int) := (r18_Check p0).bind (fun r6 => (bif (r6 != 0) then some (([] : List qRole), r6) else (r09_IsName p1).bind (fun r12 => (bif (!r12) then some (([] : List qRole), 18) else (r18_At p0 p1).bind (fun r18 => (bif (decide (r18 ≥ 0)) then some (([] : List qRole), 19) else (bif ((p0.length : Int) == 8) then some (([] : List qRole), 5) else (loopO (fun (s22 : Int) => ((bif (decide (s22 < (p0.length : Int))) then (idx p0 s22).bind (fun x31 => some (sLt x31.Name p1)) else some false)).bind (fun (j27 : Bool) => (bif j27 then some (.inl (w64 (s22 + 1))) else some (.inr s22)))) 0).bind (fun (s35 : Int) => (sub p0 0 s35).bind (fun x36 => (app 40 ([] : List qRole) x36).bind (fun x39 => (app 40 x39 ([{ z_qRole with Name := p1 }] : List qRole)).bind (fun x55 => (sub p0 s35 (p0.length : Int)).bind (fun x64 => (app 40 x55 x64).bind (fun x65 => some (x65, 0))))))))))))))
theorem r18_Create_ok {p0 : List qRole} {p1 : ByteArray} {a_p0 : Option Addr} {c_p0 : Nat} (h_p0 : RSl 2 R_qRole I a_p0 c_p0 p0) (hS : St E w I Os) {r : (List qRole) × Int} (hr : r18_Create p0 p1 = some r) :
    Calls P 69 #[(Sl a_p0 p0 c_p0), (.string p1)] w (fun e w' => ∃ (I' : Mem) (ra0 : Option Addr) (rc0 : Nat), e = .returned (.tuple #[(Sl ra0 r.1 rc0), (Iv r.2)]) ∧ I.Le I' ∧ St E w' I' Os ∧ RSl 2 R_qRole I' ra0 rc0 r.1) := by
 refine calls_W (fn := Tryz.f69) rfl rfl rfl ?_
 unfold r18_Create at hr
 refine yd nL2 (yh 0 4 (.slice none 0 0) (ya 1 1 rfl (y0 nL3 (ya 0 1 rfl (bsk hr fun r6 hx_r1 hr => WO.c1 (r18_Check_ok h_p0 hS hx_r1) rfl fun I3 w2 hl4 hS5 => ya 2 1 rfl (yb (yf (yd nL2 (ya 0 2 rfl (yb (W.cb hr (fun hc hr => ?_) (fun hc hr => ?_))))))))))))
 refine yd nL3 (ya 0 1 rfl (yh 1 4 (.slice none 0 0) (ya 2 1 rfl (yb (W.ret (ye ?_))))))
 obtain rfl := sj hr
 exact yam ⟨I3, none, 0, rfl, hl4, hS5, SlAt.nil⟩
 refine yi (En.next (yf (yd nL3 (ya 0 1 rfl (bsk hr fun r12 hx_r7 hr => WO.c1 (r09_IsName_ok  hS5 hx_r7) rfl fun I9 w8 hl10 hS11 => ya 2 1 rfl (yb (W.cb hr (fun hc hr => ?_) (fun hc hr => ?_))))))))
 refine yd nL2 (yh 0 4 (.slice none 0 0) (ya 1 1 rfl (yb (W.ret (ye ?_)))))
 obtain rfl := sj hr
 exact yam ⟨I9, none, 0, rfl, le, hS11, SlAt.nil⟩
 refine yi (En.next (yf (yd nL4 (ya 0 2 rfl (bsk hr fun r18 hx_r13 hr => WO.c1 (r18_At_ok (RSl.mono h_p0 le) hS11 hx_r13) rfl fun I15 w14 hl16 hS17 => ya 3 1 rfl (yb (W.cb hr (fun hc hr => ?_) (fun hc hr => ?_))))))))
 refine yd nL2 (yh 0 4 (.slice none 0 0) (ya 1 1 rfl (yb (W.ret (ye ?_)))))
 obtain rfl := sj hr
 exact yam ⟨I15, none, 0, rfl, le, hS17, SlAt.nil⟩
 refine yi (En.next (yf (yd nL3 (ya 0 3 rfl (yb (W.cb hr (fun hc hr => ?_) (fun hc hr => ?_)))))))
 refine yd nL2 (yh 0 4 (.slice none 0 0) (ya 1 1 rfl (yb (W.ret (ye ?_)))))
 obtain rfl := sj hr
 exact yam ⟨I15, none, 0, rfl, le, hS17, SlAt.nil⟩
 refine yi (En.next (yd [0] (ya 0 1 rfl (yb (yf (W.block (bsk hr fun t19 hloop23 hr => W.wk (yau hloop23 (fun (s22 : Int) fr w => ∃ I20, fr = [(0, Sl a_p0 p0 c_p0), (1, .string p1), (7, Iv s22)] ∧ I15.Le I20 ∧ St E w I20 Os) ⟨I15, rfl, lr, hS17⟩ ?_))))))))
 rintro s22 _ w24 ⟨I20, rfl, hl21, hS25⟩ x26 hr1 hext19
 refine yf (yd nL13 (ya 0 5 rfl (bsk hr1 fun j27 hr2 hr1 => WO.jw (l1 := [5, 6, 7, 8, 9, 10, 11, 12]) (J := (fun fr w => ∃ I29, fr = [(0, Sl a_p0 p0 c_p0), (1, .string p1), (7, Iv s22), (36, .bool j27)] ∧ I20.Le I29 ∧ St E w I29 Os)) ?_ ?_)))
 refine WO.cb hr2 (fun hc hr2 => ?_) (fun hc hr2 => ?_)
 refine yl 28 hc (ya 5 2 rfl ?_)
 obtain ⟨x31, hr2, hb_x31, _, ⟨w_x31, rfl, h_x31⟩, hc_x31⟩ := sl_ix ((RSl.mono h_p0 (((hl4.trans hl10).trans hl16).trans hl21))) hr2
 refine y3 62 2 hb_x31 rfl (yc 8 1 [0] rfl (yaf hc_x31 hS25.rm rfl (ya 10 1 rfl (WO.vs 11 [(35, .bool (sLt x31.Name p1)), (36, .bool (sLt x31.Name p1))] ?_))))
 obtain rfl := sj hr2
 exact yw ⟨I20, rfl, lr, hS25⟩
 refine yl 28 hc ?_
 iterate 7 refine yt ?_
 refine yh 12 36 (.bool false) ?_
 obtain rfl := sj hr2
 exact yw ⟨I20, rfl, lr, hS25⟩
 rintro _ w32 ⟨I29, rfl, hl30, hS33⟩
 refine yb (W.cb hr1 (fun hc hr1 => ?_) (fun hc hr1 => ?_))
 exact yi (En.next (W.block (yaa nL3 (ya 0 3 rfl (WO.nil (yk (yq ⟨(w64 (s22 + 1)), (sj hr1).symm, I29, rfl, le, hS33⟩)))))))
 refine yz (ym (yn ?_))
 obtain rfl := hext19 _ (sj hr1).symm
 refine yo (En.next (yd [0] (yh 0 8 (.slice none 0 0) (y0 nL6 (ya 0 3 rfl ?_)))))
 obtain ⟨x76, hx_x76, hr⟩ := bsm hr
 obtain ⟨h0_x76, h1_x76, h2_x76, he_x76⟩ := sub_some hx_x76
 have hl_x76 : (s22 : Int) ≤ (c_p0 : Int) := Int.le_trans h2_x76 (Int.ofNat_le.2 ((RSl.mono h_p0 ((((hl4.trans hl10).trans hl16).trans hl21).trans hl30))).le)
 refine WO.slice (e := 62) (sz := 2) rfl (by kernel_rfl) (by kernel_rfl) (by kernel_rfl) rfl (0 : Int) (s22 : Int) h0_x76 (.inl ⟨rfl, rfl⟩) (.inr ⟨_, _, rfl, rfl⟩) h1_x76 hl_x76 ?_
 obtain ⟨a_x76, c_x76, h_x76, ev_x76⟩ := sub_ok ((RSl.mono h_p0 ((((hl4.trans hl10).trans hl16).trans hl21).trans hl30))) h0_x76 h1_x76 h2_x76 he_x76
 refine y7 42 rfl ev_x76 ?_
 have hS78 := hS33.no
 obtain ⟨x79, hx_x79, hr⟩ := bsm hr
 obtain ⟨h0_x79, he_x79⟩ := app_some hx_x79
 refine WO.append (e' := 62) (b := 40) (zs := (cs_qRole z_qRole zw_qRole).toArray) hS78 (OwnSl.nil (T := 62) (rel := R_qRole) (I := I29)) rfl (by kernel_rfl) rfl (by kernel_rfl) (by kernel_rfl) (by kernel_rfl) rfl rfl rfl rfl h_x76 hS78.im h0_x79 he_x79 (fun _ _ _ => trivial) ?_
 intro a80 c81 w82 C83 hS84 ho85
 refine ya 5 1 rfl (y0 nL6 (ya 0 2 rfl (yh 2 46 (.agg (cs_qRole ({ z_qRole with Name := p1 }) zw_qRole).toArray) ?_)))
 have hk93 : ok_qRole I29 ({ z_qRole with Name := p1 }) zw_qRole := ⟨SlAt.nil⟩
 refine y4 (rel := R_qRole) (xs := ([{ z_qRole with Name := p1 }] : List qRole)) hS84 rfl (by kernel_rfl) rfl 62 2 [(cs_qRole ({ z_qRole with Name := p1 }) zw_qRole)] (by kernel_rfl) rfl ((Elr.cons ⟨zw_qRole, rfl, hk93⟩ Elr.nil)) (fun _ _ _ => trivial) ?_
 intro a89 C87 w91 hS90 ho88
 have hS94 := hS90.front1
 obtain ⟨x95, hx_x95, hr⟩ := bsm hr
 obtain ⟨h0_x95, he_x95⟩ := app_some hx_x95
 refine yaj 62 40 (cs_qRole z_qRole zw_qRole) hS94 ho85 ho88.sl (hS94.rd m1) h0_x95 he_x95 rfl fun a96 c97 w98 C99 hS100 ho101 => have hS103 := hS100.front1.drop; ya 5 1 rfl (y0 nL7 (ya 0 3 rfl ?_))
 obtain ⟨x104, hx_x104, hr⟩ := bsm hr
 obtain ⟨h0_x104, h1_x104, h2_x104, he_x104⟩ := sub_some hx_x104
 have hl_x104 : ((p0.length : Int) : Int) ≤ (c_p0 : Int) := Int.le_trans h2_x104 (Int.ofNat_le.2 ((RSl.mono h_p0 ((((hl4.trans hl10).trans hl16).trans hl21).trans hl30))).le)
 refine WO.slice (e := 62) (sz := 2) rfl (by kernel_rfl) (by kernel_rfl) (by kernel_rfl) rfl (s22 : Int) ((p0.length : Int) : Int) h0_x104 (.inr ⟨_, _, rfl, rfl⟩) (.inl ⟨rfl, rfl⟩) h1_x104 hl_x104 ?_
 obtain ⟨a_x104, c_x104, h_x104, ev_x104⟩ := sub_ok ((RSl.mono h_p0 ((((hl4.trans hl10).trans hl16).trans hl21).trans hl30))) h0_x104 h1_x104 h2_x104 he_x104
 refine y7 52 rfl ev_x104 ?_
 obtain ⟨x105, hx_x105, hr⟩ := bsm hr
 obtain ⟨h0_x105, he_x105⟩ := app_some hx_x105
 refine yaj 62 40 (cs_qRole z_qRole zw_qRole) hS103 ho101 h_x104 hS103.im h0_x105 he_x105 rfl ?_
 intro a106 c107 w108 C109 hS110 ho111
 obtain ⟨I112, hl113, hS115, hp114⟩ := y6 ho111 hS110
 refine ya 5 2 rfl (yb (W.ret ?_))
 obtain rfl := sj hr
 exact yam ⟨I112, a106, c107, rfl, le, hS115, hp114⟩
def r18_turned (p0 : List qRole) (p1 : Int) (p2 : List ByteArray) : Option (List qRole) := (app 40 ([] : List qRole) p0).bind (fun x3 => (idx x3 p1).bind (fun x10 => some (x3.set (p1).toNat ({ x10 with In := p2 }))))
theorem r18_turned_ok {p0 : List qRole} {p1 : Int} {p2 : List ByteArray} {a_p0 : Option Addr} {c_p0 : Nat} {a_p2 : Option Addr} {c_p2 : Nat} (h_p0 : RSl 2 R_qRole I a_p0 c_p0 p0) (h_p2 : RSl 1 RStr I a_p2 c_p2 p2) (hS : St E w I Os) {r : (List qRole)} (hr : r18_turned p0 p1 p2 = some r) :
    Calls P 115 #[(Sl a_p0 p0 c_p0), (Iv p1), (Sl a_p2 p2 c_p2)] w (fun e w' => ∃ (I' : Mem) (ra0 : Option Addr) (rc0 : Nat), e = .returned (Sl ra0 r rc0) ∧ I.Le I' ∧ St E w' I' Os ∧ RSl 2 R_qRole I' ra0 rc0 r) := by
 refine calls_W (fn := Tryz.f115) rfl rfl rfl ?_
 unfold r18_turned at hr
 refine yd [0] (yh 0 6 (.slice none 0 0) (y0 [0] (yh 0 7 (.slice none 0 0) (y0 nL4 (ya 0 2 rfl ?_)))))
 have hS2 := hS.no
 obtain ⟨x3, hx_x3, hr⟩ := bsm hr
 obtain ⟨h0_x3, he_x3⟩ := app_some hx_x3
 refine WO.append (e' := 62) (b := 40) (zs := (cs_qRole z_qRole zw_qRole).toArray) hS2 (OwnSl.nil (T := 62) (rel := R_qRole) (I := I)) rfl (by kernel_rfl) rfl (by kernel_rfl) (by kernel_rfl) (by kernel_rfl) rfl rfl rfl rfl h_p0 hS2.im h0_x3 he_x3 (fun _ _ _ => trivial) ?_
 intro a4 c5 w6 C7 hS8 ho9
 refine ya 3 1 rfl (y0 nL6 (ya 0 3 rfl ?_))
 obtain ⟨x10, hr, h0_x10, h1_x10, hx_x10, ha_x10, _, _, ⟨w_x10, rfl, h_x10⟩, hc_x10⟩ := sl_at (ho9.sl) hr
 refine yaq 62 2 ha_x10 h0_x10 h1_x10 ?_
 refine yc 4 1 [1] rfl ?_
 have hk15 : ok_qRole I ({ x10 with In := p2 }) (⟨⟨a_p2, c_p2⟩⟩ : W_qRole) := ⟨h_p2⟩
 refine yas hS8 ho9 rfl (by kernel_rfl) rfl hx_x10 (u' := { x10 with In := p2 }) 1 rfl rfl (by kernel_rfl) rfl rfl (fun cs hrel => (by obtain ⟨w_zz, rfl, h_zz⟩ := hrel; exact ⟨{ w_zz with In := ⟨a_p2, c_p2⟩ }, rfl, { h_zz with In := h_p2 }⟩)) (fun _ _ _ => trivial) ?_
 intro w12 C13 hS11 ho14
 refine y7 7 rfl (show Value.slice a4 x3.length c5 = Value.slice a4 (x3.set (p1).toNat ({ x10 with In := p2 })).length c5 by simp only [List.length_set]) ?_
 refine y0 nL2 (ya 0 1 rfl ?_)
 obtain ⟨I16, hl17, hS19, hp18⟩ := y6 ho14 hS11
 refine ya 1 1 rfl (yb (W.ret ?_))
 obtain rfl := sj hr
 exact yu ⟨I16, a4, c5, rfl, hl17, hS19, hp18⟩
noncomputable def r18_Grant (p0 : List qRole) (p1 : ByteArray) (p2 : ByteArray) : Option ((List qRole) × Int) := (r18_Check p0).bind (fun r6 => (bif (r6 != 0) then some (([] : List qRole), r6) else (r18_At p0 p2).bind (fun r12 => ((bif (decide (r12 < 0)) then some true else (r18_At p0 p1).bind (fun r22 => some (decide (r22 < 0))))).bind (fun (j13 : Bool) => (bif j13 then some (([] : List qRole), 4) else (idx p0 r12).bind (fun x25 => (r14_Has x25.In p1).bind (fun r31 => (bif r31 then some (([] : List qRole), 19) else (r18_Is p0 p1 p2).bind (fun r37 => (bif r37 then some (([] : List qRole), 35) else (idx p0 r12).bind (fun x38 => (r18_into x38.In p1).bind (fun r44 => (r18_turned p0 r12 r44).bind (fun r50 => some (r50, 0))))))))))))))
theorem r18_Grant_ok {p0 : List qRole} {p1 : ByteArray} {p2 : ByteArray} {a_p0 : Option Addr} {c_p0 : Nat} (h_p0 : RSl 2 R_qRole I a_p0 c_p0 p0) (hS : St E w I Os) {r : (List qRole) × Int} (hr : r18_Grant p0 p1 p2 = some r) :
    Calls P 70 #[(Sl a_p0 p0 c_p0), (.string p1), (.string p2)] w (fun e w' => ∃ (I' : Mem) (ra0 : Option Addr) (rc0 : Nat), e = .returned (.tuple #[(Sl ra0 r.1 rc0), (Iv r.2)]) ∧ I.Le I' ∧ St E w' I' Os ∧ RSl 2 R_qRole I' ra0 rc0 r.1) := by
 refine calls_W (fn := Tryz.f70) rfl rfl rfl ?_
 unfold r18_Grant at hr
 refine yd nL2 (yh 0 6 (.slice none 0 0) (ya 1 1 rfl (y0 nL3 (ya 0 1 rfl (bsk hr fun r6 hx_r1 hr => WO.c1 (r18_Check_ok h_p0 hS hx_r1) rfl fun I3 w2 hl4 hS5 => ya 2 1 rfl (yb (yf (yd nL2 (ya 0 2 rfl (yb (W.cb hr (fun hc hr => ?_) (fun hc hr => ?_))))))))))))
 refine yd nL3 (ya 0 1 rfl (yh 1 6 (.slice none 0 0) (ya 2 1 rfl (yb (W.ret (ye ?_))))))
 obtain rfl := sj hr
 exact yam ⟨I3, none, 0, rfl, hl4, hS5, SlAt.nil⟩
 refine yi (En.next (yd nL4 (ya 0 2 rfl (bsk hr fun r12 hx_r7 hr => WO.c1 (r18_At_ok (RSl.mono h_p0 hl4) hS5 hx_r7) rfl fun I9 w8 hl10 hS11 => ya 3 1 rfl (yb (yf (yd nL8 (ya 0 3 rfl (bsk hr fun j13 hr1 hr => WO.jw (l1 := [3, 4, 5, 6, 7]) (J := (fun fr w => ∃ I15, fr = [(0, Sl a_p0 p0 c_p0), (1, .string p1), (2, .string p2), (9, Iv r12), (25, .bool j13)] ∧ I9.Le I15 ∧ St E w I15 Os)) ?_ ?_)))))))))
 refine WO.cb hr1 (fun hc hr1 => ?_) (fun hc hr1 => ?_)
 refine yl 20 hc ?_
 iterate 4 refine yt ?_
 refine yh 7 25 (.bool true) ?_
 obtain rfl := sj hr1
 exact yw ⟨I9, rfl, lr, hS11⟩
 refine yl 20 hc (ya 3 2 rfl (bsk hr1 fun r22 hx_r17 hr1 => WO.c1 (r18_At_ok (RSl.mono h_p0 le) hS11 hx_r17) rfl fun I19 w18 hl20 hS21 => ya 6 1 rfl (yh 7 25 (.bool (decide (r22 < 0))) ?_)))
 obtain rfl := sj hr1
 exact yw ⟨I19, rfl, hl20, hS21⟩
 rintro _ w23 ⟨I15, rfl, hl16, hS24⟩
 refine yb (W.cb hr (fun hc hr => ?_) (fun hc hr => ?_))
 refine yd nL2 (yh 0 6 (.slice none 0 0) (ya 1 1 rfl (yb (W.ret (ye ?_)))))
 obtain rfl := sj hr
 exact yam ⟨I15, none, 0, rfl, le, hS24, SlAt.nil⟩
 refine yi (En.next (yf (yd nL7 (ya 0 2 rfl ?_))))
 obtain ⟨x25, hr, hb_x25, _, ⟨w_x25, rfl, h_x25⟩, hc_x25⟩ := sl_ix ((RSl.mono h_p0 ((hl4.trans hl10).trans hl16))) hr
 refine y3 62 2 hb_x25 rfl (yc 3 1 [1] rfl (yal hc_x25 1 hS24.rm rfl (ya 5 1 rfl (bsk hr fun r31 hx_r26 hr => WO.c1 (r14_Has_ok h_x25.In hS24 hx_r26) rfl fun I28 w27 hl29 hS30 => yb (W.cb hr (fun hc hr => ?_) (fun hc hr => ?_))))))
 refine yd nL2 (yh 0 6 (.slice none 0 0) (ya 1 1 rfl (yb (W.ret (ye ?_)))))
 obtain rfl := sj hr
 exact yam ⟨I28, none, 0, rfl, le, hS30, SlAt.nil⟩
 refine yi (En.next (yf (yd nL4 (ya 0 3 rfl (bsk hr fun r37 hx_r32 hr => WO.c1 (r18_Is_ok (RSl.mono h_p0 le) hS30 hx_r32) rfl fun I34 w33 hl35 hS36 => yb (W.cb hr (fun hc hr => ?_) (fun hc hr => ?_)))))))
 refine yd nL2 (yh 0 6 (.slice none 0 0) (ya 1 1 rfl (yb (W.ret (ye ?_)))))
 obtain rfl := sj hr
 exact yam ⟨I34, none, 0, rfl, le, hS36, SlAt.nil⟩
 refine yi (En.next (yd nL12 (ya 0 4 rfl ?_)))
 obtain ⟨x38, hr, hb_x38, _, ⟨w_x38, rfl, h_x38⟩, hc_x38⟩ := sl_ix ((RSl.mono h_p0 ((((hl4.trans hl10).trans hl16).trans hl29).trans hl35))) hr
 refine y3 62 2 hb_x38 rfl (yc 5 1 [1] rfl (yal hc_x38 1 hS36.rm rfl (ya 7 1 rfl (bsk hr fun r44 hx_r39 hr => yab (r18_into_ok h_x38.In hS36 hx_r39) ?_))))
 rintro _ w40 ⟨I41, a_r44, c_r44, rfl, hl42, hS43, h_r44⟩
 refine ⟨_, rfl, trivial, ?_⟩
 refine bsk hr fun r50 hx_r45 hr => yab (r18_turned_ok (RSl.mono h_p0 le) h_r44 hS43 hx_r45) ?_
 rintro _ w46 ⟨I47, a_r50, c_r50, rfl, hl48, hS49, h_r50⟩
 refine ⟨_, rfl, trivial, ?_⟩
 refine ya 10 2 rfl (yb (W.ret ?_))
 obtain rfl := sj hr
 exact yam ⟨I47, a_r50, c_r50, rfl, le, hS49, h_r50⟩
def r18_without (p0 : List ByteArray) (p1 : ByteArray) : Option (List ByteArray) := (forE (fun (i5 : Nat) => fun (s4 : List ByteArray) => (idx p0 (i5 : Int)).bind (fun x14 => ((bif (!sEq x14 p1) then (idx p0 (i5 : Int)).bind (fun x19 => (app 16 s4 ([x19] : List ByteArray)).bind (fun x28 => some x28)) else some s4)).bind (fun (j15 : List ByteArray) => some j15))) p0.length 0 ([] : List ByteArray)).bind (fun s4 => some s4)
theorem r18_without_ok {p0 : List ByteArray} {p1 : ByteArray} {a_p0 : Option Addr} {c_p0 : Nat} (h_p0 : RSl 1 RStr I a_p0 c_p0 p0) (hS : St E w I Os) {r : (List ByteArray)} (hr : r18_without p0 p1 = some r) :
    Calls P 116 #[(Sl a_p0 p0 c_p0), (.string p1)] w (fun e w' => ∃ (I' : Mem) (ra0 : Option Addr) (rc0 : Nat), e = .returned (Sl ra0 r rc0) ∧ I.Le I' ∧ St E w' I' Os ∧ RSl 1 RStr I' ra0 rc0 r) := by
 refine calls_W (fn := Tryz.f116) rfl rfl rfl ?_
 unfold r18_without at hr
 refine yd [0] (yh 0 4 (.slice none 0 0) (y0 [0] (yh 0 5 (.slice none 0 0) (yb (yf (yd [0] (ya 0 1 rfl (yb (W.block (bsk hr fun s4 hloop6 hr => have hlt12 := (h_p0).len_lt; W.wk (W.forE (m := p0.length) hloop6 (fun (i5 : Nat) => fun (s4 : List ByteArray) fr w => ∃ I2 a_s4 c_s4 C_s4, fr = [(0, Sl a_p0 p0 c_p0), (1, .string p1), (5, Sl a_s4 s4 c_s4), (6, Nv i5)] ∧ I.Le I2 ∧ St E w I2 ((C_s4) :: Os) ∧ OwnSl 9 1 RStr I2 C_s4 a_s4 c_s4 s4) ⟨I, none, 0, Mem.no, rfl, lr, hS.no, OwnSl.nil⟩ ?_ ?_)))))))))))
 rintro i5 s4 _ w9 hi13 ⟨I2, a_s4, c_s4, C_s4, rfl, hl3, hS10, h_s4⟩ x11 hr1
 refine yf (yd nL4 (ya 0 4 rfl (yb (yah fun _ => yi (En.next (yf (W.block (yd nL6 (ya 0 2 rfl ?_)))))))))
 obtain ⟨x14, hr1, hb_x14, _, rfl, hc_x14⟩ := sl_ix ((RSl.mono h_p0 hl3)) hr1
 refine y3 9 1 hb_x14 rfl (yaf hc_x14 hS10.rm rfl (ya 4 2 rfl (yb (bsk hr1 fun j15 hr2 hr1 => W.jw (J := (fun fr w => ∃ I17 a_j15 c_j15 C_j15, fr = [(0, Sl a_p0 p0 c_p0), (1, .string p1), (5, Sl a_j15 j15 c_j15), (6, Nv i5)] ∧ I2.Le I17 ∧ St E w I17 ((C_j15) :: Os) ∧ OwnSl 9 1 RStr I17 C_j15 a_j15 c_j15 j15)) ?_ ?_))))
 refine W.cb hr2 (fun hc hr2 => ?_) (fun hc hr2 => ?_)
 refine yaa nL8 (ya 0 3 rfl ?_)
 obtain ⟨x19, hr2, hb_x19, _, rfl, hc_x19⟩ := sl_ix ((RSl.mono h_p0 hl3)) hr2
 refine y3 9 1 hb_x19 rfl (yaf hc_x19 hS10.rm rfl (y4 (rel := RStr) (xs := ([x19] : List ByteArray)) hS10 rfl (by kernel_rfl) rfl 9 1 [[(.string x19)]] (by kernel_rfl) rfl ((Elr.cons rfl Elr.nil)) (fun _ _ _ => trivial) ?_))
 intro a23 C21 w25 hS24 ho22
 have hS27 := hS24.front1
 obtain ⟨x28, hx_x28, hr2⟩ := bsm hr2
 obtain ⟨h0_x28, he_x28⟩ := app_some hx_x28
 refine yaj 9 16 [(.string (⟨#[]⟩ : ByteArray))] hS27 h_s4 ho22.sl (hS27.rd m1) h0_x28 he_x28 rfl fun a29 c30 w31 C32 hS33 ho34 => ya 7 1 rfl (WO.nil ?_)
 obtain rfl := sj hr2
 exact yq ⟨I2, a29, c30, C32, rfl, lr, hS33.front1.drop, ho34⟩
 refine yi ?_
 obtain rfl := sj hr2
 exact yq ⟨I2, a_s4, c_s4, C_s4, rfl, lr, hS10, h_s4⟩
 rintro _ w37 ⟨I17, a_j15, c_j15, C_j15, rfl, hl18, hS38, h_j15⟩
 refine yk (En.next (yaa nL3 (ya 0 1 rfl (yae i5 rfl (ya 2 1 rfl (WO.nil ?_))))))
 obtain rfl := sj hr1
 exact yq ⟨I17, a_j15, c_j15, C_j15, rfl, le, hS38, h_j15⟩
 rintro _ w39 ⟨I2, a_s4, c_s4, C_s4, rfl, hl3, hS40, h_s4⟩
 refine yf (yd nL4 (ya 0 4 rfl (yb (yai fun _ => yz (ym (yn (yo (En.next (yd nL2 (ya 0 1 rfl ?_))))))))))
 obtain ⟨I41, hl42, hS44, hp43⟩ := y6 h_s4 hS40
 refine ya 1 1 rfl (yb (W.ret ?_))
 obtain rfl := sj hr
 exact yu ⟨I41, a_s4, c_s4, rfl, le, hS44, hp43⟩
noncomputable def r18_Revoke (p0 : List qRole) (p1 : ByteArray) (p2 : ByteArray) : Option ((List qRole) × Int) := (r18_Check p0).bind (fun r6 => (bif (r6 != 0) then some (([] : List qRole), r6) else (r18_At p0 p2).bind (fun r12 => ((bif (decide (r12 < 0)) then some true else (idx p0 r12).bind (fun x17 => (r14_Has x17.In p1).bind (fun r23 => some (!r23))))).bind (fun (j13 : Bool) => (bif j13 then some (([] : List qRole), 4) else (idx p0 r12).bind (fun x26 => (r18_without x26.In p1).bind (fun r32 => (r18_turned p0 r12 r32).bind (fun r38 => some (r38, 0)))))))))
theorem r18_Revoke_ok {p0 : List qRole} {p1 : ByteArray} {p2 : ByteArray} {a_p0 : Option Addr} {c_p0 : Nat} (h_p0 : RSl 2 R_qRole I a_p0 c_p0 p0) (hS : St E w I Os) {r : (List qRole) × Int} (hr : r18_Revoke p0 p1 p2 = some r) :
    Calls P 71 #[(Sl a_p0 p0 c_p0), (.string p1), (.string p2)] w (fun e w' => ∃ (I' : Mem) (ra0 : Option Addr) (rc0 : Nat), e = .returned (.tuple #[(Sl ra0 r.1 rc0), (Iv r.2)]) ∧ I.Le I' ∧ St E w' I' Os ∧ RSl 2 R_qRole I' ra0 rc0 r.1) := by
 refine calls_W (fn := Tryz.f71) rfl rfl rfl ?_
 unfold r18_Revoke at hr
 refine yd nL2 (yh 0 6 (.slice none 0 0) (ya 1 1 rfl (y0 nL3 (ya 0 1 rfl (bsk hr fun r6 hx_r1 hr => WO.c1 (r18_Check_ok h_p0 hS hx_r1) rfl fun I3 w2 hl4 hS5 => ya 2 1 rfl (yb (yf (yd nL2 (ya 0 2 rfl (yb (W.cb hr (fun hc hr => ?_) (fun hc hr => ?_))))))))))))
 refine yd nL3 (ya 0 1 rfl (yh 1 6 (.slice none 0 0) (ya 2 1 rfl (yb (W.ret (ye ?_))))))
 obtain rfl := sj hr
 exact yam ⟨I3, none, 0, rfl, hl4, hS5, SlAt.nil⟩
 refine yi (En.next (yd nL4 (ya 0 2 rfl (bsk hr fun r12 hx_r7 hr => WO.c1 (r18_At_ok (RSl.mono h_p0 hl4) hS5 hx_r7) rfl fun I9 w8 hl10 hS11 => ya 3 1 rfl (yb (yf (yd nL12 (ya 0 3 rfl (bsk hr fun j13 hr1 hr => WO.jw (l1 := [3, 4, 5, 6, 7, 8, 9, 10, 11]) (J := (fun fr w => ∃ I15, fr = [(0, Sl a_p0 p0 c_p0), (1, .string p1), (9, Iv r12), (29, .bool j13)] ∧ I9.Le I15 ∧ St E w I15 Os)) ?_ ?_)))))))))
 refine WO.cb hr1 (fun hc hr1 => ?_) (fun hc hr1 => ?_)
 refine yl 20 hc ?_
 iterate 8 refine yt ?_
 refine yh 11 29 (.bool true) ?_
 obtain rfl := sj hr1
 exact yw ⟨I9, rfl, lr, hS11⟩
 refine yl 20 hc (ya 3 2 rfl ?_)
 obtain ⟨x17, hr1, hb_x17, _, ⟨w_x17, rfl, h_x17⟩, hc_x17⟩ := sl_ix ((RSl.mono h_p0 (hl4.trans hl10))) hr1
 refine y3 62 2 hb_x17 rfl (yc 6 1 [1] rfl (yal hc_x17 1 hS11.rm rfl (ya 8 1 rfl (bsk hr1 fun r23 hx_r18 hr1 => WO.c1 (r14_Has_ok h_x17.In hS11 hx_r18) rfl fun I20 w19 hl21 hS22 => ya 10 1 rfl (yh 11 29 (.bool (!r23)) ?_)))))
 obtain rfl := sj hr1
 exact yw ⟨I20, rfl, hl21, hS22⟩
 rintro _ w24 ⟨I15, rfl, hl16, hS25⟩
 refine yb (W.cb hr (fun hc hr => ?_) (fun hc hr => ?_))
 refine yd nL2 (yh 0 6 (.slice none 0 0) (ya 1 1 rfl (yb (W.ret (ye ?_)))))
 obtain rfl := sj hr
 exact yam ⟨I15, none, 0, rfl, le, hS25, SlAt.nil⟩
 refine yi (En.next (yd nL12 (ya 0 4 rfl ?_)))
 obtain ⟨x26, hr, hb_x26, _, ⟨w_x26, rfl, h_x26⟩, hc_x26⟩ := sl_ix ((RSl.mono h_p0 ((hl4.trans hl10).trans hl16))) hr
 refine y3 62 2 hb_x26 rfl (yc 5 1 [1] rfl (yal hc_x26 1 hS25.rm rfl (ya 7 1 rfl (bsk hr fun r32 hx_r27 hr => yab (r18_without_ok h_x26.In hS25 hx_r27) ?_))))
 rintro _ w28 ⟨I29, a_r32, c_r32, rfl, hl30, hS31, h_r32⟩
 refine ⟨_, rfl, trivial, ?_⟩
 refine bsk hr fun r38 hx_r33 hr => yab (r18_turned_ok (RSl.mono h_p0 le) h_r32 hS31 hx_r33) ?_
 rintro _ w34 ⟨I35, a_r38, c_r38, rfl, hl36, hS37, h_r38⟩
 refine ⟨_, rfl, trivial, ?_⟩
 refine ya 10 2 rfl (yb (W.ret ?_))
 obtain rfl := sj hr
 exact yam ⟨I35, a_r38, c_r38, rfl, le, hS37, h_r38⟩
noncomputable def r18_Drop (p0 : List qRole) (p1 : ByteArray) : Option ((List qRole) × Int) := (r18_Check p0).bind (fun r6 => (bif (r6 != 0) then some (([] : List qRole), r6) else (r18_At p0 p1).bind (fun r12 => (bif (decide (r12 < 0)) then some (([] : List qRole), 4) else (bif (sEq p1 (⟨#[114, 111, 111, 116]⟩ : ByteArray)) then some (([] : List qRole), 34) else (forE (fun (i17 : Nat) => fun (s16 : List qRole) => (idx p0 (i17 : Int)).bind (fun x26 => ((bif (!sEq x26.Name p1) then (idx p0 (i17 : Int)).bind (fun x33 => (idx p0 (i17 : Int)).bind (fun x34 => (r18_without x34.In p1).bind (fun r40 => (app 40 s16 ([{ x33 with In := r40 }] : List qRole)).bind (fun x50 => some x50)))) else some s16)).bind (fun (j27 : List qRole) => some j27))) p0.length 0 ([] : List qRole)).bind (fun s16 => some (s16, 0)))))))
theorem r18_Drop_ok {p0 : List qRole} {p1 : ByteArray} {a_p0 : Option Addr} {c_p0 : Nat} (h_p0 : RSl 2 R_qRole I a_p0 c_p0 p0) (hS : St E w I Os) {r : (List qRole) × Int} (hr : r18_Drop p0 p1 = some r) :
    Calls P 72 #[(Sl a_p0 p0 c_p0), (.string p1)] w (fun e w' => ∃ (I' : Mem) (ra0 : Option Addr) (rc0 : Nat), e = .returned (.tuple #[(Sl ra0 r.1 rc0), (Iv r.2)]) ∧ I.Le I' ∧ St E w' I' Os ∧ RSl 2 R_qRole I' ra0 rc0 r.1) := by
 refine calls_W (fn := Tryz.f72) rfl rfl rfl ?_
 unfold r18_Drop at hr
 refine yd nL2 (yh 0 4 (.slice none 0 0) (ya 1 1 rfl (y0 nL3 (ya 0 1 rfl (bsk hr fun r6 hx_r1 hr => WO.c1 (r18_Check_ok h_p0 hS hx_r1) rfl fun I3 w2 hl4 hS5 => ya 2 1 rfl (yb (yf (yd nL2 (ya 0 2 rfl (yb (W.cb hr (fun hc hr => ?_) (fun hc hr => ?_))))))))))))
 refine yd nL3 (ya 0 1 rfl (yh 1 4 (.slice none 0 0) (ya 2 1 rfl (yb (W.ret (ye ?_))))))
 obtain rfl := sj hr
 exact yam ⟨I3, none, 0, rfl, hl4, hS5, SlAt.nil⟩
 refine yi (En.next (yf (yd nL4 (ya 0 2 rfl (bsk hr fun r12 hx_r7 hr => WO.c1 (r18_At_ok (RSl.mono h_p0 hl4) hS5 hx_r7) rfl fun I9 w8 hl10 hS11 => ya 3 1 rfl (yb (W.cb hr (fun hc hr => ?_) (fun hc hr => ?_))))))))
 refine yd nL2 (yh 0 4 (.slice none 0 0) (ya 1 1 rfl (yb (W.ret (ye ?_)))))
 obtain rfl := sj hr
 exact yam ⟨I9, none, 0, rfl, le, hS11, SlAt.nil⟩
 refine yi (En.next (yf (yd nL2 (ya 0 2 rfl (yb (W.cb hr (fun hc hr => ?_) (fun hc hr => ?_)))))))
 refine yd nL2 (yh 0 4 (.slice none 0 0) (ya 1 1 rfl (yb (W.ret (ye ?_)))))
 obtain rfl := sj hr
 exact yam ⟨I9, none, 0, rfl, le, hS11, SlAt.nil⟩
 refine yi (En.next (yd [0] (yh 0 7 (.slice none 0 0) (yb (yf (yd [0] (ya 0 1 rfl (yb (W.block (bsk hr fun s16 hloop18 hr => have hlt24 := ((RSl.mono h_p0 (hl4.trans hl10))).len_lt; W.wk (W.forE (m := p0.length) hloop18 (fun (i17 : Nat) => fun (s16 : List qRole) fr w => ∃ I14 a_s16 c_s16 C_s16, fr = [(0, Sl a_p0 p0 c_p0), (1, .string p1), (7, Sl a_s16 s16 c_s16), (8, Nv i17)] ∧ I9.Le I14 ∧ St E w I14 ((C_s16) :: Os) ∧ OwnSl 62 2 R_qRole I14 C_s16 a_s16 c_s16 s16) ⟨I9, none, 0, Mem.no, rfl, lr, hS11.no, OwnSl.nil⟩ ?_ ?_)))))))))))
 rintro i17 s16 _ w21 hi25 ⟨I14, a_s16, c_s16, C_s16, rfl, hl15, hS22, h_s16⟩ x23 hr1
 refine yf (yd nL4 (ya 0 4 rfl (yb (yah fun _ => yi (En.next (yf (W.block (yd nL7 (ya 0 2 rfl ?_)))))))))
 obtain ⟨x26, hr1, hb_x26, _, ⟨w_x26, rfl, h_x26⟩, hc_x26⟩ := sl_ix ((RSl.mono h_p0 ((hl4.trans hl10).trans hl15))) hr1
 refine y3 62 2 hb_x26 rfl (yc 3 1 [0] rfl (yaf hc_x26 hS22.rm rfl (ya 5 2 rfl (yb (bsk hr1 fun j27 hr2 hr1 => W.jw (J := (fun fr w => ∃ I29 a_j27 c_j27 C_j27, fr = [(0, Sl a_p0 p0 c_p0), (1, .string p1), (7, Sl a_j27 j27 c_j27), (8, Nv i17)] ∧ I14.Le I29 ∧ St E w I29 ((C_j27) :: Os) ∧ OwnSl 62 2 R_qRole I29 C_j27 a_j27 c_j27 j27)) ?_ ?_)))))
 refine W.cb hr2 (fun hc hr2 => ?_) (fun hc hr2 => ?_)
 have hS31 := hS22.drew
 refine yat nL17 13 (KR.nil hS31.im) ?_
 generalize World.drew _ = w32 at *
 refine ya 0 3 rfl ?_
 obtain ⟨x33, hr2, hb_x33, _, ⟨w_x33, rfl, h_x33⟩, hc_x33⟩ := sl_ix ((RSl.mono h_p0 ((hl4.trans hl10).trans hl15))) hr2
 refine y3 62 2 hb_x33 rfl (yc 4 1 [0] rfl (yaf hc_x33 (rd_i hS31.im) rfl (ya 6 2 rfl ?_)))
 obtain ⟨x34, hr2, hb_x34, _, ⟨w_x34, rfl, h_x34⟩, hc_x34⟩ := sl_ix ((RSl.mono h_p0 ((hl4.trans hl10).trans hl15))) hr2
 refine y3 62 2 hb_x34 rfl (yc 9 1 [1] rfl (yal hc_x34 1 (rd_i hS31.im) rfl (ya 11 1 rfl (bsk hr2 fun r40 hx_r35 hr2 => yab (r18_without_ok h_x34.In hS31 hx_r35) ?_))))
 rintro _ w36 ⟨I37, a_r40, c_r40, rfl, hl38, hS39, h_r40⟩
 refine ⟨_, rfl, (KR.nil (hS39.im.of_le hl38)), ?_⟩
 refine WO.tail rfl (yh 13 46 (.agg (cs_qRole ({ x33 with In := r40 }) (⟨⟨a_r40, c_r40⟩⟩ : W_qRole)).toArray) ?_)
 have hk48 : ok_qRole I37 ({ x33 with In := r40 }) (⟨⟨a_r40, c_r40⟩⟩ : W_qRole) := ⟨h_r40⟩
 refine y4 (rel := R_qRole) (xs := ([{ x33 with In := r40 }] : List qRole)) hS39 rfl (by kernel_rfl) rfl 62 2 [(cs_qRole ({ x33 with In := r40 }) (⟨⟨a_r40, c_r40⟩⟩ : W_qRole))] (by kernel_rfl) rfl ((Elr.cons ⟨(⟨⟨a_r40, c_r40⟩⟩ : W_qRole), rfl, hk48⟩ Elr.nil)) (fun _ _ _ => trivial) ?_
 intro a44 C42 w46 hS45 ho43
 have hS49 := hS45.front1
 obtain ⟨x50, hx_x50, hr2⟩ := bsm hr2
 obtain ⟨h0_x50, he_x50⟩ := app_some hx_x50
 refine yaj 62 40 (cs_qRole z_qRole zw_qRole) hS49 (OwnSl.mono h_s16 hl38) ho43.sl (hS49.rd m1) h0_x50 he_x50 rfl fun a51 c52 w53 C54 hS55 ho56 => ya 16 1 rfl (WO.nil ?_)
 obtain rfl := sj hr2
 exact yq ⟨I37, a51, c52, C54, rfl, hl38, hS55.front1.drop, ho56⟩
 refine yi ?_
 obtain rfl := sj hr2
 exact yq ⟨I14, a_s16, c_s16, C_s16, rfl, lr, hS22, h_s16⟩
 rintro _ w59 ⟨I29, a_j27, c_j27, C_j27, rfl, hl30, hS60, h_j27⟩
 refine yk (En.next (yaa nL3 (ya 0 1 rfl (yae i17 rfl (ya 2 1 rfl (WO.nil ?_))))))
 obtain rfl := sj hr1
 exact yq ⟨I29, a_j27, c_j27, C_j27, rfl, le, hS60, h_j27⟩
 rintro _ w61 ⟨I14, a_s16, c_s16, C_s16, rfl, hl15, hS62, h_s16⟩
 refine yf (yd nL4 (ya 0 4 rfl (yb (yai fun _ => yz (ym (yn (yo (En.next (yd nL3 (ya 0 1 rfl ?_))))))))))
 obtain ⟨I63, hl64, hS66, hp65⟩ := y6 h_s16 hS62
 refine ya 1 2 rfl (yb (W.ret ?_))
 obtain rfl := sj hr
 exact yam ⟨I63, a_s16, c_s16, rfl, le, hS66, hp65⟩
noncomputable def r19_roles (p0 : qCatalog) (p1 : qStmt) : Option ((List qRole) × Int) := (bif (p1.Kind == 10) then (r18_Create p0.Roles p1.Name).bind (fun (r14, r15) => some (r14, r15)) else (bif (p1.Kind == 12) then (r18_Grant p0.Roles p1.Name p1.Role).bind (fun (r23, r24) => some (r23, r24)) else (bif (p1.Kind == 13) then (r18_Revoke p0.Roles p1.Name p1.Role).bind (fun (r32, r33) => some (r32, r33)) else (forN (fun (i39 : Nat) => fun (_s : Unit) => (idx p0.Tables (i39 : Int)).bind (fun x49 => (bif (sEq x49.Owner p1.Name) then some (.inr (([] : List qRole), (34 : Int))) else some (.inl ())))) p0.Tables.length 0 ()).bind (fun (t : Unit ⊕ (((List qRole) × Int))) => match t with | .inl _ => (r18_Drop p0.Roles p1.Name).bind (fun (r64, r65) => some (r64, r65)) | .inr (s51, s52) => some (s51, s52)))))
theorem r19_roles_ok {p0 : qCatalog} {p1 : qStmt} {w_p0 : W_qCatalog} {w_p1 : W_qStmt} (h_p0 : ok_qCatalog I p0 w_p0) (h_p1 : ok_qStmt I p1 w_p1) (hS : St E w I Os) {r : (List qRole) × Int} (hr : r19_roles p0 p1 = some r) :
    Calls P 38 #[(.agg (cs_qCatalog p0 w_p0).toArray), (.agg (cs_qStmt p1 w_p1).toArray)] w (fun e w' => ∃ (I' : Mem) (ra0 : Option Addr) (rc0 : Nat), e = .returned (.tuple #[(Sl ra0 r.1 rc0), (Iv r.2)]) ∧ I.Le I' ∧ St E w' I' Os ∧ RSl 2 R_qRole I' ra0 rc0 r.1) := by
 refine calls_W (fn := Tryz.f38) rfl rfl rfl ?_
 unfold r19_roles at hr
 refine yd nL4 (yy hS (cs_qCatalog p0 w_p0) 29 rfl fun b1 w4 hS3 => yy hS3 (cs_qStmt p1 w_p1) 44 rfl fun b5 w8 hS7 => yh 2 4 (.slice none 0 0) (ya 3 1 rfl (yb (yf (yd nL2 (yc 0 1 [0] rfl (yg (hS7.rf m0) rfl (yb (W.block (yd nL2 (ya 0 2 rfl (yb (W.cb hr (fun hc hr => ?_) (fun hc hr => ?_))))))))))))))
 refine yd nL9 (yc 0 1 [2] rfl (yg (hS7.rf m1) rfl (yc 2 1 [2] rfl (yg (hS7.rf m0) rfl ?_))))
 obtain ⟨⟨r14, r15⟩, hx_r9, hr⟩ := bsm hr
 refine yab (r18_Create_ok h_p0.Roles hS7 hx_r9) ?_
 rintro _ w10 ⟨I11, a_r14, c_r14, rfl, hl12, hS13, h_r14⟩
 refine ⟨_, rfl, trivial, ?_⟩
 refine ya 5 4 rfl (yb (W.ret (yj (ye ?_))))
 obtain rfl := sj hr
 exact yam ⟨I11, a_r14, c_r14, rfl, hl12, hS13.drop.drop, h_r14⟩
 refine yd nL2 (ya 0 2 rfl (yb (W.cb hr (fun hc hr => ?_) (fun hc hr => ?_))))
 refine yd nL11 (yc 0 1 [2] rfl (yg (hS7.rf m1) rfl (yc 2 1 [2] rfl (yg (hS7.rf m0) rfl (yc 4 1 [3] rfl (yg (hS7.rf m0) rfl ?_))))))
 obtain ⟨⟨r23, r24⟩, hx_r18, hr⟩ := bsm hr
 refine yab (r18_Grant_ok h_p0.Roles hS7 hx_r18) ?_
 rintro _ w19 ⟨I20, a_r23, c_r23, rfl, hl21, hS22, h_r23⟩
 refine ⟨_, rfl, trivial, ?_⟩
 refine ya 7 4 rfl (yb (W.ret (yj (ye ?_))))
 obtain rfl := sj hr
 exact yam ⟨I20, a_r23, c_r23, rfl, hl21, hS22.drop.drop, h_r23⟩
 refine yd nL2 (ya 0 2 rfl (yb (W.cb hr (fun hc hr => ?_) (fun hc hr => ?_))))
 refine yd nL11 (yc 0 1 [2] rfl (yg (hS7.rf m1) rfl (yc 2 1 [2] rfl (yg (hS7.rf m0) rfl (yc 4 1 [3] rfl (yg (hS7.rf m0) rfl ?_))))))
 obtain ⟨⟨r32, r33⟩, hx_r27, hr⟩ := bsm hr
 refine yab (r18_Revoke_ok h_p0.Roles hS7 hx_r27) ?_
 rintro _ w28 ⟨I29, a_r32, c_r32, rfl, hl30, hS31, h_r32⟩
 refine ⟨_, rfl, trivial, ?_⟩
 refine ya 7 4 rfl (yb (W.ret (yj (ye ?_))))
 obtain rfl := sj hr
 exact yam ⟨I29, a_r32, c_r32, rfl, hl30, hS31.drop.drop, h_r32⟩
 refine yi (yk (En.next (yf (yd [0] (ya 0 1 rfl (yb (W.block (bsk hr fun t36 hloop40 hr => have hlt45 := (h_p0.Tables).len_lt; W.wk (W.forN (m := p0.Tables.length) hloop40 (fun (i39 : Nat) => fun (_s : Unit) fr w => ∃ I37, fr = [(2, Pt b1 0), (3, Pt b5 0), (6, Nv i39)] ∧ I.Le I37 ∧ St E w I37 ((Bx b1 (cs_qCatalog p0 w_p0) 29) :: (Bx b5 (cs_qStmt p1 w_p1) 44) :: Os)) ⟨I, rfl, lr, hS7.front1⟩ ?_ ?_)))))))))
 rintro i39 _ _ w42 hi46 ⟨I37, rfl, hl38, hS43⟩ x44 hr1 hext36
 refine yf (yd nL5 (yc 0 2 [1] rfl (yg (hS43.rf m0) rfl (ya 3 2 rfl (yb (yah fun _ => yi (En.next (yf (W.block (yf (have hS47 := hS43.drew; yat nL9 8 (KR.cons (hS47.rd m0) (KR.cons (hS47.rd m1) (KR.nil hS47.im))) ?_)))))))))))
 generalize World.drew _ = w48 at *
 refine yc 0 1 [1] rfl (yg (rd_c m0 (hS47.rd m0)) rfl (ya 2 1 rfl ?_))
 obtain ⟨x49, hr1, hb_x49, _, ⟨w_x49, rfl, h_x49⟩, hc_x49⟩ := sl_ix ((RSl.mono h_p0.Tables hl38)) hr1
 refine y3 89 6 hb_x49 rfl (yc 4 1 [1] rfl (yal hc_x49 1 (rd_i hS47.im) rfl (yc 6 1 [2] rfl (yg (rd_c m1 (hS47.rd m1)) rfl (WO.tail rfl (ya 8 1 rfl (yb (W.cb hr1 (fun hc hr1 => ?_) (fun hc hr1 => ?_)))))))))
 refine yd nL2 (yh 0 4 (.slice none 0 0) (ya 1 1 rfl (yb (W.ret (yj (ye (yp ?_)))))))
 obtain rfl := hext36 _ (sj hr1).symm
 refine yj (ye ?_)
 obtain rfl := sj hr
 exact yam ⟨I37, none, 0, rfl, hl38, hS47.drop.drop, SlAt.nil⟩
 exact yi (yk (En.next (yaa nL3 (ya 0 1 rfl (yae i39 rfl (ya 2 1 rfl (WO.nil (yq ⟨(), (sj hr1).symm, I37, rfl, hl38, hS47⟩))))))))
 rintro _ _ w57 ⟨I37, rfl, hl38, hS58⟩ he
 cases he
 refine yf (yd nL5 (yc 0 2 [1] rfl (yg (hS58.rf m0) rfl (ya 3 2 rfl (yb (yai fun _ => yz (ym (yn (yo (En.next (yd nL9 (yc 0 1 [2] rfl (yg (hS58.rf m0) rfl (yc 2 1 [2] rfl (yg (hS58.rf m1) rfl ?_)))))))))))))))
 obtain ⟨⟨r64, r65⟩, hx_r59, hr⟩ := bsm hr
 refine yab (r18_Drop_ok (RSl.mono h_p0.Roles hl38) hS58 hx_r59) ?_
 rintro _ w60 ⟨I61, a_r64, c_r64, rfl, hl62, hS63, h_r64⟩
 refine ⟨_, rfl, trivial, ?_⟩
 refine ya 5 4 rfl (yb (W.ret ?_))
 obtain rfl := sj hr
 exact yam ⟨I61, a_r64, c_r64, rfl, le, hS63.drop.drop, h_r64⟩
def r17_At (p0 : qCatalog) (p1 : ByteArray) : Option Int := (forN (fun (i8 : Nat) => fun (_s : Unit) => (idx p0.Tables (i8 : Int)).bind (fun x15 => (bif (sEq x15.Name p1) then some (.inr (i8 : Int)) else some (.inl ())))) p0.Tables.length 0 ()).bind (fun (t : Unit ⊕ (Int)) => match t with | .inl _ => some (-1) | .inr s17 => some s17)
theorem r17_At_ok {p0 : qCatalog} {p1 : ByteArray} {w_p0 : W_qCatalog} (h_p0 : ok_qCatalog I p0 w_p0) (hS : St E w I Os) {r : Int} (hr : r17_At p0 p1 = some r) :
    Calls P 45 #[(.agg (cs_qCatalog p0 w_p0).toArray), (.string p1)] w (fun e w' => ∃ I', e = .returned (Iv r) ∧ I.Le I' ∧ St E w' I' Os) := by
 refine calls_W (fn := Tryz.f45) rfl rfl rfl ?_
 unfold r17_At at hr
 refine yd nL2 (yy hS (cs_qCatalog p0 w_p0) 29 rfl fun b1 w4 hS3 => ya 1 1 rfl (yb (yf (yd [0] (ya 0 1 rfl (yb (W.block (bsk hr fun t5 hloop9 hr => have hlt13 := (h_p0.Tables).len_lt; W.wk (W.forN (m := p0.Tables.length) hloop9 (fun (i8 : Nat) => fun (_s : Unit) fr w => ∃ I6, fr = [(1, .string p1), (2, Pt b1 0), (5, Nv i8)] ∧ I.Le I6 ∧ St E w I6 ((Bx b1 (cs_qCatalog p0 w_p0) 29) :: Os)) ⟨I, rfl, lr, hS3⟩ ?_ ?_)))))))))
 rintro i8 _ _ w10 hi14 ⟨I6, rfl, hl7, hS11⟩ x12 hr1 hext5
 refine yf (yd nL5 (yc 0 2 [1] rfl (yg (hS11.rf m0) rfl (ya 3 2 rfl (yb (yah fun _ => yi (En.next (yf (W.block (yd nL8 (yc 0 1 [1] rfl (yg (hS11.rf m0) rfl (ya 2 1 rfl ?_)))))))))))))
 obtain ⟨x15, hr1, hb_x15, _, ⟨w_x15, rfl, h_x15⟩, hc_x15⟩ := sl_ix ((RSl.mono h_p0.Tables hl7)) hr1
 refine y3 89 6 hb_x15 rfl (yc 4 1 [0] rfl (yaf hc_x15 hS11.rm rfl (ya 6 2 rfl (yb (W.cb hr1 (fun hc hr1 => ?_) (fun hc hr1 => ?_))))))
 refine yd nL2 (ya 0 2 rfl (yb (W.ret (yj (ye (yp ?_))))))
 obtain rfl := hext5 _ (sj hr1).symm
 refine yj (ye ?_)
 obtain rfl := sj hr
 exact yu ⟨I6, rfl, hl7, hS11.drop⟩
 exact yi (yk (En.next (yaa nL3 (ya 0 1 rfl (yae i8 rfl (ya 2 1 rfl (WO.nil (yq ⟨(), (sj hr1).symm, I6, rfl, hl7, hS11⟩))))))))
 rintro _ _ w20 ⟨I6, rfl, hl7, hS21⟩ he
 cases he
 refine yf (yd nL5 (yc 0 2 [1] rfl (yg (hS21.rf m0) rfl (ya 3 2 rfl (yb (yai fun _ => yz (ym (yn (yo (En.next (yd [0] (ya 0 1 rfl (yb (W.ret ?_))))))))))))))
 obtain rfl := sj hr
 exact yu ⟨I6, rfl, hl7, hS21.drop⟩
noncomputable def r19_Owns (p0 : qCatalog) (p1 : ByteArray) (p2 : ByteArray) : Option Bool := (r17_At p0 p2).bind (fun r10 => ((bif (decide (r10 ≥ 0)) then (idx p0.Tables r10).bind (fun x17 => (r18_Is p0.Roles p1 x17.Owner).bind (fun r23 => some r23)) else some false)).bind (fun (j13 : Bool) => some j13))
theorem r19_Owns_ok {p0 : qCatalog} {p1 : ByteArray} {p2 : ByteArray} {w_p0 : W_qCatalog} (h_p0 : ok_qCatalog I p0 w_p0) (hS : St E w I Os) {r : Bool} (hr : r19_Owns p0 p1 p2 = some r) :
    Calls P 22 #[(.agg (cs_qCatalog p0 w_p0).toArray), (.string p1), (.string p2)] w (fun e w' => ∃ I', e = .returned (.bool r) ∧ I.Le I' ∧ St E w' I' Os) := by
 refine calls_W (fn := Tryz.f22) rfl rfl rfl ?_
 unfold r19_Owns at hr
 refine yd nL2 (yy hS (cs_qCatalog p0 w_p0) 29 rfl fun b1 w4 hS3 => ya 1 1 rfl (y0 nL4 (yv ((cs_qCatalog p0 w_p0)) (hS3.rf m0) rfl (ya 1 1 rfl (bsk hr fun r10 hx_r5 hr => WO.c1 (r17_At_ok h_p0 hS3 hx_r5) rfl fun I7 w6 hl8 hS9 => ya 3 1 rfl (yb (yf (have hS11 := hS9.drew; yat nL15 14 (KR.cons (hS11.rd m0) (KR.nil hS11.im)) ?_))))))))
 generalize World.drew _ = w12 at *
 refine ya 0 3 rfl (bsk hr fun j13 hr1 hr => WO.jw (l1 := [3, 4, 5, 6, 7, 8, 9, 10, 11, 12, 13]) (J := (fun fr w => ∃ I15, fr = [(24, .bool j13)] ∧ I7.Le I15 ∧ St E w I15 ((Bx b1 (cs_qCatalog p0 w_p0) 29) :: Os))) ?_ ?_)
 refine WO.cb hr1 (fun hc hr1 => ?_) (fun hc hr1 => ?_)
 refine yl 13 hc (yc 3 1 [2] rfl (yg (rd_c m0 (hS11.rd m0)) rfl (yc 5 2 [1] rfl (yg (rd_c m0 (hS11.rd m0)) rfl (ya 8 1 rfl ?_)))))
 obtain ⟨x17, hr1, hb_x17, _, ⟨w_x17, rfl, h_x17⟩, hc_x17⟩ := sl_ix ((RSl.mono h_p0.Tables hl8)) hr1
 refine y3 89 6 hb_x17 rfl (yc 10 1 [1] rfl (yal hc_x17 1 (rd_i hS11.im) rfl (bsk hr1 fun r23 hx_r18 hr1 => yab (r18_Is_ok (RSl.mono h_p0.Roles hl8) hS11 hx_r18) ?_)))
 rintro _ w19 ⟨I20, rfl, hl21, hS22⟩
 refine ⟨_, rfl, (KR.cons (hS22.rd m0) (KR.nil (hS22.im.of_le hl21))), ?_⟩
 refine yh 13 24 (.bool r23) ?_
 obtain rfl := sj hr1
 exact yw ⟨I20, rfl, hl21, hS22⟩
 refine yl 13 hc ?_
 iterate 10 refine yt ?_
 refine yh 13 24 (.bool false) ?_
 obtain rfl := sj hr1
 exact yw ⟨I7, rfl, lr, hS11⟩
 rintro _ w24 ⟨I15, rfl, hl16, hS25⟩
 refine WO.tail rfl (ya 14 1 rfl (yb (W.ret ?_)))
 obtain rfl := sj hr
 exact yu ⟨I15, rfl, le, hS25.drop⟩
noncomputable def r19_has (p0 : qCatalog) (p1 : List qGrant) (p2 : ByteArray) (p3 : Int) (p4 : ByteArray) (p5 : Bool) : Option Bool := (forN (fun (i8 : Nat) => fun (_s : Unit) => (idx p1 (i8 : Int)).bind (fun x17 => ((bif (x17.Priv == p3) then (idx p1 (i8 : Int)).bind (fun x22 => some (sEq x22.Table p4)) else some false)).bind (fun (j18 : Bool) => ((bif j18 then (idx p1 (i8 : Int)).bind (fun x29 => some (x29.Option || (!p5))) else some false)).bind (fun (j25 : Bool) => ((bif j25 then (idx p1 (i8 : Int)).bind (fun x38 => (r18_Is p0.Roles p2 x38.To).bind (fun r44 => some r44)) else some false)).bind (fun (j34 : Bool) => (bif j34 then some (.inr true) else some (.inl ()))))))) p1.length 0 ()).bind (fun (t : Unit ⊕ (Bool)) => match t with | .inl _ => some false | .inr s48 => some s48)
theorem r19_has_ok {p0 : qCatalog} {p1 : List qGrant} {p2 : ByteArray} {p3 : Int} {p4 : ByteArray} {p5 : Bool} {w_p0 : W_qCatalog} {a_p1 : Option Addr} {c_p1 : Nat} (h_p0 : ok_qCatalog I p0 w_p0) (h_p1 : RSl 5 R_qGrant I a_p1 c_p1 p1) (hS : St E w I Os) {r : Bool} (hr : r19_has p0 p1 p2 p3 p4 p5 = some r) :
    Calls P 46 #[(.agg (cs_qCatalog p0 w_p0).toArray), (Sl a_p1 p1 c_p1), (.string p2), (Iv p3), (.string p4), (.bool p5)] w (fun e w' => ∃ I', e = .returned (.bool r) ∧ I.Le I' ∧ St E w' I' Os) := by
 refine calls_W (fn := Tryz.f46) rfl rfl rfl ?_
 unfold r19_has at hr
 refine yd nL2 (yy hS (cs_qCatalog p0 w_p0) 29 rfl fun b1 w4 hS3 => ya 1 1 rfl (yb (yf (yd [0] (ya 0 1 rfl (yb (W.block (bsk hr fun t5 hloop9 hr => have hlt13 := (h_p1).len_lt; W.wk (W.forN (m := p1.length) hloop9 (fun (i8 : Nat) => fun (_s : Unit) fr w => ∃ I6, fr = [(1, Sl a_p1 p1 c_p1), (2, .string p2), (3, Iv p3), (4, .string p4), (5, .bool p5), (6, Pt b1 0), (13, Nv i8)] ∧ I.Le I6 ∧ St E w I6 ((Bx b1 (cs_qCatalog p0 w_p0) 29) :: Os)) ⟨I, rfl, lr, hS3⟩ ?_ ?_)))))))))
 rintro i8 _ _ w10 hi14 ⟨I6, rfl, hl7, hS11⟩ x12 hr1 hext5
 refine yf (yd nL4 (ya 0 4 rfl (yb (yah fun _ => yi (En.next (yf (W.block (yf (have hS15 := hS11.drew; yat nL38 38 (KR.cons (hS15.rd m0) (KR.nil hS15.im)) ?_)))))))))
 generalize World.drew _ = w16 at *
 refine ya 0 2 rfl ?_
 obtain ⟨x17, hr1, hb_x17, _, rfl, hc_x17⟩ := sl_ix ((RSl.mono h_p1 hl7)) hr1
 refine y3 67 5 hb_x17 rfl (yc 3 1 [3] rfl (yal hc_x17 3 (rd_i hS15.im) rfl (ya 5 3 rfl (bsk hr1 fun j18 hr2 hr1 => WO.jw (l1 := [8, 9, 10, 11, 12, 13, 14, 15]) (J := (fun fr w => ∃ I20, fr = [(1, Sl a_p1 p1 c_p1), (2, .string p2), (3, Iv p3), (4, .string p4), (5, .bool p5), (6, Pt b1 0), (13, Nv i8), (35, .bool j18)] ∧ I6.Le I20 ∧ St E w I20 ((Bx b1 (cs_qCatalog p0 w_p0) 29) :: Os))) ?_ ?_))))
 refine WO.cb hr2 (fun hc hr2 => ?_) (fun hc hr2 => ?_)
 refine yl 27 hc (ya 8 2 rfl ?_)
 obtain ⟨x22, hr2, hb_x22, _, rfl, hc_x22⟩ := sl_ix ((RSl.mono h_p1 hl7)) hr2
 refine y3 67 5 hb_x22 rfl (yc 11 1 [2] rfl (yal hc_x22 2 (rd_i hS15.im) rfl (ya 13 2 rfl (yh 15 35 (.bool (sEq x22.Table p4)) ?_))))
 obtain rfl := sj hr2
 exact yw ⟨I6, rfl, lr, hS15⟩
 refine yl 27 hc ?_
 iterate 7 refine yt ?_
 refine yh 15 35 (.bool false) ?_
 obtain rfl := sj hr2
 exact yw ⟨I6, rfl, lr, hS15⟩
 rintro _ w23 ⟨I20, rfl, hl21, hS24⟩
 refine ya 16 1 rfl (bsk hr1 fun j25 hr2 hr1 => WO.jw (l1 := [17, 18, 19, 20, 21, 22, 23, 24, 25, 26]) (J := (fun fr w => ∃ I27, fr = [(1, Sl a_p1 p1 c_p1), (2, .string p2), (3, Iv p3), (4, .string p4), (5, .bool p5), (6, Pt b1 0), (13, Nv i8), (46, .bool j25)] ∧ I20.Le I27 ∧ St E w I27 ((Bx b1 (cs_qCatalog p0 w_p0) 29) :: Os))) ?_ ?_)
 refine WO.cb hr2 (fun hc hr2 => ?_) (fun hc hr2 => ?_)
 refine yl 36 hc (ya 17 2 rfl ?_)
 obtain ⟨x29, hr2, hb_x29, _, rfl, hc_x29⟩ := sl_ix ((RSl.mono h_p1 hl7)) hr2
 refine y3 67 5 hb_x29 rfl (yc 20 1 [4] rfl (yal hc_x29 4 (rd_i (hS24.im.of_le hl21)) rfl (ya 22 1 rfl (yac (l1 := [23, 24, 25]) 45 (x29.Option || (!p5)) ?_ ?_))))
 refine yr x29.Option (fun hc => ?_) (fun hc => ?_)
 refine yl 42 hc ?_
 iterate 2 refine yt ?_
 exact yh 25 45 (.bool true) (WO.mk 42 hc (by rw [hc]; rfl))
 exact yl 42 hc (ya 23 2 rfl (yh 25 45 (.bool (!p5)) (WO.mk 42 hc (by rw [hc]; rfl))))
 refine yh 26 46 (.bool (x29.Option || (!p5))) ?_
 obtain rfl := sj hr2
 exact yw ⟨I20, rfl, lr, hS24⟩
 refine yl 36 hc ?_
 iterate 9 refine yt ?_
 refine yh 26 46 (.bool false) ?_
 obtain rfl := sj hr2
 exact yw ⟨I20, rfl, lr, hS24⟩
 rintro _ w32 ⟨I27, rfl, hl28, hS33⟩
 refine ya 27 1 rfl (bsk hr1 fun j34 hr2 hr1 => WO.jw (l1 := [28, 29, 30, 31, 32, 33, 34, 35, 36, 37]) (J := (fun fr w => ∃ I36, fr = [(1, Sl a_p1 p1 c_p1), (2, .string p2), (3, Iv p3), (4, .string p4), (5, .bool p5), (6, Pt b1 0), (13, Nv i8), (57, .bool j34)] ∧ I27.Le I36 ∧ St E w I36 ((Bx b1 (cs_qCatalog p0 w_p0) 29) :: Os))) ?_ ?_)
 refine WO.cb hr2 (fun hc hr2 => ?_) (fun hc hr2 => ?_)
 refine yl 47 hc (yc 28 1 [2] rfl (yg (rd_c m0 (hS33.rd m0)) rfl (ya 30 3 rfl ?_)))
 obtain ⟨x38, hr2, hb_x38, _, rfl, hc_x38⟩ := sl_ix ((RSl.mono h_p1 hl7)) hr2
 refine y3 67 5 hb_x38 rfl (yc 34 1 [0] rfl (yaf hc_x38 (rd_i (hS33.im.of_le le)) rfl (bsk hr2 fun r44 hx_r39 hr2 => yab (r18_Is_ok (RSl.mono h_p0.Roles le) hS33 hx_r39) ?_)))
 rintro _ w40 ⟨I41, rfl, hl42, hS43⟩
 refine ⟨_, rfl, (KR.cons (hS43.rd m0) (KR.nil (hS43.im.of_le le))), ?_⟩
 refine yh 37 57 (.bool r44) ?_
 obtain rfl := sj hr2
 exact yw ⟨I41, rfl, hl42, hS43⟩
 refine yl 47 hc ?_
 iterate 9 refine yt ?_
 refine yh 37 57 (.bool false) ?_
 obtain rfl := sj hr2
 exact yw ⟨I27, rfl, lr, hS33⟩
 rintro _ w45 ⟨I36, rfl, hl37, hS46⟩
 refine yb (W.cb hr1 (fun hc hr1 => ?_) (fun hc hr1 => ?_))
 refine yd [0] (ya 0 1 rfl (yb (W.ret (yj (ye (yp ?_))))))
 obtain rfl := hext5 _ (sj hr1).symm
 refine yj (ye ?_)
 obtain rfl := sj hr
 exact yu ⟨I36, rfl, le, hS46.drop⟩
 exact yi (yk (En.next (yaa nL3 (ya 0 1 rfl (yae i8 rfl (ya 2 1 rfl (WO.nil (yq ⟨(), (sj hr1).symm, I36, rfl, le, hS46⟩))))))))
 rintro _ _ w51 ⟨I6, rfl, hl7, hS52⟩ he
 cases he
 refine yf (yd nL4 (ya 0 4 rfl (yb (yai fun _ => yz (ym (yn (yo (En.next (yd [0] (ya 0 1 rfl (yb (W.ret ?_))))))))))))
 obtain rfl := sj hr
 exact yu ⟨I6, rfl, hl7, hS52.drop⟩
noncomputable def r19_Held (p0 : qCatalog) : Option (List qGrant) := (loopO (fun (s : (List qGrant) × Int) => match s with | (s8, s9) => (bif (decide (s9 ≤ (p0.Grants.length : Int))) then (forE (fun (i18 : Nat) => fun (s17 : List qGrant) => ((idx p0.Grants (i18 : Int)).bind (fun x32 => (r17_At p0 x32.Table).bind (fun r44 => ((bif (decide (r44 < 0)) then some true else (r18_At p0.Roles x32.To).bind (fun r56 => some (decide (r56 < 0))))).bind (fun (j45 : Bool) => (bif j45 then some s17 else (r19_Owns p0 x32.By x32.Table).bind (fun r69 => ((bif r69 then some true else (r19_has p0 s8 x32.By x32.Priv x32.Table true).bind (fun r79 => some r79))).bind (fun (j70 : Bool) => ((bif j70 then (app 64 s17 ([x32] : List qGrant)).bind (fun x94 => some x94) else some s17)).bind (fun (j82 : List qGrant) => some j82)))))))).bind (fun (j28 : List qGrant) => some j28)) p0.Grants.length 0 ([] : List qGrant)).bind (fun s17 => some (.inl (s17, (w64 (s9 + 1))))) else some (.inr s8))) (([] : List qGrant), 0)).bind (fun (s120 : List qGrant) => some s120)
theorem r19_Held_ok {p0 : qCatalog} {w_p0 : W_qCatalog} (h_p0 : ok_qCatalog I p0 w_p0) (hS : St E w I Os) {r : (List qGrant)} (hr : r19_Held p0 = some r) :
    Calls P 19 #[(.agg (cs_qCatalog p0 w_p0).toArray)] w (fun e w' => ∃ (I' : Mem) (ra0 : Option Addr) (rc0 : Nat), e = .returned (Sl ra0 r rc0) ∧ I.Le I' ∧ St E w' I' Os ∧ RSl 5 R_qGrant I' ra0 rc0 r) := by
 refine calls_W (fn := Tryz.f19) rfl rfl rfl ?_
 unfold r19_Held at hr
 refine yd nL2 (yy hS (cs_qCatalog p0 w_p0) 29 rfl fun b1 w4 hS3 => yh 1 2 (.slice none 0 0) (y0 [0] (yh 0 3 (.slice none 0 0) (yb (yf (yd [0] (ya 0 1 rfl (yb (W.block (bsk hr fun t5 hloop10 hr => W.wk (yau hloop10 (fun (s : (List qGrant) × Int) fr w => match s with | (s8, s9) => ∃ I6 a_s8 c_s8, fr = [(1, Pt b1 0), (3, Sl a_s8 s8 c_s8), (4, Iv s9)] ∧ I.Le I6 ∧ St E w I6 ((Bx b1 (cs_qCatalog p0 w_p0) 29) :: Os) ∧ RSl 5 R_qGrant I6 a_s8 c_s8 s8) ⟨I, none, 0, rfl, lr, hS3, SlAt.nil⟩ ?_)))))))))))
 rintro ⟨s8, s9⟩ _ w11 ⟨I6, a_s8, c_s8, rfl, hl7, hS12, h_s8⟩ x13 hr1 hext5
 refine yf (yd nL5 (yc 0 2 [3] rfl (yg (hS12.rf m0) rfl (ya 3 2 rfl (yb (W.cb hr1 (fun hc hr1 => ?_) (fun hc hr1 => ?_)))))))
 refine yi (En.next (yf (W.block (yd [0] (yh 0 5 (.slice none 0 0) (yb (yf (yd [0] (ya 0 1 rfl (yb (W.block (bsk hr1 fun s17 hloop19 hr1 => have hlt26 := ((RSl.mono h_p0.Grants hl7)).len_lt; W.wk (W.forE (m := p0.Grants.length) hloop19 (fun (i18 : Nat) => fun (s17 : List qGrant) fr w => ∃ I15 a_s17 c_s17 C_s17, fr = [(1, Pt b1 0), (3, Sl a_s8 s8 c_s8), (4, Iv s9), (5, Sl a_s17 s17 c_s17), (6, Nv i18)] ∧ I6.Le I15 ∧ St E w I15 ((Bx b1 (cs_qCatalog p0 w_p0) 29) :: (C_s17) :: Os) ∧ OwnSl 67 5 R_qGrant I15 C_s17 a_s17 c_s17 s17) ⟨I6, none, 0, Mem.no, rfl, lr, hS12.no.front1, OwnSl.nil⟩ ?_ ?_)))))))))))))
 rintro i18 s17 _ w23 hi27 ⟨I15, a_s17, c_s17, C_s17, rfl, hl16, hS24, h_s17⟩ x25 hr2
 refine yf (yd nL5 (yc 0 2 [3] rfl (yg (hS24.rf m0) rfl (ya 3 2 rfl (yb (yah fun _ => yi (En.next (yf (bsk hr2 fun j28 hr3 hr2 => W.jw (J := (fun fr w => ∃ I30 a_j28 c_j28 C_j28, fr = [(1, Pt b1 0), (3, Sl a_s8 s8 c_s8), (4, Iv s9), (5, Sl a_j28 j28 c_j28), (6, Nv i18)] ∧ I15.Le I30 ∧ St E w I30 ((Bx b1 (cs_qCatalog p0 w_p0) 29) :: (C_j28) :: Os) ∧ OwnSl 67 5 R_qGrant I30 C_j28 a_j28 c_j28 j28)) ?_ ?_)))))))))
 refine W.block (yd nL7 (yc 0 1 [3] rfl (yg (hS24.rf m0) rfl (ya 2 1 rfl ?_))))
 obtain ⟨x32, hr3, hb_x32, _, rfl, hc_x32⟩ := sl_ix ((RSl.mono h_p0.Grants (hl7.trans hl16))) hr3
 refine y3 67 5 hb_x32 rfl (yak ((cs_qGrant x32)) hc_x32 0 hS24.rm rfl (yy hS24 (cs_qGrant z_qGrant) 67 rfl fun b33 w36 hS35 => yx hS35 0 (cs_qGrant x32) fun w38 hS37 => yb (yf (yd nL13 (yv ((cs_qCatalog p0 w_p0)) (hS37.rf m1) rfl (yc 1 1 [2] rfl (yg (hS37.rf m0) rfl (bsk hr3 fun r44 hx_r39 hr3 => WO.c1 (r17_At_ok (h_p0.mono le) hS37 hx_r39) rfl fun I41 w40 hl42 hS43 => ya 4 2 rfl (bsk hr3 fun j45 hr4 hr3 => WO.jw (l1 := [6, 7, 8, 9, 10, 11, 12]) (J := (fun fr w => ∃ I47, fr = [(1, Pt b1 0), (3, Sl a_s8 s8 c_s8), (4, Iv s9), (5, Sl a_s17 s17 c_s17), (6, Nv i18), (7, Pt b33 0), (39, .bool j45)] ∧ I41.Le I47 ∧ St E w I47 ((Bx b1 (cs_qCatalog p0 w_p0) 29) :: (C_s17) :: (Bx b33 (cs_qGrant x32) 67) :: Os))) ?_ ?_)))))))))
 refine WO.cb hr4 (fun hc hr4 => ?_) (fun hc hr4 => ?_)
 refine yl 32 hc ?_
 iterate 6 refine yt ?_
 refine yh 12 39 (.bool true) ?_
 obtain rfl := sj hr4
 exact yw ⟨I41, rfl, lr, hS43.front2.front2⟩
 refine yl 32 hc (yc 6 1 [2] rfl (yg (hS43.rf m1) rfl (yc 8 1 [0] rfl (yg (hS43.rf m0) rfl (bsk hr4 fun r56 hx_r51 hr4 => WO.c1 (r18_At_ok (RSl.mono h_p0.Roles le) hS43 hx_r51) rfl fun I53 w52 hl54 hS55 => ya 11 1 rfl (yh 12 39 (.bool (decide (r56 < 0))) ?_))))))
 obtain rfl := sj hr4
 exact yw ⟨I53, rfl, hl54, hS55.front2.front2⟩
 rintro _ w59 ⟨I47, rfl, hl48, hS60⟩
 refine yb (W.cb hr3 (fun hc hr3 => ?_) (fun hc hr3 => ?_))
 refine yz (ym (yo ?_))
 obtain rfl := sj hr3
 exact yq ⟨I47, a_s17, c_s17, C_s17, rfl, le, hS60.front2.drop, (OwnSl.mono h_s17 le)⟩
 refine yi (En.next (yd nL17 (yv ((cs_qCatalog p0 w_p0)) (hS60.rf m0) rfl (yc 1 1 [1] rfl (yg (hS60.rf m2) rfl (yc 3 1 [2] rfl (yg (hS60.rf m2) rfl (bsk hr3 fun r69 hx_r63 hr3 => WO.c1 (r19_Owns_ok (h_p0.mono le) hS60 hx_r63) rfl fun I66 w65 hl67 hS68 => ya 6 1 rfl (bsk hr3 fun j70 hr4 hr3 => WO.jw (l1 := [7, 8, 9, 10, 11, 12, 13, 14, 15, 16]) (J := (fun fr w => ∃ I72, fr = [(1, Pt b1 0), (3, Sl a_s8 s8 c_s8), (4, Iv s9), (5, Sl a_s17 s17 c_s17), (6, Nv i18), (7, Pt b33 0), (56, .bool j70)] ∧ I66.Le I72 ∧ St E w I72 ((Bx b1 (cs_qCatalog p0 w_p0) 29) :: (C_s17) :: (Bx b33 (cs_qGrant x32) 67) :: Os))) ?_ ?_)))))))))
 refine WO.cb hr4 (fun hc hr4 => ?_) (fun hc hr4 => ?_)
 refine yl 46 hc ?_
 iterate 9 refine yt ?_
 refine yh 16 56 (.bool true) ?_
 obtain rfl := sj hr4
 exact yw ⟨I66, rfl, lr, hS68⟩
 refine yl 46 hc (yv ((cs_qCatalog p0 w_p0)) (hS68.rf m0) rfl (yc 8 2 [1] rfl (yg (hS68.rf m2) rfl (yc 11 1 [3] rfl (yg (hS68.rf m2) rfl (yc 13 1 [2] rfl (yg (hS68.rf m2) rfl (bsk hr4 fun r79 hx_r74 hr4 => WO.c1 (r19_has_ok (h_p0.mono le) (RSl.mono h_s8 le) hS68 hx_r74) rfl fun I76 w75 hl77 hS78 => yh 16 56 (.bool r79) ?_))))))))
 obtain rfl := sj hr4
 exact yw ⟨I76, rfl, hl77, hS78⟩
 rintro _ w80 ⟨I72, rfl, hl73, hS81⟩
 refine yb (bsk hr3 fun j82 hr4 hr3 => W.jw (J := (fun fr w => ∃ I84 a_j82 c_j82 C_j82, fr = [(1, Pt b1 0), (3, Sl a_s8 s8 c_s8), (4, Iv s9), (5, Sl a_j82 j82 c_j82), (6, Nv i18)] ∧ I72.Le I84 ∧ St E w I84 ((Bx b1 (cs_qCatalog p0 w_p0) 29) :: (C_j82) :: Os) ∧ OwnSl 67 5 R_qGrant I84 C_j82 a_j82 c_j82 j82)) ?_ ?_)
 refine W.cb hr4 (fun hc hr4 => ?_) (fun hc hr4 => ?_)
 refine yaa nL5 (ya 0 1 rfl (yv ((cs_qGrant x32)) (hS81.rf m2) rfl (y4 (rel := R_qGrant) (xs := ([x32] : List qGrant)) hS81 rfl (by kernel_rfl) rfl 67 5 [(cs_qGrant x32)] (by kernel_rfl) rfl ((Elr.cons rfl Elr.nil)) (fun _ _ _ => trivial) ?_)))
 intro a89 C87 w91 hS90 ho88
 have hS93 := hS90.front2
 obtain ⟨x94, hx_x94, hr4⟩ := bsm hr4
 obtain ⟨h0_x94, he_x94⟩ := app_some hx_x94
 refine yaj 67 64 (cs_qGrant z_qGrant) hS93 (OwnSl.mono h_s17 le) ho88.sl (hS93.rd m1) h0_x94 he_x94 rfl fun a95 c96 w97 C98 hS99 ho100 => ya 4 1 rfl (WO.nil ?_)
 obtain rfl := sj hr4
 exact yq ⟨I72, a95, c96, C98, rfl, lr, hS99.front1.drop.front2.drop.front1, ho100⟩
 refine yi ?_
 obtain rfl := sj hr4
 exact yq ⟨I72, a_s17, c_s17, C_s17, rfl, lr, hS81.front2.drop, (OwnSl.mono h_s17 le)⟩
 rintro _ w108 ⟨I84, a_j82, c_j82, C_j82, rfl, hl85, hS109, h_j82⟩
 refine yk ?_
 obtain rfl := sj hr3
 exact yq ⟨I84, a_j82, c_j82, C_j82, rfl, le, hS109, h_j82⟩
 rintro _ w110 ⟨I30, a_j28, c_j28, C_j28, rfl, hl31, hS111, h_j28⟩
 refine En.next (yaa nL3 (ya 0 1 rfl (yae i18 rfl (ya 2 1 rfl (WO.nil ?_)))))
 obtain rfl := sj hr2
 exact yq ⟨I30, a_j28, c_j28, C_j28, rfl, le, hS111, h_j28⟩
 rintro _ w112 ⟨I15, a_s17, c_s17, C_s17, rfl, hl16, hS113, h_s17⟩
 refine yf (yd nL5 (yc 0 2 [3] rfl (yg (hS113.rf m0) rfl (ya 3 2 rfl (yb (yai fun _ => yz (ym (yn (yo (En.next (yaa nL2 (ya 0 1 rfl ?_))))))))))))
 obtain ⟨I115, hl116, hS118, hp117⟩ := y6 h_s17 hS113.front1
 exact ya 1 1 rfl (WO.nil (yk (En.next (yaa nL3 (ya 0 3 rfl (WO.nil (yq ⟨(s17, (w64 (s9 + 1))), (sj hr1).symm, I115, a_s17, c_s17, rfl, le, hS118, hp117⟩)))))))
 refine yz (ym (yn ?_))
 obtain rfl := hext5 _ (sj hr1).symm
 refine yo (En.next (yd nL2 (ya 0 2 rfl (yb (W.ret ?_)))))
 obtain rfl := sj hr
 exact yu ⟨I6, a_s8, c_s8, rfl, hl7, hS12.drop, h_s8⟩
noncomputable def r19_Can (p0 : qCatalog) (p1 : ByteArray) (p2 : Int) (p3 : ByteArray) : Option Bool := (r19_Owns p0 p1 p3).bind (fun r12 => ((bif r12 then some true else (r19_Held p0).bind (fun r22 => (r19_has p0 r22 p1 p2 p3 true).bind (fun r28 => some r28)))).bind (fun (j13 : Bool) => some j13))
theorem r19_Can_ok {p0 : qCatalog} {p1 : ByteArray} {p2 : Int} {p3 : ByteArray} {w_p0 : W_qCatalog} (h_p0 : ok_qCatalog I p0 w_p0) (hS : St E w I Os) {r : Bool} (hr : r19_Can p0 p1 p2 p3 = some r) :
    Calls P 26 #[(.agg (cs_qCatalog p0 w_p0).toArray), (.string p1), (Iv p2), (.string p3)] w (fun e w' => ∃ I', e = .returned (.bool r) ∧ I.Le I' ∧ St E w' I' Os) := by
 refine calls_W (fn := Tryz.f26) rfl rfl rfl ?_
 unfold r19_Can at hr
 refine yd nL2 (yy hS (cs_qCatalog p0 w_p0) 29 rfl fun b1 w4 hS3 => ya 1 1 rfl (yb (yf (have hS5 := hS3.drew; yat nL14 13 (KR.cons (hS5.rd m0) (KR.nil hS5.im)) ?_))))
 generalize World.drew _ = w6 at *
 refine yv ((cs_qCatalog p0 w_p0)) (rd_c m0 (hS5.rd m0)) rfl (ya 1 2 rfl (bsk hr fun r12 hx_r7 hr => yab (r19_Owns_ok h_p0 hS5 hx_r7) ?_))
 rintro _ w8 ⟨I9, rfl, hl10, hS11⟩
 refine ⟨_, rfl, (KR.cons (hS11.rd m0) (KR.nil (hS11.im.of_le hl10))), ?_⟩
 refine ya 4 1 rfl (bsk hr fun j13 hr1 hr => WO.jw (l1 := [5, 6, 7, 8, 9, 10, 11, 12]) (J := (fun fr w => ∃ I15, fr = [(21, .bool j13)] ∧ I9.Le I15 ∧ St E w I15 ((Bx b1 (cs_qCatalog p0 w_p0) 29) :: Os))) ?_ ?_)
 refine WO.cb hr1 (fun hc hr1 => ?_) (fun hc hr1 => ?_)
 refine yl 13 hc ?_
 iterate 7 refine yt ?_
 refine yh 12 21 (.bool true) ?_
 obtain rfl := sj hr1
 exact yw ⟨I9, rfl, lr, hS11⟩
 refine yl 13 hc (yv ((cs_qCatalog p0 w_p0)) (rd_c m0 (hS11.rd m0)) rfl (yv ((cs_qCatalog p0 w_p0)) (rd_c m0 (hS11.rd m0)) rfl (bsk hr1 fun r22 hx_r17 hr1 => yab (r19_Held_ok (h_p0.mono hl10) hS11 hx_r17) ?_)))
 rintro _ w18 ⟨I19, a_r22, c_r22, rfl, hl20, hS21, h_r22⟩
 refine ⟨_, rfl, (KR.cons (hS21.rd m0) (KR.nil (hS21.im.of_le le))), ?_⟩
 refine ya 8 3 rfl (bsk hr1 fun r28 hx_r23 hr1 => yab (r19_has_ok (h_p0.mono le) h_r22 hS21 hx_r23) ?_)
 rintro _ w24 ⟨I25, rfl, hl26, hS27⟩
 refine ⟨_, rfl, (KR.cons (hS27.rd m0) (KR.nil (hS27.im.of_le le))), ?_⟩
 refine yh 12 21 (.bool r28) ?_
 obtain rfl := sj hr1
 exact yw ⟨I25, rfl, le, hS27⟩
 rintro _ w29 ⟨I15, rfl, hl16, hS30⟩
 refine WO.tail rfl (ya 13 1 rfl (yb (W.ret ?_)))
 obtain rfl := sj hr
 exact yu ⟨I15, rfl, le, hS30.drop⟩
def r19_place (p0 : qCatalog) (p1 : qStmt) (p2 : ByteArray) : Option Int := (forN (fun (i12 : Nat) => fun (_s : Unit) => (idx p0.Grants (i12 : Int)).bind (fun x20 => (some (((sEq x20.To p1.Role) && (sEq x20.By p2)) && (sEq x20.Table p1.Table))).bind (fun (q29 : Bool) => (bif (q29 && (x20.Priv == p1.Priv)) then some (.inr (i12 : Int)) else some (.inl ()))))) p0.Grants.length 0 ()).bind (fun (t : Unit ⊕ (Int)) => match t with | .inl _ => some (-1) | .inr s35 => some s35)
theorem r19_place_ok {p0 : qCatalog} {p1 : qStmt} {p2 : ByteArray} {w_p0 : W_qCatalog} {w_p1 : W_qStmt} (h_p0 : ok_qCatalog I p0 w_p0) (h_p1 : ok_qStmt I p1 w_p1) (hS : St E w I Os) {r : Int} (hr : r19_place p0 p1 p2 = some r) :
    Calls P 40 #[(.agg (cs_qCatalog p0 w_p0).toArray), (.agg (cs_qStmt p1 w_p1).toArray), (.string p2)] w (fun e w' => ∃ I', e = .returned (Iv r) ∧ I.Le I' ∧ St E w' I' Os) := by
 refine calls_W (fn := Tryz.f40) rfl rfl rfl ?_
 unfold r19_place at hr
 refine yd nL3 (yy hS (cs_qCatalog p0 w_p0) 29 rfl fun b1 w4 hS3 => yy hS3 (cs_qStmt p1 w_p1) 44 rfl fun b5 w8 hS7 => ya 2 1 rfl (yb (yf (yd [0] (ya 0 1 rfl (yb (W.block (bsk hr fun t9 hloop13 hr => have hlt18 := (h_p0.Grants).len_lt; W.wk (W.forN (m := p0.Grants.length) hloop13 (fun (i12 : Nat) => fun (_s : Unit) fr w => ∃ I10, fr = [(2, .string p2), (3, Pt b1 0), (4, Pt b5 0), (7, Nv i12)] ∧ I.Le I10 ∧ St E w I10 ((Bx b1 (cs_qCatalog p0 w_p0) 29) :: (Bx b5 (cs_qStmt p1 w_p1) 44) :: Os)) ⟨I, rfl, lr, hS7.front1⟩ ?_ ?_)))))))))
 rintro i12 _ _ w15 hi19 ⟨I10, rfl, hl11, hS16⟩ x17 hr1 hext9
 refine yf (yd nL5 (yc 0 2 [3] rfl (yg (hS16.rf m0) rfl (ya 3 2 rfl (yb (yah fun _ => yi (En.next (yf (W.block (yd nL7 (yc 0 1 [3] rfl (yg (hS16.rf m0) rfl (ya 2 1 rfl ?_)))))))))))))
 obtain ⟨x20, hr1, hb_x20, _, rfl, hc_x20⟩ := sl_ix ((RSl.mono h_p0.Grants hl11)) hr1
 refine y3 67 5 hb_x20 rfl (yak ((cs_qGrant x20)) hc_x20 0 hS16.rm rfl (yy hS16 (cs_qGrant z_qGrant) 67 rfl fun b21 w24 hS23 => yx hS23 0 (cs_qGrant x20) fun w26 hS25 => y0 nL25 (yc 0 1 [0] rfl (yg (hS25.rf m0) rfl (yc 2 1 [3] rfl (yg (hS25.rf m2) rfl (ya 4 2 rfl (yac (l1 := [6, 7, 8, 9, 10]) 31 ((sEq x20.To p1.Role) && (sEq x20.By p2)) ?_ ?_))))))))
 refine yr (sEq x20.To p1.Role) (fun hc => ?_) (fun hc => ?_)
 exact yl 26 hc (yc 6 1 [1] rfl (yg (hS25.rf m0) rfl (ya 8 2 rfl (yh 10 31 (.bool (sEq x20.By p2)) (WO.mk 26 hc (by rw [hc]; rfl))))))
 refine yl 26 hc ?_
 iterate 4 refine yt ?_
 exact yh 10 31 (.bool false) (WO.mk 26 hc (by rw [hc]; rfl))
 refine ya 11 1 rfl ?_
 obtain ⟨q29, hx_q29, hr1⟩ := bsm hr1
 replace hx_q29 := sj hx_q29
 refine yac (l1 := [12, 13, 14, 15, 16, 17]) 38 q29 ?_ ?_
 refine yr ((sEq x20.To p1.Role) && (sEq x20.By p2)) (fun hc => ?_) (fun hc => ?_)
 exact yl 32 hc (yc 12 1 [2] rfl (yg (hS25.rf m0) rfl (yc 14 1 [1] rfl (yg (hS25.rf m2) rfl (ya 16 1 rfl (yh 17 38 (.bool (sEq x20.Table p1.Table)) (WO.mk 32 hc (by rw [← hx_q29, hc]; rfl))))))))
 refine yl 32 hc ?_
 iterate 5 refine yt ?_
 exact yh 17 38 (.bool false) (WO.mk 32 hc (by rw [← hx_q29, hc]; rfl))
 refine ya 18 1 rfl (yac (l1 := [19, 20, 21, 22, 23, 24]) 45 (q29 && (x20.Priv == p1.Priv)) ?_ ?_)
 refine yr q29 (fun hc => ?_) (fun hc => ?_)
 exact yl 39 hc (yc 19 1 [3] rfl (yg (hS25.rf m0) rfl (yc 21 1 [18] rfl (yg (hS25.rf m2) rfl (ya 23 1 rfl (yh 24 45 (.bool (x20.Priv == p1.Priv)) (WO.mk 39 hc (by rw [hc]; rfl))))))))
 refine yl 39 hc ?_
 iterate 5 refine yt ?_
 exact yh 24 45 (.bool false) (WO.mk 39 hc (by rw [hc]; rfl))
 refine yb (W.cb hr1 (fun hc hr1 => ?_) (fun hc hr1 => ?_))
 refine yd nL2 (ya 0 2 rfl (yb (W.ret (yj (ye (yp ?_))))))
 obtain rfl := hext9 _ (sj hr1).symm
 refine yj (ye ?_)
 obtain rfl := sj hr
 exact yu ⟨I10, rfl, hl11, hS25.drop.drop.drop⟩
 exact yi (yk (En.next (yaa nL3 (ya 0 1 rfl (yae i12 rfl (ya 2 1 rfl (WO.nil (yq ⟨(), (sj hr1).symm, I10, rfl, hl11, hS25.drop⟩))))))))
 rintro _ _ w42 ⟨I10, rfl, hl11, hS43⟩ he
 cases he
 refine yf (yd nL5 (yc 0 2 [3] rfl (yg (hS43.rf m0) rfl (ya 3 2 rfl (yb (yai fun _ => yz (ym (yn (yo (En.next (yd [0] (ya 0 1 rfl (yb (W.ret ?_))))))))))))))
 obtain rfl := sj hr
 exact yu ⟨I10, rfl, hl11, hS43.drop.drop⟩
noncomputable def r19_given (p0 : qCatalog) (p1 : qStmt) (p2 : ByteArray) : Option ((List qGrant) × Int) := (r17_At p0 p1.Table).bind (fun r14 => ((bif (decide (r14 < 0)) then some true else (r18_At p0.Roles p1.Role).bind (fun r25 => some (decide (r25 < 0))))).bind (fun (j15 : Bool) => (bif j15 then some (([] : List qGrant), 4) else (r19_Can p0 p2 p1.Priv p1.Table).bind (fun r36 => (bif (!r36) then some (([] : List qGrant), 36) else (r19_place p0 p1 p2).bind (fun r44 => (app 64 ([] : List qGrant) p0.Grants).bind (fun x47 => (bif (decide (r44 ≥ 0)) then (idx x47 r44).bind (fun x54 => (bif (x54.Option || (!p1.Option)) then some (([] : List qGrant), 19) else (idx x47 r44).bind (fun x60 => some ((x47.set (r44).toNat ({ x60 with Option := true })), 0)))) else (bif (decide ((x47.length : Int) ≥ 40)) then some (([] : List qGrant), 5) else (app 64 x47 ([(⟨p1.Role, p2, p1.Table, p1.Priv, p1.Option⟩ : qGrant)] : List qGrant)).bind (fun x82 => some (x82, 0)))))))))))
theorem r19_given_ok {p0 : qCatalog} {p1 : qStmt} {p2 : ByteArray} {w_p0 : W_qCatalog} {w_p1 : W_qStmt} (h_p0 : ok_qCatalog I p0 w_p0) (h_p1 : ok_qStmt I p1 w_p1) (hS : St E w I Os) {r : (List qGrant) × Int} (hr : r19_given p0 p1 p2 = some r) :
    Calls P 39 #[(.agg (cs_qCatalog p0 w_p0).toArray), (.agg (cs_qStmt p1 w_p1).toArray), (.string p2)] w (fun e w' => ∃ (I' : Mem) (ra0 : Option Addr) (rc0 : Nat), e = .returned (.tuple #[(Sl ra0 r.1 rc0), (Iv r.2)]) ∧ I.Le I' ∧ St E w' I' Os ∧ RSl 5 R_qGrant I' ra0 rc0 r.1) := by
 refine calls_W (fn := Tryz.f39) rfl rfl rfl ?_
 unfold r19_given at hr
 refine yd nL4 (yy hS (cs_qCatalog p0 w_p0) 29 rfl fun b1 w4 hS3 => yy hS3 (cs_qStmt p1 w_p1) 44 rfl fun b5 w8 hS7 => yh 2 6 (.slice none 0 0) (ya 3 1 rfl (yb (yf (yd nL13 (yv ((cs_qCatalog p0 w_p0)) (hS7.rf m1) rfl (yc 1 1 [1] rfl (yg (hS7.rf m0) rfl (bsk hr fun r14 hx_r9 hr => WO.c1 (r17_At_ok h_p0 hS7 hx_r9) rfl fun I11 w10 hl12 hS13 => ya 4 2 rfl (bsk hr fun j15 hr1 hr => WO.jw (l1 := [6, 7, 8, 9, 10, 11, 12]) (J := (fun fr w => ∃ I17, fr = [(2, .string p2), (3, Pt b1 0), (4, Pt b5 0), (22, .bool j15)] ∧ I11.Le I17 ∧ St E w I17 ((Bx b1 (cs_qCatalog p0 w_p0) 29) :: (Bx b5 (cs_qStmt p1 w_p1) 44) :: Os))) ?_ ?_))))))))))
 refine WO.cb hr1 (fun hc hr1 => ?_) (fun hc hr1 => ?_)
 refine yl 15 hc ?_
 iterate 6 refine yt ?_
 refine yh 12 22 (.bool true) ?_
 obtain rfl := sj hr1
 exact yw ⟨I11, rfl, lr, hS13.front1⟩
 refine yl 15 hc (yc 6 1 [2] rfl (yg (hS13.rf m1) rfl (yc 8 1 [3] rfl (yg (hS13.rf m0) rfl (bsk hr1 fun r25 hx_r20 hr1 => WO.c1 (r18_At_ok (RSl.mono h_p0.Roles hl12) hS13 hx_r20) rfl fun I22 w21 hl23 hS24 => ya 11 1 rfl (yh 12 22 (.bool (decide (r25 < 0))) ?_))))))
 obtain rfl := sj hr1
 exact yw ⟨I22, rfl, hl23, hS24.front1⟩
 rintro _ w27 ⟨I17, rfl, hl18, hS28⟩
 refine yb (W.cb hr (fun hc hr => ?_) (fun hc hr => ?_))
 refine yd nL2 (yh 0 6 (.slice none 0 0) (ya 1 1 rfl (yb (W.ret (ye ?_)))))
 obtain rfl := sj hr
 exact yam ⟨I17, none, 0, rfl, le, hS28.drop.drop, SlAt.nil⟩
 refine yi (En.next (yf (yd nL8 (yv ((cs_qCatalog p0 w_p0)) (hS28.rf m0) rfl (yc 1 2 [18] rfl (yg (hS28.rf m1) rfl (yc 4 1 [1] rfl (yg (hS28.rf m1) rfl (bsk hr fun r36 hx_r31 hr => WO.c1 (r19_Can_ok (h_p0.mono le) hS28 hx_r31) rfl fun I33 w32 hl34 hS35 => ya 7 1 rfl (yb (W.cb hr (fun hc hr => ?_) (fun hc hr => ?_))))))))))))
 refine yd nL2 (yh 0 6 (.slice none 0 0) (ya 1 1 rfl (yb (W.ret (ye ?_)))))
 obtain rfl := sj hr
 exact yam ⟨I33, none, 0, rfl, le, hS35.drop.drop, SlAt.nil⟩
 refine yi (En.next (yd nL5 (yv ((cs_qCatalog p0 w_p0)) (hS35.rf m0) rfl (yv ((cs_qStmt p1 w_p1)) (hS35.rf m1) rfl (ya 2 1 rfl (bsk hr fun r44 hx_r39 hr => WO.c1 (r19_place_ok (h_p0.mono le) (h_p1.mono le) hS35 hx_r39) rfl fun I41 w40 hl42 hS43 => ya 4 1 rfl (y0 [0] (yh 0 9 (.slice none 0 0) (y0 nL5 (yc 0 2 [3] rfl (yg (hS43.rf m0) rfl ?_)))))))))))
 have hS46 := hS43.no
 obtain ⟨x47, hx_x47, hr⟩ := bsm hr
 obtain ⟨h0_x47, he_x47⟩ := app_some hx_x47
 refine WO.append (e' := 67) (b := 64) (zs := (cs_qGrant z_qGrant).toArray) hS46 (OwnSl.nil (T := 67) (rel := R_qGrant) (I := I41)) rfl (by kernel_rfl) rfl (by kernel_rfl) (by kernel_rfl) (by kernel_rfl) rfl rfl rfl rfl (RSl.mono h_p0.Grants le) hS46.im h0_x47 he_x47 (fun _ _ _ => trivial) ?_
 intro a48 c49 w50 C51 hS52 ho53
 refine ya 4 1 rfl (yb (yf (yd nL2 (ya 0 2 rfl (yb (W.cb hr (fun hc hr => ?_) (fun hc hr => ?_)))))))
 refine yf (yd nL10 (ya 0 2 rfl ?_))
 obtain ⟨x54, hr, hb_x54, _, rfl, hc_x54⟩ := sl_ix (ho53.sl) hr
 refine y3 67 5 hb_x54 rfl (yc 3 1 [4] rfl (yal hc_x54 4 (hS52.rf m0) rfl (ya 5 1 rfl (yac (l1 := [6, 7, 8, 9]) 50 (x54.Option || (!p1.Option)) ?_ ?_))))
 refine yr x54.Option (fun hc => ?_) (fun hc => ?_)
 refine yl 46 hc ?_
 iterate 3 refine yt ?_
 exact yh 9 50 (.bool true) (WO.mk 46 hc (by rw [hc]; rfl))
 exact yl 46 hc (yc 6 1 [19] rfl (yg (hS52.rf m2) rfl (ya 8 1 rfl (yh 9 50 (.bool (!p1.Option)) (WO.mk 46 hc (by rw [hc]; rfl))))))
 refine yb (W.cb hr (fun hc hr => ?_) (fun hc hr => ?_))
 refine yd nL2 (yh 0 6 (.slice none 0 0) (ya 1 1 rfl (yb (W.ret (ye (ye ?_))))))
 obtain rfl := sj hr
 exact yam ⟨I41, none, 0, rfl, le, hS52.drop.drop.drop, SlAt.nil⟩
 refine yi (En.next (yd nL5 (ya 0 2 rfl ?_)))
 obtain ⟨x60, hr, h0_x60, h1_x60, hx_x60, ha_x60, _, _, rfl, hc_x60⟩ := sl_at (ho53.sl) hr
 refine yaq 67 5 ha_x60 h0_x60 h1_x60 ?_
 refine yc 3 1 [4] rfl (yas hS52 ho53 rfl (by kernel_rfl) rfl hx_x60 (u' := { x60 with Option := true }) 4 rfl rfl (by kernel_rfl) rfl rfl (fun cs hrel => (by obtain rfl := hrel; exact rfl)) (fun _ _ _ => trivial) ?_)
 intro w62 C63 hS61 ho64
 refine y7 9 rfl (show Value.slice a48 x47.length c49 = Value.slice a48 (x47.set (r44).toNat ({ x60 with Option := true })).length c49 by simp only [List.length_set]) ?_
 refine y0 nL3 (ya 0 1 rfl ?_)
 obtain ⟨I65, hl66, hS68, hp67⟩ := y6 ho64 hS61
 refine ya 1 2 rfl (yb (W.ret (ye ?_)))
 obtain rfl := sj hr
 exact yam ⟨I65, a48, c49, rfl, le, hS68.drop.drop, hp67⟩
 refine yi (En.next (yf (yd nL3 (ya 0 3 rfl (yb (W.cb hr (fun hc hr => ?_) (fun hc hr => ?_)))))))
 refine yd nL2 (yh 0 6 (.slice none 0 0) (ya 1 1 rfl (yb (W.ret (ye ?_)))))
 obtain rfl := sj hr
 exact yam ⟨I41, none, 0, rfl, le, hS52.drop.drop.drop, SlAt.nil⟩
 refine yi (En.next (yd nL15 (yc 0 2 [3] rfl (yg (hS52.rf m2) rfl (yc 3 2 [1] rfl (yg (hS52.rf m2) rfl (yc 6 1 [18] rfl (yg (hS52.rf m2) rfl (yc 8 1 [19] rfl (yg (hS52.rf m2) rfl (yh 10 69 (.agg (cs_qGrant (⟨p1.Role, p2, p1.Table, p1.Priv, p1.Option⟩ : qGrant)).toArray) (y4 (rel := R_qGrant) (xs := ([(⟨p1.Role, p2, p1.Table, p1.Priv, p1.Option⟩ : qGrant)] : List qGrant)) hS52 rfl (by kernel_rfl) rfl 67 5 [(cs_qGrant (⟨p1.Role, p2, p1.Table, p1.Priv, p1.Option⟩ : qGrant))] (by kernel_rfl) rfl ((Elr.cons rfl Elr.nil)) (fun _ _ _ => trivial) ?_))))))))))))
 intro a77 C75 w79 hS78 ho76
 have hS81 := hS78.front1
 obtain ⟨x82, hx_x82, hr⟩ := bsm hr
 obtain ⟨h0_x82, he_x82⟩ := app_some hx_x82
 refine yaj 67 64 (cs_qGrant z_qGrant) hS81 ho53 ho76.sl (hS81.rd m1) h0_x82 he_x82 rfl ?_
 intro a83 c84 w85 C86 hS87 ho88
 obtain ⟨I91, hl92, hS94, hp93⟩ := y6 ho88 hS87.front1.drop
 refine ya 13 2 rfl (yb (W.ret ?_))
 obtain rfl := sj hr
 exact yam ⟨I91, a83, c84, rfl, le, hS94.drop.drop, hp93⟩
end Go.Proofs.YtdmapcjbbbifbaaGreat
