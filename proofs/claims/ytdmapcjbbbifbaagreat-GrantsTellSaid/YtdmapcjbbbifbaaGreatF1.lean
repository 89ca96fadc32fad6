/- What functions of the program come to, each by a plain one. Conditions: none. -/
import Derived.Test.YtdmapcjbbbifbaaGreatProg
import Derived.Test.YtdmapcjbbbifbaaGreatShelf
set_option maxRecDepth 100000
namespace Go.Proofs.YtdmapcjbbbifbaaGreat
open Go.Gv
set_option maxHeartbeats 1000000
variable {E w : World} {I : Mem} {Os : List Mem}
noncomputable abbrev P := Tryz.prog
structure qValue where
  Kind : Int
  N : Int
  S : ByteArray
def cs_qValue (x : qValue) : List Value := [.int .i64 x.Kind, .int .i64 x.N, .string x.S]
def R_qValue (I : Mem) (cs : List Value) (x : qValue) : Prop := cs = cs_qValue x
instance : Mono R_qValue := ⟨fun hl h => (by obtain rfl := h; exact rfl), fun h c hv => (by obtain rfl := h; exact (by simp only [cs_qValue, List.mem_cons, List.not_mem_nil, or_false] at hv; rcases hv with rfl | rfl | rfl <;> first | rfl | rfl))⟩
def z_qValue : qValue := ⟨0, 0, (⟨#[]⟩ : ByteArray)⟩
structure qExpr where
  Kind : Int
  Op : Int
  V : qValue
  Name : ByteArray
  Kids : List qExpr
structure W_qExpr where
  Kids : SW
def cs_qExpr (x : qExpr) (v : W_qExpr) : List Value := [.int .i64 x.Kind, .int .i64 x.Op, .int .i64 x.V.Kind, .int .i64 x.V.N, .string x.V.S, .string x.Name, .slice v.Kids.a x.Kids.length v.Kids.c]
structure okF_qExpr (R : Mem → List Value → qExpr → Prop) (I : Mem) (x : qExpr) (v : W_qExpr) : Prop where
  Kids : RSl 7 R I v.Kids.a v.Kids.c x.Kids
theorem okF_qExpr.mono {R : Mem → List Value → qExpr → Prop} [Mono R] {I J : Mem} {x : qExpr} {v : W_qExpr} (h : okF_qExpr R I x v) (hl : I.Le J) : okF_qExpr R J x v := ⟨RSl.mono h.Kids hl⟩
theorem okF_qExpr.map {R S : Mem → List Value → qExpr → Prop} (hm : ∀ I cs x, R I cs x → S I cs x) {I : Mem} {x : qExpr} {v : W_qExpr} (h : okF_qExpr R I x v) : okF_qExpr S I x v := ⟨SlAt.map (hm I) h.Kids⟩
def RF_qExpr : Nat → Mem → List Value → qExpr → Prop
  | 0, _, _, _ => False
  | k + 1, I, cs, x => ∃ v : W_qExpr, cs = cs_qExpr x v ∧ okF_qExpr (RF_qExpr k) I x v
def Q_qExpr (I : Mem) (cs : List Value) (x : qExpr) : Prop := ∃ k, RF_qExpr k I cs x
abbrev ok_qExpr (I : Mem) (x : qExpr) (v : W_qExpr) : Prop := okF_qExpr Q_qExpr I x v
theorem RF_qExpr_up : ∀ (k : Nat) (I : Mem) (cs : List Value) (x : qExpr), RF_qExpr k I cs x → RF_qExpr (k + 1) I cs x
  | 0, _, _, _, h => h.elim
  | k + 1, I, cs, x, ⟨v, e, h⟩ => ⟨v, e, h.map (RF_qExpr_up k)⟩
theorem Q_qExpr_iff {I : Mem} {cs : List Value} {x : qExpr} : Q_qExpr I cs x ↔ ∃ v : W_qExpr, cs = cs_qExpr x v ∧ ok_qExpr I x v := by
  constructor
  · rintro ⟨k, h⟩
    cases k with
    | zero => exact h.elim
    | succ k =>
      obtain ⟨v, e, h⟩ := h
      exact ⟨v, e, h.map fun _ _ _ h => ⟨k, h⟩⟩
  · rintro ⟨v, e, h⟩
    obtain ⟨k, b⟩ := ya8 (R := RF_qExpr) (fun k cs x => RF_qExpr_up k I cs x) h.Kids
    exact ⟨k + 1, v, e, ⟨b⟩⟩
theorem RF_qExpr_mono : ∀ k : Nat, Mono (RF_qExpr k)
  | 0 => ⟨fun _ h => h.elim, fun h => h.elim⟩
  | k + 1 => by
    haveI := RF_qExpr_mono k
    exact ⟨fun hl h => (by obtain ⟨v, rfl, h⟩ := h; exact ⟨v, rfl, h.mono hl⟩), fun h c hv => (by obtain ⟨v, rfl, h⟩ := h; exact (by simp only [cs_qExpr, List.mem_cons, List.not_mem_nil, or_false] at hv; rcases hv with rfl | rfl | rfl | rfl | rfl | rfl | rfl <;> first | rfl | rfl))⟩
instance : Mono Q_qExpr := ⟨fun hl h => (by obtain ⟨k, h⟩ := h; exact ⟨k, (RF_qExpr_mono k).mono hl h⟩), fun h c hv => (by obtain ⟨k, h⟩ := h; exact (RF_qExpr_mono k).one h c hv)⟩
theorem ok_qExpr.mono {I J : Mem} {x : qExpr} {v : W_qExpr} (h : ok_qExpr I x v) (hl : I.Le J) : ok_qExpr J x v := okF_qExpr.mono h hl
def R_qExpr (I : Mem) (cs : List Value) (x : qExpr) : Prop := ∃ v : W_qExpr, cs = cs_qExpr x v ∧ ok_qExpr I x v
instance : Mono R_qExpr := ⟨fun hl h => (by obtain ⟨v, rfl, h⟩ := h; exact ⟨v, rfl, h.mono hl⟩), fun h c hv => (by obtain ⟨v, rfl, h⟩ := h; exact (by simp only [cs_qExpr, List.mem_cons, List.not_mem_nil, or_false] at hv; rcases hv with rfl | rfl | rfl | rfl | rfl | rfl | rfl <;> first | rfl | rfl))⟩
def z_qExpr : qExpr := ⟨0, 0, z_qValue, (⟨#[]⟩ : ByteArray), []⟩
def zw_qExpr : W_qExpr := ⟨⟨none, 0⟩⟩
theorem zok_qExpr {I : Mem} : ok_qExpr I z_qExpr zw_qExpr := ⟨SlAt.nil⟩
structure qColumn where
  Name : ByteArray
  Type_ : Int
  NotNull : Bool
def cs_qColumn (x : qColumn) : List Value := [.string x.Name, .int .i64 x.Type_, .bool x.NotNull]
def R_qColumn (I : Mem) (cs : List Value) (x : qColumn) : Prop := cs = cs_qColumn x
instance : Mono R_qColumn := ⟨fun hl h => (by obtain rfl := h; exact rfl), fun h c hv => (by obtain rfl := h; exact (by simp only [cs_qColumn, List.mem_cons, List.not_mem_nil, or_false] at hv; rcases hv with rfl | rfl | rfl <;> first | rfl | rfl))⟩
def z_qColumn : qColumn := ⟨(⟨#[]⟩ : ByteArray), 0, false⟩
structure qCons where
  Name : ByteArray
  Kind : Int
  Cols : List ByteArray
  Check : qExpr
  Table : ByteArray
  Refs : List ByteArray
structure W_qCons where
  Cols : SW
  Check : W_qExpr
  Refs : SW
def cs_qCons (x : qCons) (v : W_qCons) : List Value := [.string x.Name, .int .i64 x.Kind, .slice v.Cols.a x.Cols.length v.Cols.c, .int .i64 x.Check.Kind, .int .i64 x.Check.Op, .int .i64 x.Check.V.Kind, .int .i64 x.Check.V.N, .string x.Check.V.S, .string x.Check.Name, .slice v.Check.Kids.a x.Check.Kids.length v.Check.Kids.c, .string x.Table, .slice v.Refs.a x.Refs.length v.Refs.c]
structure ok_qCons (I : Mem) (x : qCons) (v : W_qCons) : Prop where
  Cols : RSl 1 RStr I v.Cols.a v.Cols.c x.Cols
  Check : ok_qExpr I x.Check v.Check
  Refs : RSl 1 RStr I v.Refs.a v.Refs.c x.Refs
theorem ok_qCons.mono {I J : Mem} {x : qCons} {v : W_qCons} (h : ok_qCons I x v) (hl : I.Le J) : ok_qCons J x v := ⟨RSl.mono h.Cols hl, h.Check.mono hl, RSl.mono h.Refs hl⟩
def R_qCons (I : Mem) (cs : List Value) (x : qCons) : Prop := ∃ v : W_qCons, cs = cs_qCons x v ∧ ok_qCons I x v
instance : Mono R_qCons := ⟨fun hl h => (by obtain ⟨v, rfl, h⟩ := h; exact ⟨v, rfl, h.mono hl⟩), fun h c hv => (by obtain ⟨v, rfl, h⟩ := h; exact (by simp only [cs_qCons, List.mem_cons, List.not_mem_nil, or_false] at hv; rcases hv with rfl | rfl | rfl | rfl | rfl | rfl | rfl | rfl | rfl | rfl | rfl | rfl <;> first | rfl | rfl))⟩
def z_qCons : qCons := ⟨(⟨#[]⟩ : ByteArray), 0, [], z_qExpr, (⟨#[]⟩ : ByteArray), []⟩
def zw_qCons : W_qCons := ⟨⟨none, 0⟩, zw_qExpr, ⟨none, 0⟩⟩
theorem zok_qCons {I : Mem} : ok_qCons I z_qCons zw_qCons := ⟨SlAt.nil, zok_qExpr, SlAt.nil⟩
structure qSet where
  Name : ByteArray
  E : qExpr
structure W_qSet where
  E : W_qExpr
def cs_qSet (x : qSet) (v : W_qSet) : List Value := [.string x.Name, .int .i64 x.E.Kind, .int .i64 x.E.Op, .int .i64 x.E.V.Kind, .int .i64 x.E.V.N, .string x.E.V.S, .string x.E.Name, .slice v.E.Kids.a x.E.Kids.length v.E.Kids.c]
structure ok_qSet (I : Mem) (x : qSet) (v : W_qSet) : Prop where
  E : ok_qExpr I x.E v.E
theorem ok_qSet.mono {I J : Mem} {x : qSet} {v : W_qSet} (h : ok_qSet I x v) (hl : I.Le J) : ok_qSet J x v := ⟨h.E.mono hl⟩
def R_qSet (I : Mem) (cs : List Value) (x : qSet) : Prop := ∃ v : W_qSet, cs = cs_qSet x v ∧ ok_qSet I x v
instance : Mono R_qSet := ⟨fun hl h => (by obtain ⟨v, rfl, h⟩ := h; exact ⟨v, rfl, h.mono hl⟩), fun h c hv => (by obtain ⟨v, rfl, h⟩ := h; exact (by simp only [cs_qSet, List.mem_cons, List.not_mem_nil, or_false] at hv; rcases hv with rfl | rfl | rfl | rfl | rfl | rfl | rfl | rfl <;> first | rfl | rfl))⟩
def z_qSet : qSet := ⟨(⟨#[]⟩ : ByteArray), z_qExpr⟩
def zw_qSet : W_qSet := ⟨zw_qExpr⟩
theorem zok_qSet {I : Mem} : ok_qSet I z_qSet zw_qSet := ⟨zok_qExpr⟩
structure qOrder where
  E : qExpr
  Desc : Bool
structure W_qOrder where
  E : W_qExpr
def cs_qOrder (x : qOrder) (v : W_qOrder) : List Value := [.int .i64 x.E.Kind, .int .i64 x.E.Op, .int .i64 x.E.V.Kind, .int .i64 x.E.V.N, .string x.E.V.S, .string x.E.Name, .slice v.E.Kids.a x.E.Kids.length v.E.Kids.c, .bool x.Desc]
structure ok_qOrder (I : Mem) (x : qOrder) (v : W_qOrder) : Prop where
  E : ok_qExpr I x.E v.E
theorem ok_qOrder.mono {I J : Mem} {x : qOrder} {v : W_qOrder} (h : ok_qOrder I x v) (hl : I.Le J) : ok_qOrder J x v := ⟨h.E.mono hl⟩
def R_qOrder (I : Mem) (cs : List Value) (x : qOrder) : Prop := ∃ v : W_qOrder, cs = cs_qOrder x v ∧ ok_qOrder I x v
instance : Mono R_qOrder := ⟨fun hl h => (by obtain ⟨v, rfl, h⟩ := h; exact ⟨v, rfl, h.mono hl⟩), fun h c hv => (by obtain ⟨v, rfl, h⟩ := h; exact (by simp only [cs_qOrder, List.mem_cons, List.not_mem_nil, or_false] at hv; rcases hv with rfl | rfl | rfl | rfl | rfl | rfl | rfl | rfl <;> first | rfl | rfl))⟩
def z_qOrder : qOrder := ⟨z_qExpr, false⟩
def zw_qOrder : W_qOrder := ⟨zw_qExpr⟩
theorem zok_qOrder {I : Mem} : ok_qOrder I z_qOrder zw_qOrder := ⟨zok_qExpr⟩
structure qStmt where
  Kind : Int
  Table : ByteArray
  Name : ByteArray
  Role : ByteArray
  Cols : List qColumn
  Cons : List qCons
  Names : List ByteArray
  Rows : List (List qExpr)
  Where : qExpr
  Sets : List qSet
  Order : List qOrder
  Limit : Int
  Priv : Int
  Option : Bool
  Kids : List qStmt
structure W_qStmt where
  Cols : SW
  Cons : SW
  Names : SW
  Rows : SW
  Where : W_qExpr
  Sets : SW
  Order : SW
  Kids : SW
def cs_qStmt (x : qStmt) (v : W_qStmt) : List Value := [.int .i64 x.Kind, .string x.Table, .string x.Name, .string x.Role, .slice v.Cols.a x.Cols.length v.Cols.c, .slice v.Cons.a x.Cons.length v.Cons.c, .slice v.Names.a x.Names.length v.Names.c, .slice v.Rows.a x.Rows.length v.Rows.c, .int .i64 x.Where.Kind, .int .i64 x.Where.Op, .int .i64 x.Where.V.Kind, .int .i64 x.Where.V.N, .string x.Where.V.S, .string x.Where.Name, .slice v.Where.Kids.a x.Where.Kids.length v.Where.Kids.c, .slice v.Sets.a x.Sets.length v.Sets.c, .slice v.Order.a x.Order.length v.Order.c, .int .i64 x.Limit, .int .i64 x.Priv, .bool x.Option, .slice v.Kids.a x.Kids.length v.Kids.c]
structure okF_qStmt (R : Mem → List Value → qStmt → Prop) (I : Mem) (x : qStmt) (v : W_qStmt) : Prop where
  Cols : RSl 3 R_qColumn I v.Cols.a v.Cols.c x.Cols
  Cons : RSl 12 R_qCons I v.Cons.a v.Cons.c x.Cons
  Names : RSl 1 RStr I v.Names.a v.Names.c x.Names
  Rows : RSl 1 (RSlC 7 Q_qExpr) I v.Rows.a v.Rows.c x.Rows
  Where : ok_qExpr I x.Where v.Where
  Sets : RSl 8 R_qSet I v.Sets.a v.Sets.c x.Sets
  Order : RSl 8 R_qOrder I v.Order.a v.Order.c x.Order
  Kids : RSl 21 R I v.Kids.a v.Kids.c x.Kids
theorem okF_qStmt.mono {R : Mem → List Value → qStmt → Prop} [Mono R] {I J : Mem} {x : qStmt} {v : W_qStmt} (h : okF_qStmt R I x v) (hl : I.Le J) : okF_qStmt R J x v := ⟨RSl.mono h.Cols hl, RSl.mono h.Cons hl, RSl.mono h.Names hl, RSl.mono h.Rows hl, h.Where.mono hl, RSl.mono h.Sets hl, RSl.mono h.Order hl, RSl.mono h.Kids hl⟩
theorem okF_qStmt.map {R S : Mem → List Value → qStmt → Prop} (hm : ∀ I cs x, R I cs x → S I cs x) {I : Mem} {x : qStmt} {v : W_qStmt} (h : okF_qStmt R I x v) : okF_qStmt S I x v := ⟨h.Cols, h.Cons, h.Names, h.Rows, h.Where, h.Sets, h.Order, SlAt.map (hm I) h.Kids⟩
def RF_qStmt : Nat → Mem → List Value → qStmt → Prop
  | 0, _, _, _ => False
  | k + 1, I, cs, x => ∃ v : W_qStmt, cs = cs_qStmt x v ∧ okF_qStmt (RF_qStmt k) I x v
def Q_qStmt (I : Mem) (cs : List Value) (x : qStmt) : Prop := ∃ k, RF_qStmt k I cs x
abbrev ok_qStmt (I : Mem) (x : qStmt) (v : W_qStmt) : Prop := okF_qStmt Q_qStmt I x v
theorem RF_qStmt_up : ∀ (k : Nat) (I : Mem) (cs : List Value) (x : qStmt), RF_qStmt k I cs x → RF_qStmt (k + 1) I cs x
  | 0, _, _, _, h => h.elim
  | k + 1, I, cs, x, ⟨v, e, h⟩ => ⟨v, e, h.map (RF_qStmt_up k)⟩
theorem Q_qStmt_iff {I : Mem} {cs : List Value} {x : qStmt} : Q_qStmt I cs x ↔ ∃ v : W_qStmt, cs = cs_qStmt x v ∧ ok_qStmt I x v := by
  constructor
  · rintro ⟨k, h⟩
    cases k with
    | zero => exact h.elim
    | succ k =>
      obtain ⟨v, e, h⟩ := h
      exact ⟨v, e, h.map fun _ _ _ h => ⟨k, h⟩⟩
  · rintro ⟨v, e, h⟩
    obtain ⟨k, b⟩ := ya8 (R := RF_qStmt) (fun k cs x => RF_qStmt_up k I cs x) h.Kids
    exact ⟨k + 1, v, e, ⟨h.Cols, h.Cons, h.Names, h.Rows, h.Where, h.Sets, h.Order, b⟩⟩
theorem RF_qStmt_mono : ∀ k : Nat, Mono (RF_qStmt k)
  | 0 => ⟨fun _ h => h.elim, fun h => h.elim⟩
  | k + 1 => by
    haveI := RF_qStmt_mono k
    exact ⟨fun hl h => (by obtain ⟨v, rfl, h⟩ := h; exact ⟨v, rfl, h.mono hl⟩), fun h c hv => (by obtain ⟨v, rfl, h⟩ := h; exact (by simp only [cs_qStmt, List.mem_cons, List.not_mem_nil, or_false] at hv; rcases hv with rfl | rfl | rfl | rfl | rfl | rfl | rfl | rfl | rfl | rfl | rfl | rfl | rfl | rfl | rfl | rfl | rfl | rfl | rfl | rfl | rfl <;> first | rfl | rfl))⟩
instance : Mono Q_qStmt := ⟨fun hl h => (by obtain ⟨k, h⟩ := h; exact ⟨k, (RF_qStmt_mono k).mono hl h⟩), fun h c hv => (by obtain ⟨k, h⟩ := h; exact (RF_qStmt_mono k).one h c hv)⟩
theorem ok_qStmt.mono {I J : Mem} {x : qStmt} {v : W_qStmt} (h : ok_qStmt I x v) (hl : I.Le J) : ok_qStmt J x v := okF_qStmt.mono h hl
def R_qStmt (I : Mem) (cs : List Value) (x : qStmt) : Prop := ∃ v : W_qStmt, cs = cs_qStmt x v ∧ ok_qStmt I x v
instance : Mono R_qStmt := ⟨fun hl h => (by obtain ⟨v, rfl, h⟩ := h; exact ⟨v, rfl, h.mono hl⟩), fun h c hv => (by obtain ⟨v, rfl, h⟩ := h; exact (by simp only [cs_qStmt, List.mem_cons, List.not_mem_nil, or_false] at hv; rcases hv with rfl | rfl | rfl | rfl | rfl | rfl | rfl | rfl | rfl | rfl | rfl | rfl | rfl | rfl | rfl | rfl | rfl | rfl | rfl | rfl | rfl <;> first | rfl | rfl))⟩
def z_qStmt : qStmt := ⟨0, (⟨#[]⟩ : ByteArray), (⟨#[]⟩ : ByteArray), (⟨#[]⟩ : ByteArray), [], [], [], [], z_qExpr, [], [], 0, 0, false, []⟩
def zw_qStmt : W_qStmt := ⟨⟨none, 0⟩, ⟨none, 0⟩, ⟨none, 0⟩, ⟨none, 0⟩, zw_qExpr, ⟨none, 0⟩, ⟨none, 0⟩, ⟨none, 0⟩⟩
theorem zok_qStmt {I : Mem} : ok_qStmt I z_qStmt zw_qStmt := ⟨SlAt.nil, SlAt.nil, SlAt.nil, SlAt.nil, zok_qExpr, SlAt.nil, SlAt.nil, SlAt.nil⟩
structure law19_Act where
  S : qStmt
  By : ByteArray
structure W_law19_Act where
  S : W_qStmt
def cs_law19_Act (x : law19_Act) (v : W_law19_Act) : List Value := [.int .i64 x.S.Kind, .string x.S.Table, .string x.S.Name, .string x.S.Role, .slice v.S.Cols.a x.S.Cols.length v.S.Cols.c, .slice v.S.Cons.a x.S.Cons.length v.S.Cons.c, .slice v.S.Names.a x.S.Names.length v.S.Names.c, .slice v.S.Rows.a x.S.Rows.length v.S.Rows.c, .int .i64 x.S.Where.Kind, .int .i64 x.S.Where.Op, .int .i64 x.S.Where.V.Kind, .int .i64 x.S.Where.V.N, .string x.S.Where.V.S, .string x.S.Where.Name, .slice v.S.Where.Kids.a x.S.Where.Kids.length v.S.Where.Kids.c, .slice v.S.Sets.a x.S.Sets.length v.S.Sets.c, .slice v.S.Order.a x.S.Order.length v.S.Order.c, .int .i64 x.S.Limit, .int .i64 x.S.Priv, .bool x.S.Option, .slice v.S.Kids.a x.S.Kids.length v.S.Kids.c, .string x.By]
structure ok_law19_Act (I : Mem) (x : law19_Act) (v : W_law19_Act) : Prop where
  S : ok_qStmt I x.S v.S
theorem ok_law19_Act.mono {I J : Mem} {x : law19_Act} {v : W_law19_Act} (h : ok_law19_Act I x v) (hl : I.Le J) : ok_law19_Act J x v := ⟨h.S.mono hl⟩
def R_law19_Act (I : Mem) (cs : List Value) (x : law19_Act) : Prop := ∃ v : W_law19_Act, cs = cs_law19_Act x v ∧ ok_law19_Act I x v
instance : Mono R_law19_Act := ⟨fun hl h => (by obtain ⟨v, rfl, h⟩ := h; exact ⟨v, rfl, h.mono hl⟩), fun h c hv => (by obtain ⟨v, rfl, h⟩ := h; exact (by simp only [cs_law19_Act, List.mem_cons, List.not_mem_nil, or_false] at hv; rcases hv with rfl | rfl | rfl | rfl | rfl | rfl | rfl | rfl | rfl | rfl | rfl | rfl | rfl | rfl | rfl | rfl | rfl | rfl | rfl | rfl | rfl | rfl <;> first | rfl | rfl))⟩
def z_law19_Act : law19_Act := ⟨z_qStmt, (⟨#[]⟩ : ByteArray)⟩
def zw_law19_Act : W_law19_Act := ⟨zw_qStmt⟩
theorem zok_law19_Act {I : Mem} : ok_law19_Act I z_law19_Act zw_law19_Act := ⟨zok_qStmt⟩
structure qGrant where
  To : ByteArray
  By : ByteArray
  Table : ByteArray
  Priv : Int
  Option : Bool
def cs_qGrant (x : qGrant) : List Value := [.string x.To, .string x.By, .string x.Table, .int .i64 x.Priv, .bool x.Option]
def R_qGrant (I : Mem) (cs : List Value) (x : qGrant) : Prop := cs = cs_qGrant x
instance : Mono R_qGrant := ⟨fun hl h => (by obtain rfl := h; exact rfl), fun h c hv => (by obtain rfl := h; exact (by simp only [cs_qGrant, List.mem_cons, List.not_mem_nil, or_false] at hv; rcases hv with rfl | rfl | rfl | rfl | rfl <;> first | rfl | rfl))⟩
def z_qGrant : qGrant := ⟨(⟨#[]⟩ : ByteArray), (⟨#[]⟩ : ByteArray), (⟨#[]⟩ : ByteArray), 0, false⟩
structure qRole where
  Name : ByteArray
  In : List ByteArray
structure W_qRole where
  In : SW
def cs_qRole (x : qRole) (v : W_qRole) : List Value := [.string x.Name, .slice v.In.a x.In.length v.In.c]
structure ok_qRole (I : Mem) (x : qRole) (v : W_qRole) : Prop where
  In : RSl 1 RStr I v.In.a v.In.c x.In
theorem ok_qRole.mono {I J : Mem} {x : qRole} {v : W_qRole} (h : ok_qRole I x v) (hl : I.Le J) : ok_qRole J x v := ⟨RSl.mono h.In hl⟩
def R_qRole (I : Mem) (cs : List Value) (x : qRole) : Prop := ∃ v : W_qRole, cs = cs_qRole x v ∧ ok_qRole I x v
instance : Mono R_qRole := ⟨fun hl h => (by obtain ⟨v, rfl, h⟩ := h; exact ⟨v, rfl, h.mono hl⟩), fun h c hv => (by obtain ⟨v, rfl, h⟩ := h; exact (by simp only [cs_qRole, List.mem_cons, List.not_mem_nil, or_false] at hv; rcases hv with rfl | rfl <;> first | rfl | rfl))⟩
def z_qRole : qRole := ⟨(⟨#[]⟩ : ByteArray), []⟩
def zw_qRole : W_qRole := ⟨⟨none, 0⟩⟩
theorem zok_qRole {I : Mem} : ok_qRole I z_qRole zw_qRole := ⟨SlAt.nil⟩
structure qIndex where
  Name : ByteArray
  Cols : List ByteArray
structure W_qIndex where
  Cols : SW
def cs_qIndex (x : qIndex) (v : W_qIndex) : List Value := [.string x.Name, .slice v.Cols.a x.Cols.length v.Cols.c]
structure ok_qIndex (I : Mem) (x : qIndex) (v : W_qIndex) : Prop where
  Cols : RSl 1 RStr I v.Cols.a v.Cols.c x.Cols
theorem ok_qIndex.mono {I J : Mem} {x : qIndex} {v : W_qIndex} (h : ok_qIndex I x v) (hl : I.Le J) : ok_qIndex J x v := ⟨RSl.mono h.Cols hl⟩
def R_qIndex (I : Mem) (cs : List Value) (x : qIndex) : Prop := ∃ v : W_qIndex, cs = cs_qIndex x v ∧ ok_qIndex I x v
instance : Mono R_qIndex := ⟨fun hl h => (by obtain ⟨v, rfl, h⟩ := h; exact ⟨v, rfl, h.mono hl⟩), fun h c hv => (by obtain ⟨v, rfl, h⟩ := h; exact (by simp only [cs_qIndex, List.mem_cons, List.not_mem_nil, or_false] at hv; rcases hv with rfl | rfl <;> first | rfl | rfl))⟩
def z_qIndex : qIndex := ⟨(⟨#[]⟩ : ByteArray), []⟩
def zw_qIndex : W_qIndex := ⟨⟨none, 0⟩⟩
theorem zok_qIndex {I : Mem} : ok_qIndex I z_qIndex zw_qIndex := ⟨SlAt.nil⟩
structure qTable where
  Name : ByteArray
  Owner : ByteArray
  Version : Int
  Cols : List qColumn
  Cons : List qCons
  Idx : List qIndex
structure W_qTable where
  Cols : SW
  Cons : SW
  Idx : SW
def cs_qTable (x : qTable) (v : W_qTable) : List Value := [.string x.Name, .string x.Owner, .int .i64 x.Version, .slice v.Cols.a x.Cols.length v.Cols.c, .slice v.Cons.a x.Cons.length v.Cons.c, .slice v.Idx.a x.Idx.length v.Idx.c]
structure ok_qTable (I : Mem) (x : qTable) (v : W_qTable) : Prop where
  Cols : RSl 3 R_qColumn I v.Cols.a v.Cols.c x.Cols
  Cons : RSl 12 R_qCons I v.Cons.a v.Cons.c x.Cons
  Idx : RSl 2 R_qIndex I v.Idx.a v.Idx.c x.Idx
theorem ok_qTable.mono {I J : Mem} {x : qTable} {v : W_qTable} (h : ok_qTable I x v) (hl : I.Le J) : ok_qTable J x v := ⟨RSl.mono h.Cols hl, RSl.mono h.Cons hl, RSl.mono h.Idx hl⟩
def R_qTable (I : Mem) (cs : List Value) (x : qTable) : Prop := ∃ v : W_qTable, cs = cs_qTable x v ∧ ok_qTable I x v
instance : Mono R_qTable := ⟨fun hl h => (by obtain ⟨v, rfl, h⟩ := h; exact ⟨v, rfl, h.mono hl⟩), fun h c hv => (by obtain ⟨v, rfl, h⟩ := h; exact (by simp only [cs_qTable, List.mem_cons, List.not_mem_nil, or_false] at hv; rcases hv with rfl | rfl | rfl | rfl | rfl | rfl <;> first | rfl | rfl))⟩
def z_qTable : qTable := ⟨(⟨#[]⟩ : ByteArray), (⟨#[]⟩ : ByteArray), 0, [], [], []⟩
def zw_qTable : W_qTable := ⟨⟨none, 0⟩, ⟨none, 0⟩, ⟨none, 0⟩⟩
theorem zok_qTable {I : Mem} : ok_qTable I z_qTable zw_qTable := ⟨SlAt.nil, SlAt.nil, SlAt.nil⟩
structure qCatalog where
  Version : Int
  Tables : List qTable
  Roles : List qRole
  Grants : List qGrant
structure W_qCatalog where
  Tables : SW
  Roles : SW
  Grants : SW
def cs_qCatalog (x : qCatalog) (v : W_qCatalog) : List Value := [.int .i64 x.Version, .slice v.Tables.a x.Tables.length v.Tables.c, .slice v.Roles.a x.Roles.length v.Roles.c, .slice v.Grants.a x.Grants.length v.Grants.c]
structure ok_qCatalog (I : Mem) (x : qCatalog) (v : W_qCatalog) : Prop where
  Tables : RSl 6 R_qTable I v.Tables.a v.Tables.c x.Tables
  Roles : RSl 2 R_qRole I v.Roles.a v.Roles.c x.Roles
  Grants : RSl 5 R_qGrant I v.Grants.a v.Grants.c x.Grants
theorem ok_qCatalog.mono {I J : Mem} {x : qCatalog} {v : W_qCatalog} (h : ok_qCatalog I x v) (hl : I.Le J) : ok_qCatalog J x v := ⟨RSl.mono h.Tables hl, RSl.mono h.Roles hl, RSl.mono h.Grants hl⟩
def R_qCatalog (I : Mem) (cs : List Value) (x : qCatalog) : Prop := ∃ v : W_qCatalog, cs = cs_qCatalog x v ∧ ok_qCatalog I x v
instance : Mono R_qCatalog := ⟨fun hl h => (by obtain ⟨v, rfl, h⟩ := h; exact ⟨v, rfl, h.mono hl⟩), fun h c hv => (by obtain ⟨v, rfl, h⟩ := h; exact (by simp only [cs_qCatalog, List.mem_cons, List.not_mem_nil, or_false] at hv; rcases hv with rfl | rfl | rfl | rfl <;> first | rfl | rfl))⟩
def z_qCatalog : qCatalog := ⟨0, [], [], []⟩
def zw_qCatalog : W_qCatalog := ⟨⟨none, 0⟩, ⟨none, 0⟩, ⟨none, 0⟩⟩
theorem zok_qCatalog {I : Mem} : ok_qCatalog I z_qCatalog zw_qCatalog := ⟨SlAt.nil, SlAt.nil, SlAt.nil⟩
def r10_count_fu : Nat → qExpr → Int → Option (Int × Bool)
  | 0, _, _ => none
  | fu + 1, p0, p1 => (some ((decide (p1 ≤ 0)) || (decide ((p0.Kids.length : Int) > 12)))).bind (fun (q5 : Bool) => (some ((q5 || (decide ((p0.Name.size : Int) > 100))) || (decide ((p0.V.S.size : Int) > 100)))).bind (fun (q10 : Bool) => (bif q10 then some (0, false) else (forN (fun (i18 : Nat) => fun (s17 : Int) => (idx p0.Kids (i18 : Int)).bind (fun x25 => (r10_count_fu fu x25 s17).bind (fun (r31, r32) => (bif (!r32) then some (.inr ((0 : Int), false)) else some (.inl r31))))) p0.Kids.length 0 (w64 (p1 - 1))).bind (fun (t : Int ⊕ ((Int × Bool))) => match t with | .inl s17 => some (s17, true) | .inr (s34, s35) => some (s34, s35)))))
noncomputable def r10_count (p0 : qExpr) (p1 : Int) : Option (Int × Bool) := anyFuel (fun fu => r10_count_fu fu p0 p1)
theorem r10_count_fu_ok : ∀ (fu : Nat) {E w : World} {I : Mem} {Os : List Mem} {p0 : qExpr} {p1 : Int} {w_p0 : W_qExpr} (h_p0 : ok_qExpr I p0 w_p0) (hS : St E w I Os) {r : Int × Bool} (hr : r10_count_fu fu p0 p1 = some r),
    Calls P 82 #[(.agg (cs_qExpr p0 w_p0).toArray), (Iv p1)] w (fun e w' => ∃ I', e = .returned (.tuple #[(Iv r.1), (.bool r.2)]) ∧ I.Le I' ∧ St E w' I' Os) := by
 intro fu
 induction fu with
 | zero => intro E w I Os p0 p1 w_p0 h_p0 hS r hr; cases hr
 | succ fu ih =>
 intro E w I Os p0 p1 w_p0 h_p0 hS r hr
 refine calls_W (fn := Tryz.f82) rfl rfl rfl ?_
 unfold r10_count_fu at hr
 refine yd nL3 ?_
 refine yx hS (cs_qExpr p0 w_p0) 39 ?_
 intro b1 w4 hS3
 refine WO.vs 1 [(4, Iv 0), (5, .bool false)] (yb (ye (yd nL21 ?_)))
 refine WO.vs 0 [(8, Iv p1), (9, .bool (decide (p1 ≤ 0))), (10, .bool (decide (p1 ≤ 0)))] ?_
 obtain ⟨q5, hx_q5, hr⟩ := bsm hr
 replace hx_q5 := sj hx_q5
 refine yac (l1 := [3, 4, 5, 6, 7]) 15 q5 ?_ ?_
 refine yp (decide (p1 ≤ 0)) (fun hc => ?_) (fun hc => ?_)
 refine yj 10 hc ?_
 iterate 4 refine yt ?_
 exact ya 7 15 (.bool true) (WO.mk 10 hc (by rw [← hx_q5, hc]; rfl))
 refine yj 10 hc (ya 3 11 (Pt b1 6) (yf (v := (Sl w_p0.Kids.a p0.Kids w_p0.Kids.c)) (hS3.rf m0) ?_))
 exact WO.vs 5 [(13, Nv p0.Kids.length), (14, .bool (decide ((p0.Kids.length : Int) > 12))), (15, .bool (decide ((p0.Kids.length : Int) > 12)))] (WO.mk 10 hc (by rw [← hx_q5, hc]; rfl))
 refine ya 8 16 (.bool q5) (yac (l1 := [9, 10, 11, 12, 13]) 21 (q5 || (decide ((p0.Name.size : Int) > 100))) ?_ ?_)
 refine yp q5 (fun hc => ?_) (fun hc => ?_)
 refine yj 16 hc ?_
 iterate 4 refine yt ?_
 exact ya 13 21 (.bool true) (WO.mk 16 hc (by rw [hc]; rfl))
 refine yj 16 hc (ya 9 17 (Pt b1 5) (yf (v := (.string p0.Name)) (hS3.rf m0) ?_))
 exact WO.vs 11 [(19, Iv (p0.Name.size : Int)), (20, .bool (decide ((p0.Name.size : Int) > 100))), (21, .bool (decide ((p0.Name.size : Int) > 100)))] (WO.mk 16 hc (by rw [hc]; rfl))
 refine ya 14 22 (.bool (q5 || (decide ((p0.Name.size : Int) > 100)))) ?_
 obtain ⟨q10, hx_q10, hr⟩ := bsm hr
 replace hx_q10 := sj hx_q10
 refine yac (l1 := [15, 16, 17, 18, 19, 20]) 28 q10 ?_ ?_
 refine yp (q5 || (decide ((p0.Name.size : Int) > 100))) (fun hc => ?_) (fun hc => ?_)
 refine yj 22 hc ?_
 iterate 5 refine yt ?_
 exact ya 20 28 (.bool true) (WO.mk 22 hc (by rw [← hx_q10, hc]; rfl))
 refine yj 22 hc (WO.vs 15 [(23, Pt b1 2), (24, Pt b1 4)] (yf (v := (.string p0.V.S)) (hS3.rf m0) ?_))
 exact WO.vs 18 [(26, Iv (p0.V.S.size : Int)), (27, .bool (decide ((p0.V.S.size : Int) > 100))), (28, .bool (decide ((p0.V.S.size : Int) > 100)))] (WO.mk 22 hc (by rw [← hx_q10, hc]; rfl))
 refine yb (W.cb hr (fun hc hr => ?_) (fun hc hr => ?_))
 refine yd nL2 ?_
 refine WO.vs 0 [(4, Iv 0), (5, .bool false)] (yb (W.ret (yc ?_)))
 obtain rfl := sj hr
 exact yaj ⟨I, rfl, lr, hS3.drop⟩
 refine yg (En.next (yd nL3 ?_))
 refine WO.vs 0 [(29, Iv p1), (30, Iv (w64 (p1 - 1))), (1, Iv (w64 (p1 - 1)))] (yb (ye (yd [0] ?_)))
 refine ya 0 6 (Iv 0) (yb (W.block ?_))
 obtain ⟨t14, hloop19, hr⟩ := bsm hr
 have hlt23 := (h_p0.Kids).len_lt
 refine W.wk (W.forN (m := p0.Kids.length) hloop19 (fun (i18 : Nat) => fun (s17 : Int) fr w => ∃ I15, fr = [(1, Iv s17), (2, Pt b1 0), (6, Nv i18)] ∧ I.Le I15 ∧ St E w I15 ((Bx b1 (cs_qExpr p0 w_p0) 39) :: Os)) ⟨I, rfl, lr, hS3⟩ ?_ ?_)
 rintro i18 s17 _ w20 hi24 ⟨I15, rfl, hl16, hS21⟩ x22 hr1 hext14
 refine ye (yd nL5 ?_)
 refine WO.vs 0 [(31, Nv i18), (32, Pt b1 6)] (yf (v := (Sl w_p0.Kids.a p0.Kids w_p0.Kids.c)) (hS21.rf m0) ?_)
 refine WO.vs 3 [(34, Nv p0.Kids.length), (35, .bool (decide ((i18 : Int) < (p0.Kids.length : Int))))] (yb (yag (fun hc => ?_)))
 clear hc
 refine yg (En.next (ye (W.block (yd [0] ?_))))
 refine ya 0 7 (.bool false) (yz nL12 ?_)
 refine ya 0 39 (Pt b1 6) (yf (v := (Sl w_p0.Kids.a p0.Kids w_p0.Kids.c)) (hS21.rf m0) ?_)
 refine ya 2 41 (Nv i18) ?_
 obtain ⟨x25, hx_x25, hr1⟩ := bsm hr1
 obtain ⟨h0_x25, h1_x25, hx_x25⟩ := idx_some hx_x25
 obtain ⟨ha_x25, cs_x25, hn_x25, hr_x25, hc_x25⟩ := ((RSl.mono h_p0.Kids hl16)).el _ _ hx_x25
 obtain ⟨w_x25, rfl, h_x25⟩ := Q_qExpr_iff.1 hr_x25
 refine yq 39 7 ha_x25 h0_x25 h1_x25 ?_
 refine yai ((cs_qExpr x25 w_x25)) hc_x25 0 hS21.rm ?_
 refine ya 5 44 (Iv s17) ?_
 obtain ⟨⟨r31, r32⟩, hx_r26, hr1⟩ := bsm hr1
 refine y6 (ih h_x25 hS21 hx_r26) ?_
 intro I28 w27 hl29 hS30
 refine WO.vs 7 [(38, .tuple #[(Iv r31), (.bool r32)]), (46, Iv r31), (47, .bool r32), (1, Iv r31), (7, .bool r32)] (yz nL2 ?_)
 refine WO.vs 0 [(48, .bool r32), (49, .bool (!r32))] (yb (W.cb hr1 (fun hc hr1 => ?_) (fun hc hr1 => ?_)))
 refine yd nL2 ?_
 refine WO.vs 0 [(4, Iv 0), (5, .bool false)] (yb (W.ret (yh (yc (ym ?_)))))
 obtain rfl := hext14 _ (sj hr1).symm
 refine yh (yc ?_)
 obtain rfl := sj hr
 exact yaj ⟨I28, rfl, (hl16.trans hl29), hS30.drop⟩
 refine yg (yi (En.next (yaa nL3 ?_)))
 refine ya 0 36 (Nv i18) (y0 (j := i18) rfl (by kernel_rfl) rfl (by first | omega | (dsimp only at *; omega) | (simp only [List.length_cons, List.length_nil] at *; omega)) ?_)
 exact ya 2 6 (Iv ((i18 + 1 : Nat) : Int)) (WO.nil (yo ⟨r31, (sj hr1).symm, I28, rfl, (hl16.trans hl29), hS30⟩))
 rintro s17 _ w38 ⟨I15, rfl, hl16, hS39⟩ he
 cases he
 refine ye (yd nL5 ?_)
 refine WO.vs 0 [(31, Nv p0.Kids.length), (32, Pt b1 6)] (yf (v := (Sl w_p0.Kids.a p0.Kids w_p0.Kids.c)) (hS39.rf m0) ?_)
 refine WO.vs 3 [(34, Nv p0.Kids.length), (35, .bool (decide ((p0.Kids.length : Int) < (p0.Kids.length : Int))))] (yb (yah (fun hc => ?_)))
 clear hc
 refine yy (yk (yl (yn (En.next (yd nL3 ?_)))))
 refine WO.vs 0 [(50, Iv s17), (4, Iv s17), (5, .bool true)] (yb (W.ret ?_))
 obtain rfl := sj hr
 exact yaj ⟨I15, rfl, hl16, hS39.drop⟩
theorem r10_count_ok {p0 : qExpr} {p1 : Int} {w_p0 : W_qExpr} (h_p0 : ok_qExpr I p0 w_p0) (hS : St E w I Os) {r : Int × Bool} (hr : r10_count p0 p1 = some r) :
    Calls P 82 #[(.agg (cs_qExpr p0 w_p0).toArray), (Iv p1)] w (fun e w' => ∃ I', e = .returned (.tuple #[(Iv r.1), (.bool r.2)]) ∧ I.Le I' ∧ St E w' I' Os) := by
 obtain ⟨fu, hf⟩ := anyFuel_some hr
 exact r10_count_fu_ok fu h_p0 hS hf
noncomputable def r10_Few (p0 : qExpr) (p1 : Int) : Option Bool := (r10_count p0 p1).bind (fun (r10, r11) => some r11)
theorem r10_Few_ok {p0 : qExpr} {p1 : Int} {w_p0 : W_qExpr} (h_p0 : ok_qExpr I p0 w_p0) (hS : St E w I Os) {r : Bool} (hr : r10_Few p0 p1 = some r) :
    Calls P 49 #[(.agg (cs_qExpr p0 w_p0).toArray), (Iv p1)] w (fun e w' => ∃ I', e = .returned (.bool r) ∧ I.Le I' ∧ St E w' I' Os) := by
 refine calls_W (fn := Tryz.f49) rfl rfl rfl ?_
 unfold r10_Few at hr
 refine yd nL2 ?_
 refine yx hS (cs_qExpr p0 w_p0) 39 ?_
 intro b1 w4 hS3
 refine ya 1 4 (.bool false) (yz nL8 ?_)
 refine yu ((cs_qExpr p0 w_p0)) (hS3.rf m0) ?_
 refine ya 1 9 (Iv p1) ?_
 obtain ⟨⟨r10, r11⟩, hx_r5, hr⟩ := bsm hr
 refine y6 (r10_count_ok h_p0 hS3 hx_r5) ?_
 intro I7 w6 hl8 hS9
 refine WO.vs 3 [(7, .tuple #[(Iv r10), (.bool r11)]), (11, Iv r10), (12, .bool r11), (5, Iv r10), (6, .bool r11)] (yz nL2 ?_)
 refine WO.vs 0 [(13, .bool r11), (4, .bool r11)] (yb (W.ret ?_))
 obtain rfl := sj hr
 exact yr ⟨I7, rfl, hl8, hS9.drop⟩
noncomputable def r12_Few_fu : Nat → qStmt → Option Bool
  | 0, _ => none
  | fu + 1, p0 => (some ((decide ((p0.Cols.length : Int) > 12)) || (decide ((p0.Cons.length : Int) > 12)))).bind (fun (q5 : Bool) => (some ((q5 || (decide ((p0.Names.length : Int) > 12))) || (decide ((p0.Rows.length : Int) > 12)))).bind (fun (q10 : Bool) => (some ((q10 || (decide ((p0.Sets.length : Int) > 12))) || (decide ((p0.Order.length : Int) > 12)))).bind (fun (q15 : Bool) => ((bif (q15 || (decide ((p0.Kids.length : Int) > 1))) then some true else (r10_Few p0.Where 60).bind (fun r29 => some (!r29)))).bind (fun (j20 : Bool) => (bif j20 then some false else (app 16 ([p0.Table, p0.Name, p0.Role] : List ByteArray) p0.Names).bind (fun x40 => (forE (fun (i51 : Nat) => fun (s50 : List ByteArray) => (idx p0.Cols (i51 : Int)).bind (fun x59 => (app 16 s50 ([x59.Name] : List ByteArray)).bind (fun x68 => some x68))) p0.Cols.length 0 x40).bind (fun s50 => (forN (fun (i84 : Nat) => fun (s83 : List ByteArray) => (idx p0.Cons (i84 : Int)).bind (fun x91 => (some ((decide ((x91.Cols.length : Int) > 12)) || (decide ((x91.Refs.length : Int) > 12)))).bind (fun (q98 : Bool) => ((bif q98 then some true else (r10_Few x91.Check 60).bind (fun r112 => some (!r112)))).bind (fun (j101 : Bool) => (bif j101 then some (.inr false) else (app 16 s83 ([x91.Name, x91.Table] : List ByteArray)).bind (fun x132 => (app 16 x132 x91.Cols).bind (fun x141 => (app 16 x141 x91.Refs).bind (fun x148 => some (.inl x148))))))))) p0.Cons.length 0 s50).bind (fun (t : (List ByteArray) ⊕ (Bool)) => match t with | .inl s83 => (forN (fun (i163 : Nat) => fun (_s : Unit) => (idx p0.Rows (i163 : Int)).bind (fun x170 => (bif (decide ((x170.length : Int) > 12)) then some (.inr false) else (loopO (fun (s180 : Int) => (idx p0.Rows (i163 : Int)).bind (fun x185 => (bif (decide (s180 < (x185.length : Int))) then (idx p0.Rows (i163 : Int)).bind (fun x186 => (idx x186 s180).bind (fun x187 => (r10_Few x187 60).bind (fun r193 => (bif (!r193) then some (.inr (.inl false)) else some (.inl (w64 (s180 + 1))))))) else some (.inr (.inr ()))))) 0).bind (fun (t : Bool ⊕ Unit) => match t with | (.inl s195) => some (.inr s195) | (.inr ()) => some (.inl ()))))) p0.Rows.length 0 ()).bind (fun (t : Unit ⊕ (Bool)) => match t with | .inl _ => (forN (fun (i207 : Nat) => fun (s206 : List ByteArray) => (idx p0.Sets (i207 : Int)).bind (fun x214 => (app 16 s206 ([x214.Name] : List ByteArray)).bind (fun x223 => (idx p0.Sets (i207 : Int)).bind (fun x232 => (r10_Few x232.E 60).bind (fun r238 => (bif (!r238) then some (.inr false) else some (.inl x223))))))) p0.Sets.length 0 s83).bind (fun (t : (List ByteArray) ⊕ (Bool)) => match t with | .inl s206 => (forN (fun (i251 : Nat) => fun (_s : Unit) => (idx p0.Order (i251 : Int)).bind (fun x258 => (r10_Few x258.E 60).bind (fun r264 => (bif (!r264) then some (.inr false) else some (.inl ()))))) p0.Order.length 0 ()).bind (fun (t : Unit ⊕ (Bool)) => match t with | .inl _ => (forN (fun (i276 : Nat) => fun (_s : Unit) => (idx s206 (i276 : Int)).bind (fun x283 => (bif (decide ((x283.size : Int) > 100)) then some (.inr false) else some (.inl ())))) s206.length 0 ()).bind (fun (t : Unit ⊕ (Bool)) => match t with | .inl _ => ((bif ((p0.Kids.length : Int) == 0) then some true else (idx p0.Kids 0).bind (fun x298 => ((bif ((x298.Kids.length : Int) == 0) then (idx p0.Kids 0).bind (fun x303 => (r12_Few_fu fu x303).bind (fun r309 => some r309)) else some false)).bind (fun (j299 : Bool) => some j299)))).bind (fun (j292 : Bool) => some j292) | .inr s285 => some s285) | .inr s266 => some s266) | .inr s240 => some s240) | .inr s172 => some s172) | .inr s118 => some s118))))))))
noncomputable def r12_Few (p0 : qStmt) : Option Bool := anyFuel (fun fu => r12_Few_fu fu p0)
theorem r12_Few_fu_ok : ∀ (fu : Nat) {E w : World} {I : Mem} {Os : List Mem} {p0 : qStmt} {w_p0 : W_qStmt} (h_p0 : ok_qStmt I p0 w_p0) (hS : St E w I Os) {r : Bool} (hr : r12_Few_fu fu p0 = some r),
    Calls P 28 #[(.agg (cs_qStmt p0 w_p0).toArray)] w (fun e w' => ∃ I', e = .returned (.bool r) ∧ I.Le I' ∧ St E w' I' Os) := by
 intro fu
 induction fu with
 | zero => intro E w I Os p0 w_p0 h_p0 hS r hr; cases hr
 | succ fu ih =>
 intro E w I Os p0 w_p0 h_p0 hS r hr
 refine calls_W (fn := Tryz.f28) rfl rfl rfl ?_
 unfold r12_Few_fu at hr
 refine yd nL2 ?_
 refine yx hS (cs_qStmt p0 w_p0) 44 ?_
 intro b1 w4 hS3
 refine ya 1 2 (.bool false) (yb (ye (yd nL46 ?_)))
 refine ya 0 12 (Pt b1 4) (yf (v := (Sl w_p0.Cols.a p0.Cols w_p0.Cols.c)) (hS3.rf m0) ?_)
 refine WO.vs 2 [(14, Nv p0.Cols.length), (15, .bool (decide ((p0.Cols.length : Int) > 12))), (16, .bool (decide ((p0.Cols.length : Int) > 12)))] ?_
 obtain ⟨q5, hx_q5, hr⟩ := bsm hr
 replace hx_q5 := sj hx_q5
 refine yac (l1 := [5, 6, 7, 8, 9]) 21 q5 ?_ ?_
 refine yp (decide ((p0.Cols.length : Int) > 12)) (fun hc => ?_) (fun hc => ?_)
 refine yj 16 hc ?_
 iterate 4 refine yt ?_
 exact ya 9 21 (.bool true) (WO.mk 16 hc (by rw [← hx_q5, hc]; rfl))
 refine yj 16 hc (ya 5 17 (Pt b1 5) (yf (v := (Sl w_p0.Cons.a p0.Cons w_p0.Cons.c)) (hS3.rf m0) ?_))
 exact WO.vs 7 [(19, Nv p0.Cons.length), (20, .bool (decide ((p0.Cons.length : Int) > 12))), (21, .bool (decide ((p0.Cons.length : Int) > 12)))] (WO.mk 16 hc (by rw [← hx_q5, hc]; rfl))
 refine ya 10 22 (.bool q5) (yac (l1 := [11, 12, 13, 14, 15]) 27 (q5 || (decide ((p0.Names.length : Int) > 12))) ?_ ?_)
 refine yp q5 (fun hc => ?_) (fun hc => ?_)
 refine yj 22 hc ?_
 iterate 4 refine yt ?_
 exact ya 15 27 (.bool true) (WO.mk 22 hc (by rw [hc]; rfl))
 refine yj 22 hc (ya 11 23 (Pt b1 6) (yf (v := (Sl w_p0.Names.a p0.Names w_p0.Names.c)) (hS3.rf m0) ?_))
 exact WO.vs 13 [(25, Nv p0.Names.length), (26, .bool (decide ((p0.Names.length : Int) > 12))), (27, .bool (decide ((p0.Names.length : Int) > 12)))] (WO.mk 22 hc (by rw [hc]; rfl))
 refine ya 16 28 (.bool (q5 || (decide ((p0.Names.length : Int) > 12)))) ?_
 obtain ⟨q10, hx_q10, hr⟩ := bsm hr
 replace hx_q10 := sj hx_q10
 refine yac (l1 := [17, 18, 19, 20, 21]) 33 q10 ?_ ?_
 refine yp (q5 || (decide ((p0.Names.length : Int) > 12))) (fun hc => ?_) (fun hc => ?_)
 refine yj 28 hc ?_
 iterate 4 refine yt ?_
 exact ya 21 33 (.bool true) (WO.mk 28 hc (by rw [← hx_q10, hc]; rfl))
 refine yj 28 hc (ya 17 29 (Pt b1 7) (yf (v := (Sl w_p0.Rows.a p0.Rows w_p0.Rows.c)) (hS3.rf m0) ?_))
 exact WO.vs 19 [(31, Nv p0.Rows.length), (32, .bool (decide ((p0.Rows.length : Int) > 12))), (33, .bool (decide ((p0.Rows.length : Int) > 12)))] (WO.mk 28 hc (by rw [← hx_q10, hc]; rfl))
 refine ya 22 34 (.bool q10) (yac (l1 := [23, 24, 25, 26, 27]) 39 (q10 || (decide ((p0.Sets.length : Int) > 12))) ?_ ?_)
 refine yp q10 (fun hc => ?_) (fun hc => ?_)
 refine yj 34 hc ?_
 iterate 4 refine yt ?_
 exact ya 27 39 (.bool true) (WO.mk 34 hc (by rw [hc]; rfl))
 refine yj 34 hc (ya 23 35 (Pt b1 15) (yf (v := (Sl w_p0.Sets.a p0.Sets w_p0.Sets.c)) (hS3.rf m0) ?_))
 exact WO.vs 25 [(37, Nv p0.Sets.length), (38, .bool (decide ((p0.Sets.length : Int) > 12))), (39, .bool (decide ((p0.Sets.length : Int) > 12)))] (WO.mk 34 hc (by rw [hc]; rfl))
 refine ya 28 40 (.bool (q10 || (decide ((p0.Sets.length : Int) > 12)))) ?_
 obtain ⟨q15, hx_q15, hr⟩ := bsm hr
 replace hx_q15 := sj hx_q15
 refine yac (l1 := [29, 30, 31, 32, 33]) 45 q15 ?_ ?_
 refine yp (q10 || (decide ((p0.Sets.length : Int) > 12))) (fun hc => ?_) (fun hc => ?_)
 refine yj 40 hc ?_
 iterate 4 refine yt ?_
 exact ya 33 45 (.bool true) (WO.mk 40 hc (by rw [← hx_q15, hc]; rfl))
 refine yj 40 hc (ya 29 41 (Pt b1 16) (yf (v := (Sl w_p0.Order.a p0.Order w_p0.Order.c)) (hS3.rf m0) ?_))
 exact WO.vs 31 [(43, Nv p0.Order.length), (44, .bool (decide ((p0.Order.length : Int) > 12))), (45, .bool (decide ((p0.Order.length : Int) > 12)))] (WO.mk 40 hc (by rw [← hx_q15, hc]; rfl))
 refine ya 34 46 (.bool q15) (yac (l1 := [35, 36, 37, 38, 39]) 51 (q15 || (decide ((p0.Kids.length : Int) > 1))) ?_ ?_)
 refine yp q15 (fun hc => ?_) (fun hc => ?_)
 refine yj 46 hc ?_
 iterate 4 refine yt ?_
 exact ya 39 51 (.bool true) (WO.mk 46 hc (by rw [hc]; rfl))
 refine yj 46 hc (ya 35 47 (Pt b1 20) (yf (v := (Sl w_p0.Kids.a p0.Kids w_p0.Kids.c)) (hS3.rf m0) ?_))
 exact WO.vs 37 [(49, Nv p0.Kids.length), (50, .bool (decide ((p0.Kids.length : Int) > 1))), (51, .bool (decide ((p0.Kids.length : Int) > 1)))] (WO.mk 46 hc (by rw [hc]; rfl))
 refine ya 40 52 (.bool (q15 || (decide ((p0.Kids.length : Int) > 1)))) ?_
 obtain ⟨j20, hr1, hr⟩ := bsm hr
 refine WO.jw (l1 := [41, 42, 43, 44, 45]) (J := (fun fr w => ∃ I22, fr = [(1, Pt b1 0), (57, .bool j20)] ∧ I.Le I22 ∧ St E w I22 ((Bx b1 (cs_qStmt p0 w_p0) 44) :: Os))) ?_ ?_
 refine WO.cb hr1 (fun hc hr1 => ?_) (fun hc hr1 => ?_)
 refine yj 52 hc ?_
 iterate 4 refine yt ?_
 refine ya 45 57 (.bool true) ?_
 obtain rfl := sj hr1
 exact yv ⟨I, rfl, lr, hS3⟩
 refine yj 52 hc (ya 41 53 (Pt b1 8) (yu ((cs_qExpr p0.Where w_p0.Where)) (hS3.rf m0) ?_))
 obtain ⟨r29, hx_r24, hr1⟩ := bsm hr1
 refine y6 (r10_Few_ok h_p0.Where hS3 hx_r24) ?_
 intro I26 w25 hl27 hS28
 refine WO.vs 44 [(56, .bool (!r29)), (57, .bool (!r29))] ?_
 obtain rfl := sj hr1
 exact yv ⟨I26, rfl, hl27, hS28⟩
 rintro _ w30 ⟨I22, rfl, hl23, hS31⟩
 refine yb (W.cb hr (fun hc hr => ?_) (fun hc hr => ?_))
 refine yd [0] ?_
 refine ya 0 2 (.bool false) (yb (W.ret (yc ?_)))
 obtain rfl := sj hr
 exact yr ⟨I22, rfl, hl23, hS31.drop⟩
 refine yg (En.next (yd nL8 ?_))
 refine ya 0 58 (Pt b1 1) (yf (v := (.string p0.Table)) (hS31.rf m0) ?_)
 refine ya 2 60 (Pt b1 2) (yf (v := (.string p0.Name)) (hS31.rf m0) ?_)
 refine ya 4 62 (Pt b1 3) (yf (v := (.string p0.Role)) (hS31.rf m0) ?_)
 refine y3 (rel := RStr) (xs := ([p0.Table, p0.Name, p0.Role] : List ByteArray)) hS31 rfl (by kernel_rfl) rfl 9 1 [[(.string p0.Table)], [(.string p0.Name)], [(.string p0.Role)]] (by kernel_rfl) rfl ((Elr.cons rfl (Elr.cons rfl (Elr.cons rfl Elr.nil)))) (fun _ _ _ => trivial) ?_
 intro a36 C34 w38 hS37 ho35
 refine ya 7 3 (.slice a36 3 3) (yz nL5 ?_)
 refine WO.vs 0 [(65, .slice a36 3 3), (66, Pt b1 6)] (yf (v := (Sl w_p0.Names.a p0.Names w_p0.Names.c)) (hS37.rf m1) ?_)
 obtain ⟨x40, hx_x40, hr⟩ := bsm hr
 obtain ⟨h0_x40, he_x40⟩ := app_some hx_x40
 refine WO.ap 9 16 [(.string (⟨#[]⟩ : ByteArray))] hS37 ho35 (RSl.mono h_p0.Names hl23) hS37.im h0_x40 he_x40 ?_
 intro a41 c42 w43 C44 hS45 ho46
 refine ya 4 3 (Sl a41 x40 c42) (yb (ye (yd [0] ?_)))
 refine ya 0 4 (Iv 0) (yb (W.block ?_))
 obtain ⟨s50, hloop52, hr⟩ := bsm hr
 have hlt57 := ((RSl.mono h_p0.Cols hl23)).len_lt
 refine W.wk (W.forE (m := p0.Cols.length) hloop52 (fun (i51 : Nat) => fun (s50 : List ByteArray) fr w => ∃ I48 a_s50 c_s50 C_s50, fr = [(1, Pt b1 0), (3, Sl a_s50 s50 c_s50), (4, Nv i51)] ∧ I22.Le I48 ∧ St E w I48 ((Bx b1 (cs_qStmt p0 w_p0) 44) :: (C_s50) :: Os) ∧ OwnSl 9 1 RStr I48 C_s50 a_s50 c_s50 s50) ⟨I22, a41, c42, C44, rfl, lr, hS45.front1, ho46⟩ ?_ ?_)
 rintro i51 s50 _ w54 hi58 ⟨I48, a_s50, c_s50, C_s50, rfl, hl49, hS55, h_s50⟩ x56 hr1
 refine ye (yd nL5 ?_)
 refine WO.vs 0 [(69, Nv i51), (70, Pt b1 4)] (yf (v := (Sl w_p0.Cols.a p0.Cols w_p0.Cols.c)) (hS55.rf m0) ?_)
 refine WO.vs 3 [(72, Nv p0.Cols.length), (73, .bool (decide ((i51 : Int) < (p0.Cols.length : Int))))] (yb (yag (fun hc => ?_)))
 clear hc
 refine yg (En.next (ye (W.block (yaa nL10 ?_))))
 refine WO.vs 0 [(76, Sl a_s50 s50 c_s50), (77, Pt b1 4)] (yf (v := (Sl w_p0.Cols.a p0.Cols w_p0.Cols.c)) (hS55.rf m0) ?_)
 refine ya 3 79 (Nv i51) ?_
 obtain ⟨x59, hr1, h0_x59, h1_x59, hx_x59, ha_x59, _, _, rfl, hc_x59⟩ := sl_at ((RSl.mono h_p0.Cols (hl23.trans hl49))) hr1
 refine yq 73 3 ha_x59 h0_x59 h1_x59 ?_
 refine ya 5 81 (.pointer (some ⟨bl w_p0.Cols.a, of w_p0.Cols.a + ((i51 : Int)).toNat * 3, none⟩)) (yae (v := (.string x59.Name)) hc_x59 hS55.rm ?_)
 refine y3 (rel := RStr) (xs := ([x59.Name] : List ByteArray)) hS55 rfl (by kernel_rfl) rfl 9 1 [[(.string x59.Name)]] (by kernel_rfl) rfl ((Elr.cons rfl Elr.nil)) (fun _ _ _ => trivial) ?_
 intro a63 C61 w65 hS64 ho62
 have hS67 := hS64.front2
 obtain ⟨x68, hx_x68, hr1⟩ := bsm hr1
 obtain ⟨h0_x68, he_x68⟩ := app_some hx_x68
 refine WO.ap 9 16 [(.string (⟨#[]⟩ : ByteArray))] hS67 h_s50 ho62.sl (hS67.rd m1) h0_x68 he_x68 ?_
 intro a69 c70 w71 C72 hS73 ho74
 refine ya 9 3 (Sl a69 x68 c70) (WO.nil (yi (En.next (yaa nL3 ?_))))
 refine ya 0 74 (Nv i51) (y0 (j := i51) rfl (by kernel_rfl) rfl (by first | omega | (dsimp only at *; omega) | (simp only [List.length_cons, List.length_nil] at *; omega)) ?_)
 refine ya 2 4 (Iv ((i51 + 1 : Nat) : Int)) (WO.nil ?_)
 obtain rfl := sj hr1
 exact yo ⟨I48, a69, c70, C72, rfl, hl49, hS73.front1.drop.front1, ho74⟩
 rintro _ w78 ⟨I48, a_s50, c_s50, C_s50, rfl, hl49, hS79, h_s50⟩
 refine ye (yd nL5 ?_)
 refine WO.vs 0 [(69, Nv p0.Cols.length), (70, Pt b1 4)] (yf (v := (Sl w_p0.Cols.a p0.Cols w_p0.Cols.c)) (hS79.rf m0) ?_)
 refine WO.vs 3 [(72, Nv p0.Cols.length), (73, .bool (decide ((p0.Cols.length : Int) < (p0.Cols.length : Int))))] (yb (yah (fun hc => ?_)))
 clear hc
 refine yy (yk (yl (yn (En.next (ye (yd [0] ?_))))))
 refine ya 0 5 (Iv 0) (yb (W.block ?_))
 obtain ⟨t80, hloop85, hr⟩ := bsm hr
 have hlt89 := ((RSl.mono h_p0.Cons (hl23.trans hl49))).len_lt
 refine W.wk (W.forN (m := p0.Cons.length) hloop85 (fun (i84 : Nat) => fun (s83 : List ByteArray) fr w => ∃ I81 a_s83 c_s83 C_s83, fr = [(1, Pt b1 0), (3, Sl a_s83 s83 c_s83), (5, Nv i84)] ∧ I48.Le I81 ∧ St E w I81 ((Bx b1 (cs_qStmt p0 w_p0) 44) :: (C_s83) :: Os) ∧ OwnSl 9 1 RStr I81 C_s83 a_s83 c_s83 s83) ⟨I48, a_s50, c_s50, C_s50, rfl, lr, hS79, h_s50⟩ ?_ ?_)
 rintro i84 s83 _ w86 hi90 ⟨I81, a_s83, c_s83, C_s83, rfl, hl82, hS87, h_s83⟩ x88 hr1 hext80
 refine ye (yd nL5 ?_)
 refine WO.vs 0 [(85, Nv i84), (86, Pt b1 5)] (yf (v := (Sl w_p0.Cons.a p0.Cons w_p0.Cons.c)) (hS87.rf m0) ?_)
 refine WO.vs 3 [(88, Nv p0.Cons.length), (89, .bool (decide ((i84 : Int) < (p0.Cons.length : Int))))] (yb (yag (fun hc => ?_)))
 clear hc
 refine yg (En.next (ye (W.block (yd nL7 ?_))))
 refine ya 0 92 (Pt b1 5) (yf (v := (Sl w_p0.Cons.a p0.Cons w_p0.Cons.c)) (hS87.rf m0) ?_)
 refine ya 2 94 (Nv i84) ?_
 obtain ⟨x91, hr1, h0_x91, h1_x91, hx_x91, ha_x91, _, _, ⟨w_x91, rfl, h_x91⟩, hc_x91⟩ := sl_at ((RSl.mono h_p0.Cons ((hl23.trans hl49).trans hl82))) hr1
 refine yq 100 12 ha_x91 h0_x91 h1_x91 ?_
 refine yai ((cs_qCons x91 w_x91)) hc_x91 0 hS87.rm ?_
 refine yx hS87 (cs_qCons z_qCons zw_qCons) 100 ?_
 intro b92 w95 hS94
 refine yw hS94 0 (cs_qCons x91 w_x91) ?_
 intro w97 hS96
 refine yb (ye (yd nL16 ?_))
 refine ya 0 97 (Pt b92 2) (yf (v := (Sl w_x91.Cols.a x91.Cols w_x91.Cols.c)) (hS96.rf m0) ?_)
 refine WO.vs 2 [(99, Nv x91.Cols.length), (100, .bool (decide ((x91.Cols.length : Int) > 12))), (101, .bool (decide ((x91.Cols.length : Int) > 12)))] ?_
 obtain ⟨q98, hx_q98, hr1⟩ := bsm hr1
 replace hx_q98 := sj hx_q98
 refine yac (l1 := [5, 6, 7, 8, 9]) 106 q98 ?_ ?_
 refine yp (decide ((x91.Cols.length : Int) > 12)) (fun hc => ?_) (fun hc => ?_)
 refine yj 101 hc ?_
 iterate 4 refine yt ?_
 exact ya 9 106 (.bool true) (WO.mk 101 hc (by rw [← hx_q98, hc]; rfl))
 refine yj 101 hc (ya 5 102 (Pt b92 11) (yf (v := (Sl w_x91.Refs.a x91.Refs w_x91.Refs.c)) (hS96.rf m0) ?_))
 exact WO.vs 7 [(104, Nv x91.Refs.length), (105, .bool (decide ((x91.Refs.length : Int) > 12))), (106, .bool (decide ((x91.Refs.length : Int) > 12)))] (WO.mk 101 hc (by rw [← hx_q98, hc]; rfl))
 refine ya 10 107 (.bool q98) ?_
 obtain ⟨j101, hr2, hr1⟩ := bsm hr1
 refine WO.jw (l1 := [11, 12, 13, 14, 15]) (J := (fun fr w => ∃ I103, fr = [(1, Pt b1 0), (3, Sl a_s83 s83 c_s83), (5, Nv i84), (6, Pt b92 0), (112, .bool j101)] ∧ I81.Le I103 ∧ St E w I103 ((Bx b1 (cs_qStmt p0 w_p0) 44) :: (C_s83) :: (Bx b92 (cs_qCons x91 w_x91) 100) :: Os))) ?_ ?_
 refine WO.cb hr2 (fun hc hr2 => ?_) (fun hc hr2 => ?_)
 refine yj 107 hc ?_
 iterate 4 refine yt ?_
 refine ya 15 112 (.bool true) ?_
 obtain rfl := sj hr2
 exact yv ⟨I81, rfl, lr, hS96.front2.front2⟩
 refine yj 107 hc (ya 11 108 (Pt b92 3) (yu ((cs_qExpr x91.Check w_x91.Check)) (hS96.rf m0) ?_))
 obtain ⟨r112, hx_r107, hr2⟩ := bsm hr2
 refine y6 (r10_Few_ok h_x91.Check hS96 hx_r107) ?_
 intro I109 w108 hl110 hS111
 refine WO.vs 14 [(111, .bool (!r112)), (112, .bool (!r112))] ?_
 obtain rfl := sj hr2
 exact yv ⟨I109, rfl, hl110, hS111.front2.front2⟩
 rintro _ w115 ⟨I103, rfl, hl104, hS116⟩
 refine yb (W.cb hr1 (fun hc hr1 => ?_) (fun hc hr1 => ?_))
 refine yd [0] ?_
 refine ya 0 2 (.bool false) (yb (W.ret (yc (yh (yc (ym ?_))))))
 obtain rfl := hext80 _ (sj hr1).symm
 refine yh (yc ?_)
 obtain rfl := sj hr
 exact yr ⟨I103, rfl, (((hl23.trans hl49).trans hl82).trans hl104), hS116.drop.drop.drop⟩
 refine yg (En.next (yd nL8 ?_))
 refine WO.vs 0 [(113, Sl a_s83 s83 c_s83), (114, Pt b92 0)] (yf (v := (.string x91.Name)) (hS116.rf m2) ?_)
 refine ya 3 116 (Pt b92 10) (yf (v := (.string x91.Table)) (hS116.rf m2) ?_)
 refine y3 (rel := RStr) (xs := ([x91.Name, x91.Table] : List ByteArray)) hS116 rfl (by kernel_rfl) rfl 9 1 [[(.string x91.Name)], [(.string x91.Table)]] (by kernel_rfl) rfl ((Elr.cons rfl (Elr.cons rfl Elr.nil))) (fun _ _ _ => trivial) ?_
 intro a127 C125 w129 hS128 ho126
 have hS131 := hS128.front2
 obtain ⟨x132, hx_x132, hr1⟩ := bsm hr1
 obtain ⟨h0_x132, he_x132⟩ := app_some hx_x132
 refine WO.ap 9 16 [(.string (⟨#[]⟩ : ByteArray))] hS131 (OwnSl.mono h_s83 hl104) ho126.sl (hS131.rd m1) h0_x132 he_x132 ?_
 intro a133 c134 w135 C136 hS137 ho138
 have hS140 := hS137.front1.drop
 refine ya 7 3 (Sl a133 x132 c134) (yz nL5 ?_)
 refine WO.vs 0 [(120, Sl a133 x132 c134), (121, Pt b92 2)] (yf (v := (Sl w_x91.Cols.a x91.Cols w_x91.Cols.c)) (hS140.rf m2) ?_)
 obtain ⟨x141, hx_x141, hr1⟩ := bsm hr1
 obtain ⟨h0_x141, he_x141⟩ := app_some hx_x141
 refine WO.ap 9 16 [(.string (⟨#[]⟩ : ByteArray))] hS140 ho138 (RSl.mono h_x91.Cols hl104) hS140.im h0_x141 he_x141 ?_
 intro a142 c143 w144 C145 hS146 ho147
 refine ya 4 3 (Sl a142 x141 c143) (yb (yaa nL5 ?_))
 refine WO.vs 0 [(124, Sl a142 x141 c143), (125, Pt b92 11)] (yf (v := (Sl w_x91.Refs.a x91.Refs w_x91.Refs.c)) (hS146.rf m2) ?_)
 obtain ⟨x148, hx_x148, hr1⟩ := bsm hr1
 obtain ⟨h0_x148, he_x148⟩ := app_some hx_x148
 refine WO.ap 9 16 [(.string (⟨#[]⟩ : ByteArray))] hS146 ho147 (RSl.mono h_x91.Refs hl104) hS146.im h0_x148 he_x148 ?_
 intro a149 c150 w151 C152 hS153 ho154
 refine ya 4 3 (Sl a149 x148 c150) (WO.nil (yi (En.next (yaa nL3 ?_))))
 refine ya 0 90 (Nv i84) (y0 (j := i84) rfl (by kernel_rfl) rfl (by first | omega | (dsimp only at *; omega) | (simp only [List.length_cons, List.length_nil] at *; omega)) ?_)
 exact ya 2 5 (Iv ((i84 + 1 : Nat) : Int)) (WO.nil (yo ⟨x148, (sj hr1).symm, I103, a149, c150, C152, rfl, (hl82.trans hl104), hS153.front2.drop.front1, ho154⟩))
 rintro s83 _ w158 ⟨I81, a_s83, c_s83, C_s83, rfl, hl82, hS159, h_s83⟩ he
 cases he
 refine ye (yd nL5 ?_)
 refine WO.vs 0 [(85, Nv p0.Cons.length), (86, Pt b1 5)] (yf (v := (Sl w_p0.Cons.a p0.Cons w_p0.Cons.c)) (hS159.rf m0) ?_)
 refine WO.vs 3 [(88, Nv p0.Cons.length), (89, .bool (decide ((p0.Cons.length : Int) < (p0.Cons.length : Int))))] (yb (yah (fun hc => ?_)))
 clear hc
 refine yy (yk (yl (yn (En.next (ye (yd [0] ?_))))))
 refine ya 0 7 (Iv 0) (yb (W.block ?_))
 obtain ⟨t160, hloop164, hr⟩ := bsm hr
 have hlt168 := ((RSl.mono h_p0.Rows ((hl23.trans hl49).trans hl82))).len_lt
 refine W.wk (W.forN (m := p0.Rows.length) hloop164 (fun (i163 : Nat) => fun (_s : Unit) fr w => ∃ I161, fr = [(1, Pt b1 0), (3, Sl a_s83 s83 c_s83), (7, Nv i163)] ∧ I81.Le I161 ∧ St E w I161 ((Bx b1 (cs_qStmt p0 w_p0) 44) :: (C_s83) :: Os)) ⟨I81, rfl, lr, hS159⟩ ?_ ?_)
 rintro i163 _ _ w165 hi169 ⟨I161, rfl, hl162, hS166⟩ x167 hr1 hext160
 refine ye (yd nL5 ?_)
 refine WO.vs 0 [(128, Nv i163), (129, Pt b1 7)] (yf (v := (Sl w_p0.Rows.a p0.Rows w_p0.Rows.c)) (hS166.rf m0) ?_)
 refine WO.vs 3 [(131, Nv p0.Rows.length), (132, .bool (decide ((i163 : Int) < (p0.Rows.length : Int))))] (yb (yag (fun hc => ?_)))
 clear hc
 refine yg (En.next (ye (W.block (ye (yd nL7 ?_)))))
 refine ya 0 135 (Pt b1 7) (yf (v := (Sl w_p0.Rows.a p0.Rows w_p0.Rows.c)) (hS166.rf m0) ?_)
 refine ya 2 137 (Nv i163) ?_
 obtain ⟨x170, hx_x170, hr1⟩ := bsm hr1
 obtain ⟨h0_x170, h1_x170, hx_x170⟩ := idx_some hx_x170
 obtain ⟨ha_x170, cs_x170, hn_x170, hr_x170, hc_x170⟩ := ((RSl.mono h_p0.Rows (((hl23.trans hl49).trans hl82).trans hl162))).el _ _ hx_x170
 obtain ⟨a_x170, c_x170, rfl, h_x170⟩ := hr_x170
 refine yq 37 1 ha_x170 h0_x170 h1_x170 ?_
 refine yae (v := (Sl a_x170 x170 c_x170)) hc_x170 hS166.rm ?_
 refine WO.vs 5 [(140, Nv x170.length), (141, .bool (decide ((x170.length : Int) > 12)))] (yb (W.cb hr1 (fun hc hr1 => ?_) (fun hc hr1 => ?_)))
 refine yd [0] ?_
 refine ya 0 2 (.bool false) (yb (W.ret (yc (yh (yc (ym ?_))))))
 obtain rfl := hext160 _ (sj hr1).symm
 refine yh (yc ?_)
 obtain rfl := sj hr
 exact yr ⟨I161, rfl, (((hl23.trans hl49).trans hl82).trans hl162), hS166.drop.drop⟩
 refine yg (En.next (yd [0] ?_))
 refine ya 0 8 (Iv 0) (yb (W.block ?_))
 obtain ⟨t177, hloop181, hr1⟩ := bsm hr1
 refine W.wk (yap hloop181 (fun (s180 : Int) fr w => ∃ I178, fr = [(1, Pt b1 0), (3, Sl a_s83 s83 c_s83), (7, Nv i163), (8, Iv s180)] ∧ I161.Le I178 ∧ St E w I178 ((Bx b1 (cs_qStmt p0 w_p0) 44) :: (C_s83) :: Os)) ⟨I161, rfl, lr, hS166⟩ ?_)
 rintro s180 _ w182 ⟨I178, rfl, hl179, hS183⟩ x184 hr2 hext177
 refine ye (yd nL8 ?_)
 refine WO.vs 0 [(142, Iv s180), (143, Pt b1 7)] (yf (v := (Sl w_p0.Rows.a p0.Rows w_p0.Rows.c)) (hS183.rf m0) ?_)
 refine ya 3 145 (Nv i163) ?_
 obtain ⟨x185, hx_x185, hr2⟩ := bsm hr2
 obtain ⟨h0_x185, h1_x185, hx_x185⟩ := idx_some hx_x185
 obtain ⟨ha_x185, cs_x185, hn_x185, hr_x185, hc_x185⟩ := ((RSl.mono h_p0.Rows ((((hl23.trans hl49).trans hl82).trans hl162).trans hl179))).el _ _ hx_x185
 obtain ⟨a_x185, c_x185, rfl, h_x185⟩ := hr_x185
 refine yq 37 1 ha_x185 h0_x185 h1_x185 ?_
 refine yae (v := (Sl a_x185 x185 c_x185)) hc_x185 hS183.rm ?_
 refine WO.vs 6 [(148, Nv x185.length), (149, .bool (decide (s180 < (x185.length : Int))))] (yb (W.cb hr2 (fun hc hr2 => ?_) (fun hc hr2 => ?_)))
 refine yg (En.next (ye (W.block (yd nL10 ?_))))
 refine ya 0 152 (Pt b1 7) (yf (v := (Sl w_p0.Rows.a p0.Rows w_p0.Rows.c)) (hS183.rf m0) ?_)
 refine ya 2 154 (Nv i163) ?_
 obtain ⟨x186, hx_x186, hr2⟩ := bsm hr2
 obtain ⟨h0_x186, h1_x186, hx_x186⟩ := idx_some hx_x186
 obtain ⟨ha_x186, cs_x186, hn_x186, hr_x186, hc_x186⟩ := ((RSl.mono h_p0.Rows ((((hl23.trans hl49).trans hl82).trans hl162).trans hl179))).el _ _ hx_x186
 obtain ⟨a_x186, c_x186, rfl, h_x186⟩ := hr_x186
 refine yq 37 1 ha_x186 h0_x186 h1_x186 ?_
 refine yae (v := (Sl a_x186 x186 c_x186)) hc_x186 hS183.rm ?_
 refine ya 5 157 (Iv s180) ?_
 obtain ⟨x187, hx_x187, hr2⟩ := bsm hr2
 obtain ⟨h0_x187, h1_x187, hx_x187⟩ := idx_some hx_x187
 obtain ⟨ha_x187, cs_x187, hn_x187, hr_x187, hc_x187⟩ := (h_x186).el _ _ hx_x187
 obtain ⟨w_x187, rfl, h_x187⟩ := Q_qExpr_iff.1 hr_x187
 refine yq 39 7 ha_x187 h0_x187 h1_x187 ?_
 refine yai ((cs_qExpr x187 w_x187)) hc_x187 0 hS183.rm ?_
 obtain ⟨r193, hx_r188, hr2⟩ := bsm hr2
 refine y6 (r10_Few_ok h_x187 hS183 hx_r188) ?_
 intro I190 w189 hl191 hS192
 refine ya 9 161 (.bool (!r193)) (yb (W.cb hr2 (fun hc hr2 => ?_) (fun hc hr2 => ?_)))
 refine yd [0] ?_
 refine ya 0 2 (.bool false) (yb (W.ret (yh (yc (ym ?_)))))
 obtain rfl := hext177 _ (sj hr2).symm
 refine yh (yh (yc (ym ?_)))
 obtain rfl := hext160 _ (sj hr1).symm
 refine yh (yc ?_)
 obtain rfl := sj hr
 exact yr ⟨I190, rfl, (((((hl23.trans hl49).trans hl82).trans hl162).trans hl179).trans hl191), hS192.drop.drop⟩
 refine yg (yi (En.next (yaa nL3 ?_)))
 exact WO.vs 0 [(150, Iv s180), (151, Iv (w64 (s180 + 1))), (8, Iv (w64 (s180 + 1)))] (WO.nil (yo ⟨(w64 (s180 + 1)), (sj hr2).symm, I190, rfl, (hl179.trans hl191), hS192⟩))
 refine yy (yk (yl ?_))
 obtain rfl := hext177 _ (sj hr2).symm
 refine yn (yi (En.next (yaa nL3 ?_)))
 refine ya 0 133 (Nv i163) (y0 (j := i163) rfl (by kernel_rfl) rfl (by first | omega | (dsimp only at *; omega) | (simp only [List.length_cons, List.length_nil] at *; omega)) ?_)
 exact ya 2 7 (Iv ((i163 + 1 : Nat) : Int)) (WO.nil (yo ⟨(), (sj hr1).symm, I178, rfl, (hl162.trans hl179), hS183⟩))
 rintro _ _ w201 ⟨I161, rfl, hl162, hS202⟩ he
 cases he
 refine ye (yd nL5 ?_)
 refine WO.vs 0 [(128, Nv p0.Rows.length), (129, Pt b1 7)] (yf (v := (Sl w_p0.Rows.a p0.Rows w_p0.Rows.c)) (hS202.rf m0) ?_)
 refine WO.vs 3 [(131, Nv p0.Rows.length), (132, .bool (decide ((p0.Rows.length : Int) < (p0.Rows.length : Int))))] (yb (yah (fun hc => ?_)))
 clear hc
 refine yy (yk (yl (yn (En.next (ye (yd [0] ?_))))))
 refine ya 0 9 (Iv 0) (yb (W.block ?_))
 obtain ⟨t203, hloop208, hr⟩ := bsm hr
 have hlt212 := ((RSl.mono h_p0.Sets (((hl23.trans hl49).trans hl82).trans hl162))).len_lt
 refine W.wk (W.forN (m := p0.Sets.length) hloop208 (fun (i207 : Nat) => fun (s206 : List ByteArray) fr w => ∃ I204 a_s206 c_s206 C_s206, fr = [(1, Pt b1 0), (3, Sl a_s206 s206 c_s206), (9, Nv i207)] ∧ I161.Le I204 ∧ St E w I204 ((Bx b1 (cs_qStmt p0 w_p0) 44) :: (C_s206) :: Os) ∧ OwnSl 9 1 RStr I204 C_s206 a_s206 c_s206 s206) ⟨I161, a_s83, c_s83, C_s83, rfl, lr, hS202, (OwnSl.mono h_s83 hl162)⟩ ?_ ?_)
 rintro i207 s206 _ w209 hi213 ⟨I204, a_s206, c_s206, C_s206, rfl, hl205, hS210, h_s206⟩ x211 hr1 hext203
 refine ye (yd nL5 ?_)
 refine WO.vs 0 [(162, Nv i207), (163, Pt b1 15)] (yf (v := (Sl w_p0.Sets.a p0.Sets w_p0.Sets.c)) (hS210.rf m0) ?_)
 refine WO.vs 3 [(165, Nv p0.Sets.length), (166, .bool (decide ((i207 : Int) < (p0.Sets.length : Int))))] (yb (yag (fun hc => ?_)))
 clear hc
 refine yg (En.next (ye (W.block (yd nL10 ?_))))
 refine WO.vs 0 [(169, Sl a_s206 s206 c_s206), (170, Pt b1 15)] (yf (v := (Sl w_p0.Sets.a p0.Sets w_p0.Sets.c)) (hS210.rf m0) ?_)
 refine ya 3 172 (Nv i207) ?_
 obtain ⟨x214, hr1, h0_x214, h1_x214, hx_x214, ha_x214, _, _, ⟨w_x214, rfl, h_x214⟩, hc_x214⟩ := sl_at ((RSl.mono h_p0.Sets ((((hl23.trans hl49).trans hl82).trans hl162).trans hl205))) hr1
 refine yq 102 8 ha_x214 h0_x214 h1_x214 ?_
 refine ya 5 174 (.pointer (some ⟨bl w_p0.Sets.a, of w_p0.Sets.a + ((i207 : Int)).toNat * 8, none⟩)) (yae (v := (.string x214.Name)) hc_x214 hS210.rm ?_)
 refine y3 (rel := RStr) (xs := ([x214.Name] : List ByteArray)) hS210 rfl (by kernel_rfl) rfl 9 1 [[(.string x214.Name)]] (by kernel_rfl) rfl ((Elr.cons rfl Elr.nil)) (fun _ _ _ => trivial) ?_
 intro a218 C216 w220 hS219 ho217
 have hS222 := hS219.front2
 obtain ⟨x223, hx_x223, hr1⟩ := bsm hr1
 obtain ⟨h0_x223, he_x223⟩ := app_some hx_x223
 refine WO.ap 9 16 [(.string (⟨#[]⟩ : ByteArray))] hS222 h_s206 ho217.sl (hS222.rd m1) h0_x223 he_x223 ?_
 intro a224 c225 w226 C227 hS228 ho229
 have hS231 := hS228.front1.drop
 refine ya 9 3 (Sl a224 x223 c225) (yz nL8 ?_)
 refine ya 0 178 (Pt b1 15) (yf (v := (Sl w_p0.Sets.a p0.Sets w_p0.Sets.c)) (hS231.rf m1) ?_)
 refine ya 2 180 (Nv i207) ?_
 obtain ⟨x232, hr1, h0_x232, h1_x232, hx_x232, ha_x232, _, _, ⟨w_x232, rfl, h_x232⟩, hc_x232⟩ := sl_at ((RSl.mono h_p0.Sets ((((hl23.trans hl49).trans hl82).trans hl162).trans hl205))) hr1
 refine yq 102 8 ha_x232 h0_x232 h1_x232 ?_
 refine ya 4 182 (.pointer (some ⟨bl w_p0.Sets.a, of w_p0.Sets.a + ((i207 : Int)).toNat * 8 + 1, none⟩)) (yai ((cs_qExpr x232.E w_x232.E)) hc_x232 1 hS231.rm ?_)
 obtain ⟨r238, hx_r233, hr1⟩ := bsm hr1
 refine y6 (r10_Few_ok h_x232.E hS231 hx_r233) ?_
 intro I235 w234 hl236 hS237
 refine ya 7 185 (.bool (!r238)) (yb (W.cb hr1 (fun hc hr1 => ?_) (fun hc hr1 => ?_)))
 refine yd [0] ?_
 refine ya 0 2 (.bool false) (yb (W.ret (yh (yc (ym ?_)))))
 obtain rfl := hext203 _ (sj hr1).symm
 refine yh (yc ?_)
 obtain rfl := sj hr
 exact yr ⟨I235, rfl, (((((hl23.trans hl49).trans hl82).trans hl162).trans hl205).trans hl236), hS237.drop.drop⟩
 refine yg (yi (En.next (yaa nL3 ?_)))
 refine ya 0 167 (Nv i207) (y0 (j := i207) rfl (by kernel_rfl) rfl (by first | omega | (dsimp only at *; omega) | (simp only [List.length_cons, List.length_nil] at *; omega)) ?_)
 exact ya 2 9 (Iv ((i207 + 1 : Nat) : Int)) (WO.nil (yo ⟨x223, (sj hr1).symm, I235, a224, c225, C227, rfl, (hl205.trans hl236), hS237.front1, (OwnSl.mono ho229 hl236)⟩))
 rintro s206 _ w246 ⟨I204, a_s206, c_s206, C_s206, rfl, hl205, hS247, h_s206⟩ he
 cases he
 refine ye (yd nL5 ?_)
 refine WO.vs 0 [(162, Nv p0.Sets.length), (163, Pt b1 15)] (yf (v := (Sl w_p0.Sets.a p0.Sets w_p0.Sets.c)) (hS247.rf m0) ?_)
 refine WO.vs 3 [(165, Nv p0.Sets.length), (166, .bool (decide ((p0.Sets.length : Int) < (p0.Sets.length : Int))))] (yb (yah (fun hc => ?_)))
 clear hc
 refine yy (yk (yl (yn (En.next (ye (yd [0] ?_))))))
 refine ya 0 10 (Iv 0) (yb (W.block ?_))
 obtain ⟨t248, hloop252, hr⟩ := bsm hr
 have hlt256 := ((RSl.mono h_p0.Order ((((hl23.trans hl49).trans hl82).trans hl162).trans hl205))).len_lt
 refine W.wk (W.forN (m := p0.Order.length) hloop252 (fun (i251 : Nat) => fun (_s : Unit) fr w => ∃ I249, fr = [(1, Pt b1 0), (3, Sl a_s206 s206 c_s206), (10, Nv i251)] ∧ I204.Le I249 ∧ St E w I249 ((Bx b1 (cs_qStmt p0 w_p0) 44) :: (C_s206) :: Os)) ⟨I204, rfl, lr, hS247⟩ ?_ ?_)
 rintro i251 _ _ w253 hi257 ⟨I249, rfl, hl250, hS254⟩ x255 hr1 hext248
 refine ye (yd nL5 ?_)
 refine WO.vs 0 [(186, Nv i251), (187, Pt b1 16)] (yf (v := (Sl w_p0.Order.a p0.Order w_p0.Order.c)) (hS254.rf m0) ?_)
 refine WO.vs 3 [(189, Nv p0.Order.length), (190, .bool (decide ((i251 : Int) < (p0.Order.length : Int))))] (yb (yag (fun hc => ?_)))
 clear hc
 refine yg (En.next (ye (W.block (yd nL8 ?_))))
 refine ya 0 193 (Pt b1 16) (yf (v := (Sl w_p0.Order.a p0.Order w_p0.Order.c)) (hS254.rf m0) ?_)
 refine ya 2 195 (Nv i251) ?_
 obtain ⟨x258, hr1, h0_x258, h1_x258, hx_x258, ha_x258, _, _, ⟨w_x258, rfl, h_x258⟩, hc_x258⟩ := sl_at ((RSl.mono h_p0.Order (((((hl23.trans hl49).trans hl82).trans hl162).trans hl205).trans hl250))) hr1
 refine yq 104 8 ha_x258 h0_x258 h1_x258 ?_
 refine ya 4 197 (.pointer (some ⟨bl w_p0.Order.a, of w_p0.Order.a + ((i251 : Int)).toNat * 8, none⟩)) (yai ((cs_qExpr x258.E w_x258.E)) hc_x258 0 hS254.rm ?_)
 obtain ⟨r264, hx_r259, hr1⟩ := bsm hr1
 refine y6 (r10_Few_ok h_x258.E hS254 hx_r259) ?_
 intro I261 w260 hl262 hS263
 refine ya 7 200 (.bool (!r264)) (yb (W.cb hr1 (fun hc hr1 => ?_) (fun hc hr1 => ?_)))
 refine yd [0] ?_
 refine ya 0 2 (.bool false) (yb (W.ret (yh (yc (ym ?_)))))
 obtain rfl := hext248 _ (sj hr1).symm
 refine yh (yc ?_)
 obtain rfl := sj hr
 exact yr ⟨I261, rfl, ((((((hl23.trans hl49).trans hl82).trans hl162).trans hl205).trans hl250).trans hl262), hS263.drop.drop⟩
 refine yg (yi (En.next (yaa nL3 ?_)))
 refine ya 0 191 (Nv i251) (y0 (j := i251) rfl (by kernel_rfl) rfl (by first | omega | (dsimp only at *; omega) | (simp only [List.length_cons, List.length_nil] at *; omega)) ?_)
 exact ya 2 10 (Iv ((i251 + 1 : Nat) : Int)) (WO.nil (yo ⟨(), (sj hr1).symm, I261, rfl, (hl250.trans hl262), hS263⟩))
 rintro _ _ w271 ⟨I249, rfl, hl250, hS272⟩ he
 cases he
 refine ye (yd nL5 ?_)
 refine WO.vs 0 [(186, Nv p0.Order.length), (187, Pt b1 16)] (yf (v := (Sl w_p0.Order.a p0.Order w_p0.Order.c)) (hS272.rf m0) ?_)
 refine WO.vs 3 [(189, Nv p0.Order.length), (190, .bool (decide ((p0.Order.length : Int) < (p0.Order.length : Int))))] (yb (yah (fun hc => ?_)))
 clear hc
 refine yy (yk (yl (yn (En.next (ye (yd [0] ?_))))))
 refine ya 0 11 (Iv 0) (yb (W.block ?_))
 obtain ⟨t273, hloop277, hr⟩ := bsm hr
 have hlt281 := ((h_s206.mono hl250).sl).len_lt
 refine W.wk (W.forN (m := s206.length) hloop277 (fun (i276 : Nat) => fun (_s : Unit) fr w => ∃ I274, fr = [(1, Pt b1 0), (3, Sl a_s206 s206 c_s206), (11, Nv i276)] ∧ I249.Le I274 ∧ St E w I274 ((Bx b1 (cs_qStmt p0 w_p0) 44) :: (C_s206) :: Os)) ⟨I249, rfl, lr, hS272⟩ ?_ ?_)
 rintro i276 _ _ w278 hi282 ⟨I274, rfl, hl275, hS279⟩ x280 hr1 hext273
 refine ye (yd nL4 ?_)
 refine WO.vs 0 [(201, Nv i276), (202, Sl a_s206 s206 c_s206), (203, Nv s206.length), (204, .bool (decide ((i276 : Int) < (s206.length : Int))))] (yb (yag (fun hc => ?_)))
 clear hc
 refine yg (En.next (ye (W.block (yd nL6 ?_))))
 refine WO.vs 0 [(207, Sl a_s206 s206 c_s206), (208, Nv i276)] ?_
 obtain ⟨x283, hr1, h0_x283, h1_x283, hx_x283, ha_x283, _, _, rfl, hc_x283⟩ := sl_at ((h_s206.mono (hl250.trans hl275)).sl) hr1
 refine yq 9 1 ha_x283 h0_x283 h1_x283 ?_
 refine yae (v := (.string x283)) hc_x283 (hS279.rf m1) ?_
 refine WO.vs 4 [(211, Iv (x283.size : Int)), (212, .bool (decide ((x283.size : Int) > 100)))] (yb (W.cb hr1 (fun hc hr1 => ?_) (fun hc hr1 => ?_)))
 refine yd [0] ?_
 refine ya 0 2 (.bool false) (yb (W.ret (yh (yc (ym ?_)))))
 obtain rfl := hext273 _ (sj hr1).symm
 refine yh (yc ?_)
 obtain rfl := sj hr
 exact yr ⟨I274, rfl, ((((((hl23.trans hl49).trans hl82).trans hl162).trans hl205).trans hl250).trans hl275), hS279.drop.drop⟩
 refine yg (yi (En.next (yaa nL3 ?_)))
 refine ya 0 205 (Nv i276) (y0 (j := i276) rfl (by kernel_rfl) rfl (by first | omega | (dsimp only at *; omega) | (simp only [List.length_cons, List.length_nil] at *; omega)) ?_)
 exact ya 2 11 (Iv ((i276 + 1 : Nat) : Int)) (WO.nil (yo ⟨(), (sj hr1).symm, I274, rfl, hl275, hS279⟩))
 rintro _ _ w290 ⟨I274, rfl, hl275, hS291⟩ he
 cases he
 refine ye (yd nL4 ?_)
 refine WO.vs 0 [(201, Nv s206.length), (202, Sl a_s206 s206 c_s206), (203, Nv s206.length), (204, .bool (decide ((s206.length : Int) < (s206.length : Int))))] (yb (yah (fun hc => ?_)))
 clear hc
 refine yy (yk (yl (yn (En.next (yd nL21 ?_)))))
 refine ya 0 213 (Pt b1 20) (yf (v := (Sl w_p0.Kids.a p0.Kids w_p0.Kids.c)) (hS291.rf m0) ?_)
 refine WO.vs 2 [(215, Nv p0.Kids.length), (216, .bool ((p0.Kids.length : Int) == 0)), (217, .bool ((p0.Kids.length : Int) == 0))] ?_
 obtain ⟨j292, hr1, hr⟩ := bsm hr
 refine WO.jw (l1 := [5, 6, 7, 8, 9, 10, 11, 12, 13, 14, 15, 16, 17, 18, 19]) (J := (fun fr w => ∃ I294, fr = [(232, .bool j292)] ∧ I274.Le I294 ∧ St E w I294 Os)) ?_ ?_
 refine WO.cb hr1 (fun hc hr1 => ?_) (fun hc hr1 => ?_)
 refine yj 217 hc ?_
 iterate 14 refine yt ?_
 refine ya 19 232 (.bool true) ?_
 obtain rfl := sj hr1
 exact yv ⟨I274, rfl, lr, hS291.drop.drop⟩
 refine yj 217 hc (ya 5 218 (Pt b1 20) (yf (v := (Sl w_p0.Kids.a p0.Kids w_p0.Kids.c)) (hS291.rf m0) ?_))
 obtain ⟨x298, hx_x298, hr1⟩ := bsm hr1
 obtain ⟨h0_x298, h1_x298, hx_x298⟩ := idx_some hx_x298
 obtain ⟨ha_x298, cs_x298, hn_x298, hr_x298, hc_x298⟩ := ((RSl.mono h_p0.Kids ((((((hl23.trans hl49).trans hl82).trans hl162).trans hl205).trans hl250).trans hl275))).el _ _ hx_x298
 obtain ⟨w_x298, rfl, h_x298⟩ := Q_qStmt_iff.1 hr_x298
 refine yq 44 21 ha_x298 h0_x298 h1_x298 ?_
 refine ya 8 221 (.pointer (some ⟨bl w_p0.Kids.a, of w_p0.Kids.a + (0 : Int).toNat * 21 + 20, none⟩)) (WO.le (v := (Sl w_x298.Kids.a x298.Kids w_x298.Kids.c)) hc_x298 20 hS291.rm ?_)
 refine WO.vs 10 [(223, Nv x298.Kids.length), (224, .bool ((x298.Kids.length : Int) == 0)), (225, .bool ((x298.Kids.length : Int) == 0))] ?_
 obtain ⟨j299, hr2, hr1⟩ := bsm hr1
 refine WO.jw (l1 := [13, 14, 15, 16, 17, 18]) (J := (fun fr w => ∃ I301, fr = [(217, .bool false), (231, .bool j299)] ∧ I274.Le I301 ∧ St E w I301 Os)) ?_ ?_
 refine WO.cb hr2 (fun hc hr2 => ?_) (fun hc hr2 => ?_)
 refine yj 225 hc (ya 13 226 (Pt b1 20) (yf (v := (Sl w_p0.Kids.a p0.Kids w_p0.Kids.c)) (hS291.rf m0) ?_))
 obtain ⟨x303, hx_x303, hr2⟩ := bsm hr2
 obtain ⟨h0_x303, h1_x303, hx_x303⟩ := idx_some hx_x303
 obtain ⟨ha_x303, cs_x303, hn_x303, hr_x303, hc_x303⟩ := ((RSl.mono h_p0.Kids ((((((hl23.trans hl49).trans hl82).trans hl162).trans hl205).trans hl250).trans hl275))).el _ _ hx_x303
 obtain ⟨w_x303, rfl, h_x303⟩ := Q_qStmt_iff.1 hr_x303
 refine yq 44 21 ha_x303 h0_x303 h1_x303 ?_
 refine yai ((cs_qStmt x303 w_x303)) hc_x303 0 hS291.rm ?_
 obtain ⟨r309, hx_r304, hr2⟩ := bsm hr2
 refine y6 (ih h_x303 hS291 hx_r304) ?_
 intro I306 w305 hl307 hS308
 refine ya 18 231 (.bool r309) ?_
 obtain rfl := sj hr2
 exact yv ⟨I306, rfl, hl307, hS308.drop.drop⟩
 refine yj 225 hc ?_
 iterate 5 refine yt ?_
 refine ya 18 231 (.bool false) ?_
 obtain rfl := sj hr2
 exact yv ⟨I274, rfl, lr, hS291.drop.drop⟩
 rintro _ w314 ⟨I301, rfl, hl302, hS315⟩
 refine ya 19 232 (.bool j299) ?_
 obtain rfl := sj hr1
 exact yv ⟨I301, rfl, hl302, hS315⟩
 rintro _ w316 ⟨I294, rfl, hl295, hS317⟩
 refine ya 20 2 (.bool j292) (yb (W.ret ?_))
 obtain rfl := sj hr
 exact yr ⟨I294, rfl, (((((((hl23.trans hl49).trans hl82).trans hl162).trans hl205).trans hl250).trans hl275).trans hl295), hS317⟩
theorem r12_Few_ok {p0 : qStmt} {w_p0 : W_qStmt} (h_p0 : ok_qStmt I p0 w_p0) (hS : St E w I Os) {r : Bool} (hr : r12_Few p0 = some r) :
    Calls P 28 #[(.agg (cs_qStmt p0 w_p0).toArray)] w (fun e w' => ∃ I', e = .returned (.bool r) ∧ I.Le I' ∧ St E w' I' Os) := by
 obtain ⟨fu, hf⟩ := anyFuel_some hr
 exact r12_Few_fu_ok fu h_p0 hS hf
noncomputable def law19_Few (p0 : List law19_Act) : Option Bool := (forN (fun (i4 : Nat) => fun (_s : Unit) => ((bif (decide ((i4 : Int) ≥ 40)) then some true else (idx p0 (i4 : Int)).bind (fun x15 => (r12_Few x15.S).bind (fun r21 => some (!r21))))).bind (fun (j11 : Bool) => ((bif j11 then some true else (idx p0 (i4 : Int)).bind (fun x28 => some (decide ((x28.By.size : Int) > 100))))).bind (fun (j24 : Bool) => (bif j24 then some (.inr false) else some (.inl ()))))) p0.length 0 ()).bind (fun (t : Unit ⊕ (Bool)) => match t with | .inl _ => some true | .inr s32 => some s32)
theorem law19_Few_ok {p0 : List law19_Act} {a_p0 : Option Addr} {c_p0 : Nat} (h_p0 : RSl 22 R_law19_Act I a_p0 c_p0 p0) (hS : St E w I Os) {r : Bool} (hr : law19_Few p0 = some r) :
    Calls P 7 #[(Sl a_p0 p0 c_p0)] w (fun e w' => ∃ I', e = .returned (.bool r) ∧ I.Le I' ∧ St E w' I' Os) := by
 refine calls_W (fn := Tryz.f7) rfl rfl rfl ?_
 unfold law19_Few at hr
 refine yd [0] ?_
 refine ya 0 2 (.bool false) (yb (ye (yd [0] ?_)))
 refine ya 0 3 (Iv 0) (yb (W.block ?_))
 obtain ⟨t1, hloop5, hr⟩ := bsm hr
 have hlt9 := (h_p0).len_lt
 refine W.wk (W.forN (m := p0.length) hloop5 (fun (i4 : Nat) => fun (_s : Unit) fr w => ∃ I2, fr = [(0, Sl a_p0 p0 c_p0), (3, Nv i4)] ∧ I.Le I2 ∧ St E w I2 Os) ⟨I, rfl, lr, hS⟩ ?_ ?_)
 rintro i4 _ _ w6 hi10 ⟨I2, rfl, hl3, hS7⟩ x8 hr1 hext1
 refine ye (yd nL4 ?_)
 refine WO.vs 0 [(4, Nv i4), (5, Sl a_p0 p0 c_p0), (6, Nv p0.length), (7, .bool (decide ((i4 : Int) < (p0.length : Int))))] (yb (yag (fun hc => ?_)))
 clear hc
 refine yg (En.next (ye (W.block (yd nL20 ?_))))
 refine WO.vs 0 [(10, Nv i4), (11, .bool (decide ((i4 : Int) ≥ 40))), (12, .bool (decide ((i4 : Int) ≥ 40)))] ?_
 obtain ⟨j11, hr2, hr1⟩ := bsm hr1
 refine WO.jw (l1 := [3, 4, 5, 6, 7, 8, 9, 10]) (J := (fun fr w => ∃ I13, fr = [(0, Sl a_p0 p0 c_p0), (3, Nv i4), (20, .bool j11)] ∧ I2.Le I13 ∧ St E w I13 Os)) ?_ ?_
 refine WO.cb hr2 (fun hc hr2 => ?_) (fun hc hr2 => ?_)
 refine yj 12 hc ?_
 iterate 7 refine yt ?_
 refine ya 10 20 (.bool true) ?_
 obtain rfl := sj hr2
 exact yv ⟨I2, rfl, lr, hS7⟩
 refine yj 12 hc (WO.vs 3 [(13, Sl a_p0 p0 c_p0), (14, Nv i4)] ?_)
 obtain ⟨x15, hr2, h0_x15, h1_x15, hx_x15, ha_x15, _, _, ⟨w_x15, rfl, h_x15⟩, hc_x15⟩ := sl_at ((RSl.mono h_p0 hl3)) hr2
 refine yq 46 22 ha_x15 h0_x15 h1_x15 ?_
 refine ya 6 16 (.pointer (some ⟨bl a_p0, of a_p0 + ((i4 : Int)).toNat * 22, none⟩)) (yai ((cs_qStmt x15.S w_x15.S)) hc_x15 0 hS7.rm ?_)
 obtain ⟨r21, hx_r16, hr2⟩ := bsm hr2
 refine y6 (r12_Few_ok h_x15.S hS7 hx_r16) ?_
 intro I18 w17 hl19 hS20
 refine WO.vs 9 [(19, .bool (!r21)), (20, .bool (!r21))] ?_
 obtain rfl := sj hr2
 exact yv ⟨I18, rfl, hl19, hS20⟩
 rintro _ w22 ⟨I13, rfl, hl14, hS23⟩
 refine ya 11 21 (.bool j11) ?_
 obtain ⟨j24, hr2, hr1⟩ := bsm hr1
 refine WO.jw (l1 := [12, 13, 14, 15, 16, 17, 18, 19]) (J := (fun fr w => ∃ I26, fr = [(0, Sl a_p0 p0 c_p0), (3, Nv i4), (29, .bool j24)] ∧ I13.Le I26 ∧ St E w I26 Os)) ?_ ?_
 refine WO.cb hr2 (fun hc hr2 => ?_) (fun hc hr2 => ?_)
 refine yj 21 hc ?_
 iterate 7 refine yt ?_
 refine ya 19 29 (.bool true) ?_
 obtain rfl := sj hr2
 exact yv ⟨I13, rfl, lr, hS23⟩
 refine yj 21 hc (WO.vs 12 [(22, Sl a_p0 p0 c_p0), (23, Nv i4)] ?_)
 obtain ⟨x28, hr2, h0_x28, h1_x28, hx_x28, ha_x28, _, _, ⟨w_x28, rfl, h_x28⟩, hc_x28⟩ := sl_at ((RSl.mono h_p0 (hl3.trans hl14))) hr2
 refine yq 46 22 ha_x28 h0_x28 h1_x28 ?_
 refine ya 15 25 (.pointer (some ⟨bl a_p0, of a_p0 + ((i4 : Int)).toNat * 22 + 21, none⟩)) (WO.le (v := (.string x28.By)) hc_x28 21 hS23.rm ?_)
 refine WO.vs 17 [(27, Iv (x28.By.size : Int)), (28, .bool (decide ((x28.By.size : Int) > 100))), (29, .bool (decide ((x28.By.size : Int) > 100)))] ?_
 obtain rfl := sj hr2
 exact yv ⟨I13, rfl, lr, hS23⟩
 rintro _ w29 ⟨I26, rfl, hl27, hS30⟩
 refine yb (W.cb hr1 (fun hc hr1 => ?_) (fun hc hr1 => ?_))
 refine yd [0] ?_
 refine ya 0 2 (.bool false) (yb (W.ret (yh (yc (ym ?_)))))
 obtain rfl := hext1 _ (sj hr1).symm
 refine yh (yc ?_)
 obtain rfl := sj hr
 exact yr ⟨I26, rfl, ((hl3.trans hl14).trans hl27), hS30⟩
 refine yg (yi (En.next (yaa nL3 ?_)))
 refine ya 0 8 (Nv i4) (y0 (j := i4) rfl (by kernel_rfl) rfl (by first | omega | (dsimp only at *; omega) | (simp only [List.length_cons, List.length_nil] at *; omega)) ?_)
 exact ya 2 3 (Iv ((i4 + 1 : Nat) : Int)) (WO.nil (yo ⟨(), (sj hr1).symm, I26, rfl, ((hl3.trans hl14).trans hl27), hS30⟩))
 rintro _ _ w33 ⟨I2, rfl, hl3, hS34⟩ he
 cases he
 refine ye (yd nL4 ?_)
 refine WO.vs 0 [(4, Nv p0.length), (5, Sl a_p0 p0 c_p0), (6, Nv p0.length), (7, .bool (decide ((p0.length : Int) < (p0.length : Int))))] (yb (yah (fun hc => ?_)))
 clear hc
 refine yy (yk (yl (yn (En.next (yd [0] ?_)))))
 refine ya 0 2 (.bool true) (yb (W.ret ?_))
 obtain rfl := sj hr
 exact yr ⟨I2, rfl, hl3, hS34⟩
def r19_Few (p0 : List qGrant) : Option Bool := (bif (decide ((p0.length : Int) > 45)) then some false else (forN (fun (i4 : Nat) => fun (_s : Unit) => (idx p0 (i4 : Int)).bind (fun x11 => ((bif (decide ((x11.To.size : Int) > 100)) then some true else (idx p0 (i4 : Int)).bind (fun x16 => some (decide ((x16.By.size : Int) > 100))))).bind (fun (j12 : Bool) => ((bif j12 then some true else (idx p0 (i4 : Int)).bind (fun x23 => some (decide ((x23.Table.size : Int) > 100))))).bind (fun (j19 : Bool) => (bif j19 then some (.inr false) else some (.inl ())))))) p0.length 0 ()).bind (fun (t : Unit ⊕ (Bool)) => match t with | .inl _ => some true | .inr s27 => some s27))
theorem r19_Few_ok {p0 : List qGrant} {a_p0 : Option Addr} {c_p0 : Nat} (h_p0 : RSl 5 R_qGrant I a_p0 c_p0 p0) (hS : St E w I Os) {r : Bool} (hr : r19_Few p0 = some r) :
    Calls P 14 #[(Sl a_p0 p0 c_p0)] w (fun e w' => ∃ I', e = .returned (.bool r) ∧ I.Le I' ∧ St E w' I' Os) := by
 refine calls_W (fn := Tryz.f14) rfl rfl rfl ?_
 unfold r19_Few at hr
 refine yd [0] ?_
 refine ya 0 2 (.bool false) (yb (ye (yd nL3 ?_)))
 refine WO.vs 0 [(4, Sl a_p0 p0 c_p0), (5, Nv p0.length), (6, .bool (decide ((p0.length : Int) > 45)))] (yb (W.cb hr (fun hc hr => ?_) (fun hc hr => ?_)))
 refine yd [0] ?_
 refine ya 0 2 (.bool false) (yb (W.ret (yc ?_)))
 obtain rfl := sj hr
 exact yr ⟨I, rfl, lr, hS⟩
 refine yg (En.next (ye (yd [0] ?_)))
 refine ya 0 3 (Iv 0) (yb (W.block ?_))
 obtain ⟨t1, hloop5, hr⟩ := bsm hr
 have hlt9 := (h_p0).len_lt
 refine W.wk (W.forN (m := p0.length) hloop5 (fun (i4 : Nat) => fun (_s : Unit) fr w => ∃ I2, fr = [(0, Sl a_p0 p0 c_p0), (3, Nv i4)] ∧ I.Le I2 ∧ St E w I2 Os) ⟨I, rfl, lr, hS⟩ ?_ ?_)
 rintro i4 _ _ w6 hi10 ⟨I2, rfl, hl3, hS7⟩ x8 hr1 hext1
 refine ye (yd nL4 ?_)
 refine WO.vs 0 [(7, Nv i4), (8, Sl a_p0 p0 c_p0), (9, Nv p0.length), (10, .bool (decide ((i4 : Int) < (p0.length : Int))))] (yb (yag (fun hc => ?_)))
 clear hc
 refine yg (En.next (ye (W.block (yd nL25 ?_))))
 refine WO.vs 0 [(13, Sl a_p0 p0 c_p0), (14, Nv i4)] ?_
 obtain ⟨x11, hr1, h0_x11, h1_x11, hx_x11, ha_x11, _, _, rfl, hc_x11⟩ := sl_at ((RSl.mono h_p0 hl3)) hr1
 refine yq 67 5 ha_x11 h0_x11 h1_x11 ?_
 refine ya 3 16 (.pointer (some ⟨bl a_p0, of a_p0 + ((i4 : Int)).toNat * 5, none⟩)) (yae (v := (.string x11.To)) hc_x11 hS7.rm ?_)
 refine WO.vs 5 [(18, Iv (x11.To.size : Int)), (19, .bool (decide ((x11.To.size : Int) > 100))), (20, .bool (decide ((x11.To.size : Int) > 100)))] ?_
 obtain ⟨j12, hr2, hr1⟩ := bsm hr1
 refine WO.jw (l1 := [8, 9, 10, 11, 12, 13, 14, 15]) (J := (fun fr w => ∃ I14, fr = [(0, Sl a_p0 p0 c_p0), (3, Nv i4), (28, .bool j12)] ∧ I2.Le I14 ∧ St E w I14 Os)) ?_ ?_
 refine WO.cb hr2 (fun hc hr2 => ?_) (fun hc hr2 => ?_)
 refine yj 20 hc ?_
 iterate 7 refine yt ?_
 refine ya 15 28 (.bool true) ?_
 obtain rfl := sj hr2
 exact yv ⟨I2, rfl, lr, hS7⟩
 refine yj 20 hc (WO.vs 8 [(21, Sl a_p0 p0 c_p0), (22, Nv i4)] ?_)
 obtain ⟨x16, hr2, h0_x16, h1_x16, hx_x16, ha_x16, _, _, rfl, hc_x16⟩ := sl_at ((RSl.mono h_p0 hl3)) hr2
 refine yq 67 5 ha_x16 h0_x16 h1_x16 ?_
 refine ya 11 24 (.pointer (some ⟨bl a_p0, of a_p0 + ((i4 : Int)).toNat * 5 + 1, none⟩)) (WO.le (v := (.string x16.By)) hc_x16 1 hS7.rm ?_)
 refine WO.vs 13 [(26, Iv (x16.By.size : Int)), (27, .bool (decide ((x16.By.size : Int) > 100))), (28, .bool (decide ((x16.By.size : Int) > 100)))] ?_
 obtain rfl := sj hr2
 exact yv ⟨I2, rfl, lr, hS7⟩
 rintro _ w17 ⟨I14, rfl, hl15, hS18⟩
 refine ya 16 29 (.bool j12) ?_
 obtain ⟨j19, hr2, hr1⟩ := bsm hr1
 refine WO.jw (l1 := [17, 18, 19, 20, 21, 22, 23, 24]) (J := (fun fr w => ∃ I21, fr = [(0, Sl a_p0 p0 c_p0), (3, Nv i4), (37, .bool j19)] ∧ I14.Le I21 ∧ St E w I21 Os)) ?_ ?_
 refine WO.cb hr2 (fun hc hr2 => ?_) (fun hc hr2 => ?_)
 refine yj 29 hc ?_
 iterate 7 refine yt ?_
 refine ya 24 37 (.bool true) ?_
 obtain rfl := sj hr2
 exact yv ⟨I14, rfl, lr, hS18⟩
 refine yj 29 hc (WO.vs 17 [(30, Sl a_p0 p0 c_p0), (31, Nv i4)] ?_)
 obtain ⟨x23, hr2, h0_x23, h1_x23, hx_x23, ha_x23, _, _, rfl, hc_x23⟩ := sl_at ((RSl.mono h_p0 (hl3.trans hl15))) hr2
 refine yq 67 5 ha_x23 h0_x23 h1_x23 ?_
 refine ya 20 33 (.pointer (some ⟨bl a_p0, of a_p0 + ((i4 : Int)).toNat * 5 + 2, none⟩)) (WO.le (v := (.string x23.Table)) hc_x23 2 hS18.rm ?_)
 refine WO.vs 22 [(35, Iv (x23.Table.size : Int)), (36, .bool (decide ((x23.Table.size : Int) > 100))), (37, .bool (decide ((x23.Table.size : Int) > 100)))] ?_
 obtain rfl := sj hr2
 exact yv ⟨I14, rfl, lr, hS18⟩
 rintro _ w24 ⟨I21, rfl, hl22, hS25⟩
 refine yb (W.cb hr1 (fun hc hr1 => ?_) (fun hc hr1 => ?_))
 refine yd [0] ?_
 refine ya 0 2 (.bool false) (yb (W.ret (yh (yc (ym ?_)))))
 obtain rfl := hext1 _ (sj hr1).symm
 refine yh (yc ?_)
 obtain rfl := sj hr
 exact yr ⟨I21, rfl, ((hl3.trans hl15).trans hl22), hS25⟩
 refine yg (yi (En.next (yaa nL3 ?_)))
 refine ya 0 11 (Nv i4) (y0 (j := i4) rfl (by kernel_rfl) rfl (by first | omega | (dsimp only at *; omega) | (simp only [List.length_cons, List.length_nil] at *; omega)) ?_)
 exact ya 2 3 (Iv ((i4 + 1 : Nat) : Int)) (WO.nil (yo ⟨(), (sj hr1).symm, I21, rfl, ((hl3.trans hl15).trans hl22), hS25⟩))
 rintro _ _ w28 ⟨I2, rfl, hl3, hS29⟩ he
 cases he
 refine ye (yd nL4 ?_)
 refine WO.vs 0 [(7, Nv p0.length), (8, Sl a_p0 p0 c_p0), (9, Nv p0.length), (10, .bool (decide ((p0.length : Int) < (p0.length : Int))))] (yb (yah (fun hc => ?_)))
 clear hc
 refine yy (yk (yl (yn (En.next (yd [0] ?_)))))
 refine ya 0 2 (.bool true) (yb (W.ret ?_))
 obtain rfl := sj hr
 exact yr ⟨I2, rfl, hl3, hS29⟩
noncomputable def r18_Few (p0 : List qRole) : Option Bool := (bif (decide ((p0.length : Int) > 12)) then some false else (forN (fun (i4 : Nat) => fun (_s : Unit) => (idx p0 (i4 : Int)).bind (fun x11 => ((bif (decide ((x11.In.length : Int) > 12)) then some true else (idx p0 (i4 : Int)).bind (fun x16 => some (decide ((x16.Name.size : Int) > 100))))).bind (fun (j12 : Bool) => (bif j12 then some (.inr false) else (loopO (fun (s24 : Int) => (idx p0 (i4 : Int)).bind (fun x29 => (bif (decide (s24 < (x29.In.length : Int))) then (idx p0 (i4 : Int)).bind (fun x30 => (idx x30.In s24).bind (fun x31 => (bif (decide ((x31.size : Int) > 100)) then some (.inr (.inl false)) else some (.inl (w64 (s24 + 1)))))) else some (.inr (.inr ()))))) 0).bind (fun (t : Bool ⊕ Unit) => match t with | (.inl s33) => some (.inr s33) | (.inr ()) => some (.inl ())))))) p0.length 0 ()).bind (fun (t : Unit ⊕ (Bool)) => match t with | .inl _ => some true | .inr s20 => some s20))
theorem r18_Few_ok {p0 : List qRole} {a_p0 : Option Addr} {c_p0 : Nat} (h_p0 : RSl 2 R_qRole I a_p0 c_p0 p0) (hS : St E w I Os) {r : Bool} (hr : r18_Few p0 = some r) :
    Calls P 15 #[(Sl a_p0 p0 c_p0)] w (fun e w' => ∃ I', e = .returned (.bool r) ∧ I.Le I' ∧ St E w' I' Os) := by
 refine calls_W (fn := Tryz.f15) rfl rfl rfl ?_
 unfold r18_Few at hr
 refine yd [0] ?_
 refine ya 0 2 (.bool false) (yb (ye (yd nL3 ?_)))
 refine WO.vs 0 [(5, Sl a_p0 p0 c_p0), (6, Nv p0.length), (7, .bool (decide ((p0.length : Int) > 12)))] (yb (W.cb hr (fun hc hr => ?_) (fun hc hr => ?_)))
 refine yd [0] ?_
 refine ya 0 2 (.bool false) (yb (W.ret (yc ?_)))
 obtain rfl := sj hr
 exact yr ⟨I, rfl, lr, hS⟩
 refine yg (En.next (ye (yd [0] ?_)))
 refine ya 0 3 (Iv 0) (yb (W.block ?_))
 obtain ⟨t1, hloop5, hr⟩ := bsm hr
 have hlt9 := (h_p0).len_lt
 refine W.wk (W.forN (m := p0.length) hloop5 (fun (i4 : Nat) => fun (_s : Unit) fr w => ∃ I2, fr = [(0, Sl a_p0 p0 c_p0), (3, Nv i4)] ∧ I.Le I2 ∧ St E w I2 Os) ⟨I, rfl, lr, hS⟩ ?_ ?_)
 rintro i4 _ _ w6 hi10 ⟨I2, rfl, hl3, hS7⟩ x8 hr1 hext1
 refine ye (yd nL4 ?_)
 refine WO.vs 0 [(8, Nv i4), (9, Sl a_p0 p0 c_p0), (10, Nv p0.length), (11, .bool (decide ((i4 : Int) < (p0.length : Int))))] (yb (yag (fun hc => ?_)))
 clear hc
 refine yg (En.next (ye (W.block (ye (yd nL16 ?_)))))
 refine WO.vs 0 [(14, Sl a_p0 p0 c_p0), (15, Nv i4)] ?_
 obtain ⟨x11, hr1, h0_x11, h1_x11, hx_x11, ha_x11, _, _, ⟨w_x11, rfl, h_x11⟩, hc_x11⟩ := sl_at ((RSl.mono h_p0 hl3)) hr1
 refine yq 62 2 ha_x11 h0_x11 h1_x11 ?_
 refine ya 3 17 (.pointer (some ⟨bl a_p0, of a_p0 + ((i4 : Int)).toNat * 2 + 1, none⟩)) (WO.le (v := (Sl w_x11.In.a x11.In w_x11.In.c)) hc_x11 1 hS7.rm ?_)
 refine WO.vs 5 [(19, Nv x11.In.length), (20, .bool (decide ((x11.In.length : Int) > 12))), (21, .bool (decide ((x11.In.length : Int) > 12)))] ?_
 obtain ⟨j12, hr2, hr1⟩ := bsm hr1
 refine WO.jw (l1 := [8, 9, 10, 11, 12, 13, 14, 15]) (J := (fun fr w => ∃ I14, fr = [(0, Sl a_p0 p0 c_p0), (3, Nv i4), (29, .bool j12)] ∧ I2.Le I14 ∧ St E w I14 Os)) ?_ ?_
 refine WO.cb hr2 (fun hc hr2 => ?_) (fun hc hr2 => ?_)
 refine yj 21 hc ?_
 iterate 7 refine yt ?_
 refine ya 15 29 (.bool true) ?_
 obtain rfl := sj hr2
 exact yv ⟨I2, rfl, lr, hS7⟩
 refine yj 21 hc (WO.vs 8 [(22, Sl a_p0 p0 c_p0), (23, Nv i4)] ?_)
 obtain ⟨x16, hr2, h0_x16, h1_x16, hx_x16, ha_x16, _, _, ⟨w_x16, rfl, h_x16⟩, hc_x16⟩ := sl_at ((RSl.mono h_p0 hl3)) hr2
 refine yq 62 2 ha_x16 h0_x16 h1_x16 ?_
 refine ya 11 25 (.pointer (some ⟨bl a_p0, of a_p0 + ((i4 : Int)).toNat * 2, none⟩)) (yae (v := (.string x16.Name)) hc_x16 hS7.rm ?_)
 refine WO.vs 13 [(27, Iv (x16.Name.size : Int)), (28, .bool (decide ((x16.Name.size : Int) > 100))), (29, .bool (decide ((x16.Name.size : Int) > 100)))] ?_
 obtain rfl := sj hr2
 exact yv ⟨I2, rfl, lr, hS7⟩
 rintro _ w17 ⟨I14, rfl, hl15, hS18⟩
 refine yb (W.cb hr1 (fun hc hr1 => ?_) (fun hc hr1 => ?_))
 refine yd [0] ?_
 refine ya 0 2 (.bool false) (yb (W.ret (yc (yh (yc (ym ?_))))))
 obtain rfl := hext1 _ (sj hr1).symm
 refine yh (yc ?_)
 obtain rfl := sj hr
 exact yr ⟨I14, rfl, (hl3.trans hl15), hS18⟩
 refine yg (En.next (yd [0] ?_))
 refine ya 0 4 (Iv 0) (yb (W.block ?_))
 obtain ⟨t21, hloop25, hr1⟩ := bsm hr1
 refine W.wk (yap hloop25 (fun (s24 : Int) fr w => ∃ I22, fr = [(0, Sl a_p0 p0 c_p0), (3, Nv i4), (4, Iv s24)] ∧ I14.Le I22 ∧ St E w I22 Os) ⟨I14, rfl, lr, hS18⟩ ?_)
 rintro s24 _ w26 ⟨I22, rfl, hl23, hS27⟩ x28 hr2 hext21
 refine ye (yd nL8 ?_)
 refine WO.vs 0 [(30, Iv s24), (31, Sl a_p0 p0 c_p0), (32, Nv i4)] ?_
 obtain ⟨x29, hr2, h0_x29, h1_x29, hx_x29, ha_x29, _, _, ⟨w_x29, rfl, h_x29⟩, hc_x29⟩ := sl_at ((RSl.mono h_p0 ((hl3.trans hl15).trans hl23))) hr2
 refine yq 62 2 ha_x29 h0_x29 h1_x29 ?_
 refine ya 4 34 (.pointer (some ⟨bl a_p0, of a_p0 + ((i4 : Int)).toNat * 2 + 1, none⟩)) (WO.le (v := (Sl w_x29.In.a x29.In w_x29.In.c)) hc_x29 1 hS27.rm ?_)
 refine WO.vs 6 [(36, Nv x29.In.length), (37, .bool (decide (s24 < (x29.In.length : Int))))] (yb (W.cb hr2 (fun hc hr2 => ?_) (fun hc hr2 => ?_)))
 refine yg (En.next (ye (W.block (yd nL10 ?_))))
 refine WO.vs 0 [(40, Sl a_p0 p0 c_p0), (41, Nv i4)] ?_
 obtain ⟨x30, hr2, h0_x30, h1_x30, hx_x30, ha_x30, _, _, ⟨w_x30, rfl, h_x30⟩, hc_x30⟩ := sl_at ((RSl.mono h_p0 ((hl3.trans hl15).trans hl23))) hr2
 refine yq 62 2 ha_x30 h0_x30 h1_x30 ?_
 refine ya 3 43 (.pointer (some ⟨bl a_p0, of a_p0 + ((i4 : Int)).toNat * 2 + 1, none⟩)) (WO.le (v := (Sl w_x30.In.a x30.In w_x30.In.c)) hc_x30 1 hS27.rm ?_)
 refine ya 5 45 (Iv s24) ?_
 obtain ⟨x31, hr2, h0_x31, h1_x31, hx_x31, ha_x31, _, _, rfl, hc_x31⟩ := sl_at (h_x30.In) hr2
 refine yq 9 1 ha_x31 h0_x31 h1_x31 ?_
 refine yae (v := (.string x31)) hc_x31 hS27.rm ?_
 refine WO.vs 8 [(48, Iv (x31.size : Int)), (49, .bool (decide ((x31.size : Int) > 100)))] (yb (W.cb hr2 (fun hc hr2 => ?_) (fun hc hr2 => ?_)))
 refine yd [0] ?_
 refine ya 0 2 (.bool false) (yb (W.ret (yh (yc (ym ?_)))))
 obtain rfl := hext21 _ (sj hr2).symm
 refine yh (yh (yc (ym ?_)))
 obtain rfl := hext1 _ (sj hr1).symm
 refine yh (yc ?_)
 obtain rfl := sj hr
 exact yr ⟨I22, rfl, ((hl3.trans hl15).trans hl23), hS27⟩
 refine yg (yi (En.next (yaa nL3 ?_)))
 exact WO.vs 0 [(38, Iv s24), (39, Iv (w64 (s24 + 1))), (4, Iv (w64 (s24 + 1)))] (WO.nil (yo ⟨(w64 (s24 + 1)), (sj hr2).symm, I22, rfl, hl23, hS27⟩))
 refine yy (yk (yl ?_))
 obtain rfl := hext21 _ (sj hr2).symm
 refine yn (yi (En.next (yaa nL3 ?_)))
 refine ya 0 12 (Nv i4) (y0 (j := i4) rfl (by kernel_rfl) rfl (by first | omega | (dsimp only at *; omega) | (simp only [List.length_cons, List.length_nil] at *; omega)) ?_)
 exact ya 2 3 (Iv ((i4 + 1 : Nat) : Int)) (WO.nil (yo ⟨(), (sj hr1).symm, I22, rfl, ((hl3.trans hl15).trans hl23), hS27⟩))
 rintro _ _ w35 ⟨I2, rfl, hl3, hS36⟩ he
 cases he
 refine ye (yd nL4 ?_)
 refine WO.vs 0 [(8, Nv p0.length), (9, Sl a_p0 p0 c_p0), (10, Nv p0.length), (11, .bool (decide ((p0.length : Int) < (p0.length : Int))))] (yb (yah (fun hc => ?_)))
 clear hc
 refine yy (yk (yl (yn (En.next (yd [0] ?_)))))
 refine ya 0 2 (.bool true) (yb (W.ret ?_))
 obtain rfl := sj hr
 exact yr ⟨I2, rfl, hl3, hS36⟩
def r17_New  : Option qCatalog := some { z_qCatalog with Roles := ([{ z_qRole with Name := (⟨#[114, 111, 111, 116]⟩ : ByteArray) }] : List qRole) }
theorem r17_New_ok (hS : St E w I Os) {r : qCatalog} (hr : r17_New = some r) :
    Calls P 30 #[] w (fun e w' => ∃ I' w_rw0, e = .returned (.agg (cs_qCatalog r w_rw0).toArray) ∧ I.Le I' ∧ St E w' I' Os ∧ ok_qCatalog I' r w_rw0) := by
 refine calls_W (fn := Tryz.f30) rfl rfl rfl ?_
 unfold r17_New at hr
 refine yd [0] ?_
 refine yx hS (cs_qCatalog z_qCatalog zw_qCatalog) 29 ?_
 intro b1 w4 hS3
 refine yz nL4 ?_
 refine ya 0 1 (.agg (cs_qRole ({ z_qRole with Name := (⟨#[114, 111, 111, 116]⟩ : ByteArray) }) zw_qRole).toArray) ?_
 have hk12 : ok_qRole I ({ z_qRole with Name := (⟨#[114, 111, 111, 116]⟩ : ByteArray) }) zw_qRole := ⟨SlAt.nil⟩
 refine y3 (rel := R_qRole) (xs := ([{ z_qRole with Name := (⟨#[114, 111, 111, 116]⟩ : ByteArray) }] : List qRole)) hS3 rfl (by kernel_rfl) rfl 62 2 [(cs_qRole ({ z_qRole with Name := (⟨#[114, 111, 111, 116]⟩ : ByteArray) }) zw_qRole)] (by kernel_rfl) rfl ((Elr.cons ⟨zw_qRole, rfl, hk12⟩ Elr.nil)) (fun _ _ _ => trivial) ?_
 intro a8 C6 w10 hS9 ho7
 obtain ⟨I13, hl14, hS16, hp15⟩ := y4 ho7 hS9
 refine ya 2 3 (.agg #[(Iv 0), (.slice none 0 0), (.slice a8 1 1), (.slice none 0 0)]) (yw hS16 0 [(Iv 0), (.slice none 0 0), (.slice a8 1 1), (.slice none 0 0)] ?_)
 intro w18 hS17
 refine yb (W.ret ?_)
 have hk20 : ok_qCatalog I13 ({ z_qCatalog with Roles := ([{ z_qRole with Name := (⟨#[114, 111, 111, 116]⟩ : ByteArray) }] : List qRole) }) ({ zw_qCatalog with Roles := ⟨a8, 1⟩ }) := ⟨SlAt.nil, hp15, SlAt.nil⟩
 obtain rfl := sj hr
 exact yay _ (hS17.rd m0) ⟨I13, ({ zw_qCatalog with Roles := ⟨a8, 1⟩ }), rfl, hl14, hS17.drop, hk20⟩
def r18_At (p0 : List qRole) (p1 : ByteArray) : Option Int := (forN (fun (i4 : Nat) => fun (_s : Unit) => (idx p0 (i4 : Int)).bind (fun x11 => (bif (sEq x11.Name p1) then some (.inr (i4 : Int)) else some (.inl ())))) p0.length 0 ()).bind (fun (t : Unit ⊕ (Int)) => match t with | .inl _ => some (-1) | .inr s13 => some s13)
theorem r18_At_ok {p0 : List qRole} {p1 : ByteArray} {a_p0 : Option Addr} {c_p0 : Nat} (h_p0 : RSl 2 R_qRole I a_p0 c_p0 p0) (hS : St E w I Os) {r : Int} (hr : r18_At p0 p1 = some r) :
    Calls P 37 #[(Sl a_p0 p0 c_p0), (.string p1)] w (fun e w' => ∃ I', e = .returned (Iv r) ∧ I.Le I' ∧ St E w' I' Os) := by
 refine calls_W (fn := Tryz.f37) rfl rfl rfl ?_
 unfold r18_At at hr
 refine yd [0] ?_
 refine ya 0 4 (Iv 0) (yb (ye (yd [0] ?_)))
 refine ya 0 5 (Iv 0) (yb (W.block ?_))
 obtain ⟨t1, hloop5, hr⟩ := bsm hr
 have hlt9 := (h_p0).len_lt
 refine W.wk (W.forN (m := p0.length) hloop5 (fun (i4 : Nat) => fun (_s : Unit) fr w => ∃ I2, fr = [(0, Sl a_p0 p0 c_p0), (1, .string p1), (5, Nv i4)] ∧ I.Le I2 ∧ St E w I2 Os) ⟨I, rfl, lr, hS⟩ ?_ ?_)
 rintro i4 _ _ w6 hi10 ⟨I2, rfl, hl3, hS7⟩ x8 hr1 hext1
 refine ye (yd nL4 ?_)
 refine WO.vs 0 [(6, Nv i4), (7, Sl a_p0 p0 c_p0), (8, Nv p0.length), (9, .bool (decide ((i4 : Int) < (p0.length : Int))))] (yb (yag (fun hc => ?_)))
 clear hc
 refine yg (En.next (ye (W.block (yd nL7 ?_))))
 refine WO.vs 0 [(12, Sl a_p0 p0 c_p0), (13, Nv i4)] ?_
 obtain ⟨x11, hr1, h0_x11, h1_x11, hx_x11, ha_x11, _, _, ⟨w_x11, rfl, h_x11⟩, hc_x11⟩ := sl_at ((RSl.mono h_p0 hl3)) hr1
 refine yq 62 2 ha_x11 h0_x11 h1_x11 ?_
 refine ya 3 15 (.pointer (some ⟨bl a_p0, of a_p0 + ((i4 : Int)).toNat * 2, none⟩)) (yae (v := (.string x11.Name)) hc_x11 hS7.rm ?_)
 refine WO.vs 5 [(17, .string p1), (18, .bool (sEq x11.Name p1))] (yb (W.cb hr1 (fun hc hr1 => ?_) (fun hc hr1 => ?_)))
 refine yd nL2 ?_
 refine WO.vs 0 [(19, Nv i4), (4, Nv i4)] (yb (W.ret (yh (yc (ym ?_)))))
 obtain rfl := hext1 _ (sj hr1).symm
 refine yh (yc ?_)
 obtain rfl := sj hr
 exact yr ⟨I2, rfl, hl3, hS7⟩
 refine yg (yi (En.next (yaa nL3 ?_)))
 refine ya 0 10 (Nv i4) (y0 (j := i4) rfl (by kernel_rfl) rfl (by first | omega | (dsimp only at *; omega) | (simp only [List.length_cons, List.length_nil] at *; omega)) ?_)
 exact ya 2 5 (Iv ((i4 + 1 : Nat) : Int)) (WO.nil (yo ⟨(), (sj hr1).symm, I2, rfl, hl3, hS7⟩))
 rintro _ _ w14 ⟨I2, rfl, hl3, hS15⟩ he
 cases he
 refine ye (yd nL4 ?_)
 refine WO.vs 0 [(6, Nv p0.length), (7, Sl a_p0 p0 c_p0), (8, Nv p0.length), (9, .bool (decide ((p0.length : Int) < (p0.length : Int))))] (yb (yah (fun hc => ?_)))
 clear hc
 refine yy (yk (yl (yn (En.next (yd [0] ?_)))))
 refine ya 0 4 (Iv (-1)) (yb (W.ret ?_))
 obtain rfl := sj hr
 exact yr ⟨I2, rfl, hl3, hS15⟩
noncomputable def r18_Reach (p0 : List qRole) (p1 : ByteArray) : Option (List Bool) := (mk 1 (p0.length : Int)).bind (fun n1 => (r18_At p0 p1).bind (fun r13 => ((bif (decide (r13 ≥ 0)) then (idx (List.replicate n1 false) r13).bind (fun x18 => some ((List.replicate n1 false).set (r13).toNat true)) else some (List.replicate n1 false))).bind (fun (j14 : List Bool) => (forE (fun (i29 : Nat) => fun (s28 : List Bool) => (forE (fun (i40 : Nat) => fun (s39 : List Bool) => (loopO (fun (s : Int × (List Bool)) => match s with | (s50, s51) => (idx s51 (i40 : Int)).bind (fun x56 => ((bif x56 then (idx p0 (i40 : Int)).bind (fun x61 => some (decide (s50 < (x61.In.length : Int)))) else some false)).bind (fun (j57 : Bool) => (bif j57 then (idx p0 (i40 : Int)).bind (fun x64 => (idx x64.In s50).bind (fun x65 => (r18_At p0 x65).bind (fun r71 => ((bif (decide (r71 ≥ 0)) then (idx s51 r71).bind (fun x76 => some (s51.set (r71).toNat true)) else some s51)).bind (fun (j72 : List Bool) => some (.inl ((w64 (s50 + 1)), j72)))))) else some (.inr s51))))) (0, s39)).bind (fun (s84 : List Bool) => some s84)) p0.length 0 s28).bind (fun s39 => some s39)) p0.length 0 j14).bind (fun s28 => some s28))))
theorem r18_Reach_ok {p0 : List qRole} {p1 : ByteArray} {a_p0 : Option Addr} {c_p0 : Nat} (h_p0 : RSl 2 R_qRole I a_p0 c_p0 p0) (hS : St E w I Os) {r : (List Bool)} (hr : r18_Reach p0 p1 = some r) :
    Calls P 80 #[(Sl a_p0 p0 c_p0), (.string p1)] w (fun e w' => ∃ (I' : Mem) (ra0 : Option Addr) (rc0 : Nat), e = .returned (Sl ra0 r rc0) ∧ I.Le I' ∧ St E w' I' Os ∧ RSl 1 RBool I' ra0 rc0 r) := by
 refine calls_W (fn := Tryz.f80) rfl rfl rfl ?_
 unfold r18_Reach at hr
 refine yd [0] ?_
 refine ya 0 4 (.slice none 0 0) (yz nL4 ?_)
 refine WO.vs 0 [(11, Sl a_p0 p0 c_p0), (12, Nv p0.length)] ?_
 obtain ⟨n1, hx_n1, hr⟩ := bsm hr
 obtain ⟨h0_n1, he_n1⟩ := mk_some hx_n1
 refine WO.make (rel := RBool) hS rfl (by kernel_rfl) rfl (by kernel_rfl) (T := 4) (sz := 1) (b := 1) (zs := #[(.bool false)]) (by kernel_rfl) rfl rfl n1 (congrArg (Value.int .i64) he_n1) (congrArg (Value.int .i64) he_n1) h0_n1 rfl (z0 := false) rfl (fun _ _ _ => trivial) ?_
 intro a2 w6 C3 hS5 ho4
 refine y7 13 rfl (show Value.slice a2 n1 n1 = Value.slice a2 (List.replicate n1 false).length n1 by simp only [List.length_replicate]) ?_
 refine ya 3 5 (.slice a2 (List.replicate n1 false).length n1) (yz nL4 ?_)
 refine WO.vs 0 [(14, Sl a_p0 p0 c_p0), (15, .string p1)] ?_
 obtain ⟨r13, hx_r8, hr⟩ := bsm hr
 refine y6 (r18_At_ok h_p0 hS5 hx_r8) ?_
 intro I10 w9 hl11 hS12
 refine ya 3 6 (Iv r13) (yb (ye (yd nL2 ?_)))
 refine WO.vs 0 [(17, Iv r13), (18, .bool (decide (r13 ≥ 0)))] (yb ?_)
 obtain ⟨j14, hr1, hr⟩ := bsm hr
 refine W.jw (J := (fun fr w => ∃ I16 C_j14, fr = [(0, Sl a_p0 p0 c_p0), (5, Sl a2 j14 n1)] ∧ I10.Le I16 ∧ St E w I16 ((C_j14) :: Os) ∧ OwnSl 4 1 RBool I16 C_j14 a2 n1 j14)) ?_ ?_
 refine W.cb hr1 (fun hc hr1 => ?_) (fun hc hr1 => ?_)
 refine yaa nL4 ?_
 refine WO.vs 0 [(19, .slice a2 (List.replicate n1 false).length n1), (20, Iv r13)] ?_
 obtain ⟨x18, hr1, h0_x18, h1_x18, hx_x18, ha_x18, _, _, rfl, hc_x18⟩ := sl_at ((ho4.mono hl11).sl) hr1
 refine yq 4 1 ha_x18 h0_x18 h1_x18 ?_
 refine yan hS12 (OwnSl.mono ho4 hl11) rfl (by kernel_rfl) rfl hx_x18 (u' := true) 0 rfl rfl (by kernel_rfl) rfl rfl (fun cs hrel => (by obtain rfl := hrel; exact rfl)) (fun _ _ _ => trivial) ?_
 intro w20 C21 hS19 ho22
 refine y7 5 rfl (show Value.slice a2 (List.replicate n1 false).length n1 = Value.slice a2 ((List.replicate n1 false).set (r13).toNat true).length n1 by simp only [List.length_set]) ?_
 refine WO.nil ?_
 obtain rfl := sj hr1
 exact yo ⟨I10, C21, rfl, lr, hS19, ho22⟩
 refine yg ?_
 obtain rfl := sj hr1
 exact yo ⟨I10, C3, rfl, lr, hS12, (OwnSl.mono ho4 hl11)⟩
 rintro _ w23 ⟨I16, C_j14, rfl, hl17, hS24, h_j14⟩
 refine En.next (ye (yd [0] ?_))
 refine ya 0 7 (Iv 0) (yb (W.block ?_))
 obtain ⟨s28, hloop30, hr⟩ := bsm hr
 have hlt34 := ((RSl.mono h_p0 (hl11.trans hl17))).len_lt
 refine W.wk (W.forE (m := p0.length) hloop30 (fun (i29 : Nat) => fun (s28 : List Bool) fr w => ∃ I26 C_s28, fr = [(0, Sl a_p0 p0 c_p0), (5, Sl a2 s28 n1), (7, Nv i29)] ∧ I16.Le I26 ∧ St E w I26 ((C_s28) :: Os) ∧ OwnSl 4 1 RBool I26 C_s28 a2 n1 s28) ⟨I16, C_j14, rfl, lr, hS24, h_j14⟩ ?_ ?_)
 rintro i29 s28 _ w31 hi35 ⟨I26, C_s28, rfl, hl27, hS32, h_s28⟩ x33 hr1
 refine ye (yd nL4 ?_)
 refine WO.vs 0 [(22, Nv i29), (23, Sl a_p0 p0 c_p0), (24, Nv p0.length), (25, .bool (decide ((i29 : Int) < (p0.length : Int))))] (yb (yag (fun hc => ?_)))
 clear hc
 refine yg (En.next (ye (W.block (yd [0] ?_))))
 refine ya 0 8 (Iv 0) (yb (W.block ?_))
 obtain ⟨s39, hloop41, hr1⟩ := bsm hr1
 have hlt45 := ((RSl.mono h_p0 ((hl11.trans hl17).trans hl27))).len_lt
 refine W.wk (W.forE (m := p0.length) hloop41 (fun (i40 : Nat) => fun (s39 : List Bool) fr w => ∃ I37 C_s39, fr = [(0, Sl a_p0 p0 c_p0), (5, Sl a2 s39 n1), (7, Nv i29), (8, Nv i40)] ∧ I26.Le I37 ∧ St E w I37 ((C_s39) :: Os) ∧ OwnSl 4 1 RBool I37 C_s39 a2 n1 s39) ⟨I26, C_s28, rfl, lr, hS32, h_s28⟩ ?_ ?_)
 rintro i40 s39 _ w42 hi46 ⟨I37, C_s39, rfl, hl38, hS43, h_s39⟩ x44 hr2
 refine ye (yd nL4 ?_)
 refine WO.vs 0 [(28, Nv i40), (29, Sl a_p0 p0 c_p0), (30, Nv p0.length), (31, .bool (decide ((i40 : Int) < (p0.length : Int))))] (yb (yag (fun hc => ?_)))
 clear hc
 refine yg (En.next (ye (W.block (yd [0] ?_))))
 refine ya 0 9 (Iv 0) (yb (W.block ?_))
 obtain ⟨t47, hloop52, hr2⟩ := bsm hr2
 refine W.wk (yap hloop52 (fun (s : Int × (List Bool)) fr w => match s with | (s50, s51) => ∃ I48 C_s51, fr = [(0, Sl a_p0 p0 c_p0), (5, Sl a2 s51 n1), (7, Nv i29), (8, Nv i40), (9, Iv s50)] ∧ I37.Le I48 ∧ St E w I48 ((C_s51) :: Os) ∧ OwnSl 4 1 RBool I48 C_s51 a2 n1 s51) ⟨I37, C_s39, rfl, lr, hS43, h_s39⟩ ?_)
 rintro ⟨s50, s51⟩ _ w53 ⟨I48, C_s51, rfl, hl49, hS54, h_s51⟩ x55 hr3 hext47
 refine ye (yd nL14 ?_)
 refine WO.vs 0 [(34, Sl a2 s51 n1), (35, Nv i40)] ?_
 obtain ⟨x56, hr3, h0_x56, h1_x56, hx_x56, ha_x56, _, _, rfl, hc_x56⟩ := sl_at (h_s51.sl) hr3
 refine yq 4 1 ha_x56 h0_x56 h1_x56 ?_
 refine yae (v := (.bool x56)) hc_x56 (hS54.rf m0) ?_
 refine ya 4 38 (.bool x56) ?_
 obtain ⟨j57, hr4, hr3⟩ := bsm hr3
 refine WO.jw (l1 := [5, 6, 7, 8, 9, 10, 11, 12, 13]) (J := (fun fr w => ∃ I59, fr = [(0, Sl a_p0 p0 c_p0), (5, Sl a2 s51 n1), (7, Nv i29), (8, Nv i40), (9, Iv s50), (47, .bool j57)] ∧ I48.Le I59 ∧ St E w I59 ((C_s51) :: Os))) ?_ ?_
 refine WO.cb hr4 (fun hc hr4 => ?_) (fun hc hr4 => ?_)
 refine yj 38 hc (WO.vs 5 [(39, Iv s50), (40, Sl a_p0 p0 c_p0), (41, Nv i40)] ?_)
 obtain ⟨x61, hr4, h0_x61, h1_x61, hx_x61, ha_x61, _, _, ⟨w_x61, rfl, h_x61⟩, hc_x61⟩ := sl_at ((RSl.mono h_p0 ((((hl11.trans hl17).trans hl27).trans hl38).trans hl49))) hr4
 refine yq 62 2 ha_x61 h0_x61 h1_x61 ?_
 refine ya 9 43 (.pointer (some ⟨bl a_p0, of a_p0 + ((i40 : Int)).toNat * 2 + 1, none⟩)) (WO.le (v := (Sl w_x61.In.a x61.In w_x61.In.c)) hc_x61 1 hS54.rm ?_)
 refine WO.vs 11 [(45, Nv x61.In.length), (46, .bool (decide (s50 < (x61.In.length : Int)))), (47, .bool (decide (s50 < (x61.In.length : Int))))] ?_
 obtain rfl := sj hr4
 exact yv ⟨I48, rfl, lr, hS54⟩
 refine yj 38 hc ?_
 iterate 8 refine yt ?_
 refine ya 13 47 (.bool false) ?_
 obtain rfl := sj hr4
 exact yv ⟨I48, rfl, lr, hS54⟩
 rintro _ w62 ⟨I59, rfl, hl60, hS63⟩
 refine yb (W.cb hr3 (fun hc hr3 => ?_) (fun hc hr3 => ?_))
 refine yg (En.next (ye (W.block (yd nL11 ?_))))
 refine WO.vs 0 [(50, Sl a_p0 p0 c_p0), (51, Sl a_p0 p0 c_p0), (52, Nv i40)] ?_
 obtain ⟨x64, hr3, h0_x64, h1_x64, hx_x64, ha_x64, _, _, ⟨w_x64, rfl, h_x64⟩, hc_x64⟩ := sl_at ((RSl.mono h_p0 (((((hl11.trans hl17).trans hl27).trans hl38).trans hl49).trans hl60))) hr3
 refine yq 62 2 ha_x64 h0_x64 h1_x64 ?_
 refine ya 4 54 (.pointer (some ⟨bl a_p0, of a_p0 + ((i40 : Int)).toNat * 2 + 1, none⟩)) (WO.le (v := (Sl w_x64.In.a x64.In w_x64.In.c)) hc_x64 1 hS63.rm ?_)
 refine ya 6 56 (Iv s50) ?_
 obtain ⟨x65, hr3, h0_x65, h1_x65, hx_x65, ha_x65, _, _, rfl, hc_x65⟩ := sl_at (h_x64.In) hr3
 refine yq 9 1 ha_x65 h0_x65 h1_x65 ?_
 refine yae (v := (.string x65)) hc_x65 hS63.rm ?_
 obtain ⟨r71, hx_r66, hr3⟩ := bsm hr3
 refine y6 (r18_At_ok (RSl.mono h_p0 (((((hl11.trans hl17).trans hl27).trans hl38).trans hl49).trans hl60)) hS63 hx_r66) ?_
 intro I68 w67 hl69 hS70
 refine ya 10 10 (Iv r71) (yz nL2 ?_)
 refine WO.vs 0 [(60, Iv r71), (61, .bool (decide (r71 ≥ 0)))] (yb ?_)
 obtain ⟨j72, hr4, hr3⟩ := bsm hr3
 refine W.jw (J := (fun fr w => ∃ I74 C_j72, fr = [(0, Sl a_p0 p0 c_p0), (5, Sl a2 j72 n1), (7, Nv i29), (8, Nv i40), (9, Iv s50)] ∧ I68.Le I74 ∧ St E w I74 ((C_j72) :: Os) ∧ OwnSl 4 1 RBool I74 C_j72 a2 n1 j72)) ?_ ?_
 refine W.cb hr4 (fun hc hr4 => ?_) (fun hc hr4 => ?_)
 refine yaa nL4 ?_
 refine WO.vs 0 [(62, Sl a2 s51 n1), (63, Iv r71)] ?_
 obtain ⟨x76, hr4, h0_x76, h1_x76, hx_x76, ha_x76, _, _, rfl, hc_x76⟩ := sl_at ((h_s51.mono (hl60.trans hl69)).sl) hr4
 refine yq 4 1 ha_x76 h0_x76 h1_x76 ?_
 refine yan hS70 (OwnSl.mono h_s51 (hl60.trans hl69)) rfl (by kernel_rfl) rfl hx_x76 (u' := true) 0 rfl rfl (by kernel_rfl) rfl rfl (fun cs hrel => (by obtain rfl := hrel; exact rfl)) (fun _ _ _ => trivial) ?_
 intro w78 C79 hS77 ho80
 refine y7 5 rfl (show Value.slice a2 s51.length n1 = Value.slice a2 (s51.set (r71).toNat true).length n1 by simp only [List.length_set]) ?_
 refine WO.nil ?_
 obtain rfl := sj hr4
 exact yo ⟨I68, C79, rfl, lr, hS77, ho80⟩
 refine yg ?_
 obtain rfl := sj hr4
 exact yo ⟨I68, C_s51, rfl, lr, hS70, (OwnSl.mono h_s51 (hl60.trans hl69))⟩
 rintro _ w81 ⟨I74, C_j72, rfl, hl75, hS82, h_j72⟩
 refine yi (En.next (yaa nL3 ?_))
 exact WO.vs 0 [(48, Iv s50), (49, Iv (w64 (s50 + 1))), (9, Iv (w64 (s50 + 1)))] (WO.nil (yo ⟨((w64 (s50 + 1)), j72), (sj hr3).symm, I74, C_j72, rfl, (((hl49.trans hl60).trans hl69).trans hl75), hS82, h_j72⟩))
 refine yy (yk (yl ?_))
 obtain rfl := hext47 _ (sj hr3).symm
 refine yn (yi (En.next (yaa nL3 ?_)))
 refine ya 0 32 (Nv i40) (y0 (j := i40) rfl (by kernel_rfl) rfl (by first | omega | (dsimp only at *; omega) | (simp only [List.length_cons, List.length_nil] at *; omega)) ?_)
 refine ya 2 8 (Iv ((i40 + 1 : Nat) : Int)) (WO.nil ?_)
 obtain rfl := sj hr2
 exact yo ⟨I59, C_s51, rfl, ((hl38.trans hl49).trans hl60), hS63, (OwnSl.mono h_s51 hl60)⟩
 rintro _ w85 ⟨I37, C_s39, rfl, hl38, hS86, h_s39⟩
 refine ye (yd nL4 ?_)
 refine WO.vs 0 [(28, Nv p0.length), (29, Sl a_p0 p0 c_p0), (30, Nv p0.length), (31, .bool (decide ((p0.length : Int) < (p0.length : Int))))] (yb (yah (fun hc => ?_)))
 clear hc
 refine yy (yk (yl (yn (yi (En.next (yaa nL3 ?_))))))
 refine ya 0 26 (Nv i29) (y0 (j := i29) rfl (by kernel_rfl) rfl (by first | omega | (dsimp only at *; omega) | (simp only [List.length_cons, List.length_nil] at *; omega)) ?_)
 refine ya 2 7 (Iv ((i29 + 1 : Nat) : Int)) (WO.nil ?_)
 obtain rfl := sj hr1
 exact yo ⟨I37, C_s39, rfl, (hl27.trans hl38), hS86, h_s39⟩
 rintro _ w87 ⟨I26, C_s28, rfl, hl27, hS88, h_s28⟩
 refine ye (yd nL4 ?_)
 refine WO.vs 0 [(22, Nv p0.length), (23, Sl a_p0 p0 c_p0), (24, Nv p0.length), (25, .bool (decide ((p0.length : Int) < (p0.length : Int))))] (yb (yah (fun hc => ?_)))
 clear hc
 refine yy (yk (yl (yn (En.next (yd nL2 ?_)))))
 refine ya 0 65 (Sl a2 s28 n1) ?_
 obtain ⟨I89, hl90, hS92, hp91⟩ := y4 h_s28 hS88
 refine ya 1 4 (Sl a2 s28 n1) (yb (W.ret ?_))
 obtain rfl := sj hr
 exact yr ⟨I89, a2, n1, rfl, (((hl11.trans hl17).trans hl27).trans hl90), hS92, hp91⟩
noncomputable def r18_into (p0 : List ByteArray) (p1 : ByteArray) : Option (List ByteArray) := (loopO (fun (s4 : Int) => ((bif (decide (s4 < (p0.length : Int))) then (idx p0 s4).bind (fun x13 => some (sLt x13 p1)) else some false)).bind (fun (j9 : Bool) => (bif j9 then some (.inl (w64 (s4 + 1))) else some (.inr s4)))) 0).bind (fun (s17 : Int) => (sub p0 0 s17).bind (fun x18 => (app 16 ([] : List ByteArray) x18).bind (fun x21 => (app 16 x21 ([p1] : List ByteArray)).bind (fun x36 => (sub p0 s17 (p0.length : Int)).bind (fun x45 => (app 16 x36 x45).bind (fun x46 => some x46))))))
theorem r18_into_ok {p0 : List ByteArray} {p1 : ByteArray} {a_p0 : Option Addr} {c_p0 : Nat} (h_p0 : RSl 1 RStr I a_p0 c_p0 p0) (hS : St E w I Os) {r : (List ByteArray)} (hr : r18_into p0 p1 = some r) :
    Calls P 81 #[(Sl a_p0 p0 c_p0), (.string p1)] w (fun e w' => ∃ (I' : Mem) (ra0 : Option Addr) (rc0 : Nat), e = .returned (Sl ra0 r rc0) ∧ I.Le I' ∧ St E w' I' Os ∧ RSl 1 RStr I' ra0 rc0 r) := by
 refine calls_W (fn := Tryz.f81) rfl rfl rfl ?_
 unfold r18_into at hr
 refine yd [0] ?_
 refine ya 0 4 (.slice none 0 0) (yz [0] ?_)
 refine ya 0 5 (Iv 0) (yb (ye (W.block ?_)))
 obtain ⟨t1, hloop5, hr⟩ := bsm hr
 refine W.wk (yap hloop5 (fun (s4 : Int) fr w => ∃ I2, fr = [(0, Sl a_p0 p0 c_p0), (1, .string p1), (5, Iv s4)] ∧ I.Le I2 ∧ St E w I2 Os) ⟨I, rfl, lr, hS⟩ ?_)
 rintro s4 _ w6 ⟨I2, rfl, hl3, hS7⟩ x8 hr1 hext1
 refine ye (yd nL12 ?_)
 refine WO.vs 0 [(7, Iv s4), (8, Sl a_p0 p0 c_p0), (9, Nv p0.length), (10, .bool (decide (s4 < (p0.length : Int)))), (11, .bool (decide (s4 < (p0.length : Int))))] ?_
 obtain ⟨j9, hr2, hr1⟩ := bsm hr1
 refine WO.jw (l1 := [5, 6, 7, 8, 9, 10, 11]) (J := (fun fr w => ∃ I11, fr = [(0, Sl a_p0 p0 c_p0), (1, .string p1), (5, Iv s4), (18, .bool j9)] ∧ I2.Le I11 ∧ St E w I11 Os)) ?_ ?_
 refine WO.cb hr2 (fun hc hr2 => ?_) (fun hc hr2 => ?_)
 refine yj 11 hc (WO.vs 5 [(12, Sl a_p0 p0 c_p0), (13, Iv s4)] ?_)
 obtain ⟨x13, hr2, h0_x13, h1_x13, hx_x13, ha_x13, _, _, rfl, hc_x13⟩ := sl_at ((RSl.mono h_p0 hl3)) hr2
 refine yq 9 1 ha_x13 h0_x13 h1_x13 ?_
 refine yae (v := (.string x13)) hc_x13 hS7.rm ?_
 refine WO.vs 9 [(16, .string p1), (17, .bool (sLt x13 p1)), (18, .bool (sLt x13 p1))] ?_
 obtain rfl := sj hr2
 exact yv ⟨I2, rfl, lr, hS7⟩
 refine yj 11 hc ?_
 iterate 6 refine yt ?_
 refine ya 11 18 (.bool false) ?_
 obtain rfl := sj hr2
 exact yv ⟨I2, rfl, lr, hS7⟩
 rintro _ w14 ⟨I11, rfl, hl12, hS15⟩
 refine yb (W.cb hr1 (fun hc hr1 => ?_) (fun hc hr1 => ?_))
 refine yg (En.next (W.block (yaa nL3 ?_)))
 exact WO.vs 0 [(19, Iv s4), (20, Iv (w64 (s4 + 1))), (5, Iv (w64 (s4 + 1)))] (WO.nil (yi (yo ⟨(w64 (s4 + 1)), (sj hr1).symm, I11, rfl, (hl3.trans hl12), hS15⟩)))
 refine yy (yk (yl ?_))
 obtain rfl := hext1 _ (sj hr1).symm
 refine yn (En.next (yd [0] ?_))
 refine ya 0 6 (.slice none 0 0) (yz nL6 ?_)
 refine WO.vs 0 [(21, .slice none 0 0), (22, Sl a_p0 p0 c_p0), (23, Iv s4)] ?_
 obtain ⟨x57, hx_x57, hr⟩ := bsm hr
 obtain ⟨h0_x57, h1_x57, h2_x57, he_x57⟩ := sub_some hx_x57
 have hl_x57 : (s4 : Int) ≤ (c_p0 : Int) := Int.le_trans h2_x57 (Int.ofNat_le.2 ((RSl.mono h_p0 (hl3.trans hl12))).le)
 refine WO.slice (e := 9) (sz := 1) rfl (by kernel_rfl) (by kernel_rfl) (by kernel_rfl) rfl (0 : Int) (s4 : Int) h0_x57 (.inl ⟨rfl, rfl⟩) (.inr ⟨_, _, rfl, rfl⟩) h1_x57 hl_x57 ?_
 obtain ⟨a_x57, c_x57, h_x57, ev_x57⟩ := sub_ok ((RSl.mono h_p0 (hl3.trans hl12))) h0_x57 h1_x57 h2_x57 he_x57
 refine y7 24 rfl ev_x57 ?_
 have hS59 := hS15.no
 obtain ⟨x60, hx_x60, hr⟩ := bsm hr
 obtain ⟨h0_x60, he_x60⟩ := app_some hx_x60
 refine WO.append (e' := 9) (b := 16) (zs := #[(.string (⟨#[]⟩ : ByteArray))]) hS59 (OwnSl.nil (T := 9) (rel := RStr) (I := I11)) rfl (by kernel_rfl) rfl (by kernel_rfl) (by kernel_rfl) (by kernel_rfl) rfl rfl rfl rfl h_x57 hS59.im h0_x60 he_x60 (fun _ _ _ => trivial) ?_
 intro a61 c62 w63 C64 hS65 ho66
 refine ya 5 6 (Sl a61 x60 c62) (yz nL5 ?_)
 refine WO.vs 0 [(26, Sl a61 x60 c62), (27, .string p1)] (y3 (rel := RStr) (xs := ([p1] : List ByteArray)) hS65 rfl (by kernel_rfl) rfl 9 1 [[(.string p1)]] (by kernel_rfl) rfl ((Elr.cons rfl Elr.nil)) (fun _ _ _ => trivial) ?_)
 intro a70 C68 w72 hS71 ho69
 have hS74 := hS71.front1
 obtain ⟨x75, hx_x75, hr⟩ := bsm hr
 obtain ⟨h0_x75, he_x75⟩ := app_some hx_x75
 refine WO.ap 9 16 [(.string (⟨#[]⟩ : ByteArray))] hS74 ho66 ho69.sl (hS74.rd m1) h0_x75 he_x75 ?_
 intro a76 c77 w78 C79 hS80 ho81
 have hS83 := hS80.front1.drop
 refine ya 4 6 (Sl a76 x75 c77) (yz nL6 ?_)
 refine WO.vs 0 [(30, Sl a76 x75 c77), (31, Sl a_p0 p0 c_p0), (32, Iv s4)] ?_
 obtain ⟨x84, hx_x84, hr⟩ := bsm hr
 obtain ⟨h0_x84, h1_x84, h2_x84, he_x84⟩ := sub_some hx_x84
 have hl_x84 : ((p0.length : Int) : Int) ≤ (c_p0 : Int) := Int.le_trans h2_x84 (Int.ofNat_le.2 ((RSl.mono h_p0 (hl3.trans hl12))).le)
 refine WO.slice (e := 9) (sz := 1) rfl (by kernel_rfl) (by kernel_rfl) (by kernel_rfl) rfl (s4 : Int) ((p0.length : Int) : Int) h0_x84 (.inr ⟨_, _, rfl, rfl⟩) (.inl ⟨rfl, rfl⟩) h1_x84 hl_x84 ?_
 obtain ⟨a_x84, c_x84, h_x84, ev_x84⟩ := sub_ok ((RSl.mono h_p0 (hl3.trans hl12))) h0_x84 h1_x84 h2_x84 he_x84
 refine y7 33 rfl ev_x84 ?_
 obtain ⟨x85, hx_x85, hr⟩ := bsm hr
 obtain ⟨h0_x85, he_x85⟩ := app_some hx_x85
 refine WO.ap 9 16 [(.string (⟨#[]⟩ : ByteArray))] hS83 ho81 h_x84 hS83.im h0_x85 he_x85 ?_
 intro a86 c87 w88 C89 hS90 ho91
 obtain ⟨I92, hl93, hS95, hp94⟩ := y4 ho91 hS90
 refine ya 5 4 (Sl a86 x85 c87) (yb (W.ret ?_))
 obtain rfl := sj hr
 exact yr ⟨I92, a86, c87, rfl, ((hl3.trans hl12).trans hl93), hS95, hp94⟩
noncomputable def r18_All (p0 : List qRole) (p1 : ByteArray) : Option (List ByteArray) := (r18_Reach p0 p1).bind (fun r6 => (forE (fun (i11 : Nat) => fun (s10 : List ByteArray) => (idx r6 (i11 : Int)).bind (fun x18 => ((bif x18 then (idx p0 (i11 : Int)).bind (fun x23 => (r18_into s10 x23.Name).bind (fun r29 => some r29)) else some s10)).bind (fun (j19 : List ByteArray) => some j19))) p0.length 0 ([] : List ByteArray)).bind (fun s10 => some s10))
theorem r18_All_ok {p0 : List qRole} {p1 : ByteArray} {a_p0 : Option Addr} {c_p0 : Nat} (h_p0 : RSl 2 R_qRole I a_p0 c_p0 p0) (hS : St E w I Os) {r : (List ByteArray)} (hr : r18_All p0 p1 = some r) :
    Calls P 48 #[(Sl a_p0 p0 c_p0), (.string p1)] w (fun e w' => ∃ (I' : Mem) (ra0 : Option Addr) (rc0 : Nat), e = .returned (Sl ra0 r rc0) ∧ I.Le I' ∧ St E w' I' Os ∧ RSl 1 RStr I' ra0 rc0 r) := by
 refine calls_W (fn := Tryz.f48) rfl rfl rfl ?_
 unfold r18_All at hr
 refine yd [0] ?_
 refine ya 0 4 (.slice none 0 0) (yz nL4 ?_)
 refine WO.vs 0 [(8, Sl a_p0 p0 c_p0), (9, .string p1)] ?_
 obtain ⟨r6, hx_r1, hr⟩ := bsm hr
 refine y8 (r18_Reach_ok h_p0 hS hx_r1) ?_
 rintro _ w2 ⟨I3, a_r6, c_r6, rfl, hl4, hS5, h_r6⟩
 refine ⟨_, rfl, trivial, ?_⟩
 refine ya 3 5 (Sl a_r6 r6 c_r6) (yz [0] ?_)
 refine ya 0 6 (.slice none 0 0) (yb (ye (yd [0] ?_)))
 refine ya 0 7 (Iv 0) (yb (W.block ?_))
 obtain ⟨s10, hloop12, hr⟩ := bsm hr
 have hlt16 := ((RSl.mono h_p0 hl4)).len_lt
 refine W.wk (W.forE (m := p0.length) hloop12 (fun (i11 : Nat) => fun (s10 : List ByteArray) fr w => ∃ I8 a_s10 c_s10, fr = [(0, Sl a_p0 p0 c_p0), (5, Sl a_r6 r6 c_r6), (6, Sl a_s10 s10 c_s10), (7, Nv i11)] ∧ I3.Le I8 ∧ St E w I8 Os ∧ RSl 1 RStr I8 a_s10 c_s10 s10) ⟨I3, none, 0, rfl, lr, hS5, SlAt.nil⟩ ?_ ?_)
 rintro i11 s10 _ w13 hi17 ⟨I8, a_s10, c_s10, rfl, hl9, hS14, h_s10⟩ x15 hr1
 refine ye (yd nL4 ?_)
 refine WO.vs 0 [(11, Nv i11), (12, Sl a_p0 p0 c_p0), (13, Nv p0.length), (14, .bool (decide ((i11 : Int) < (p0.length : Int))))] (yb (yag (fun hc => ?_)))
 clear hc
 refine yg (En.next (ye (W.block (yd nL4 ?_))))
 refine WO.vs 0 [(17, Sl a_r6 r6 c_r6), (18, Nv i11)] ?_
 obtain ⟨x18, hr1, h0_x18, h1_x18, hx_x18, ha_x18, _, _, rfl, hc_x18⟩ := sl_at ((RSl.mono h_r6 hl9)) hr1
 refine yq 4 1 ha_x18 h0_x18 h1_x18 ?_
 refine yae (v := (.bool x18)) hc_x18 hS14.rm ?_
 refine yb ?_
 obtain ⟨j19, hr2, hr1⟩ := bsm hr1
 refine W.jw (J := (fun fr w => ∃ I21 a_j19 c_j19, fr = [(0, Sl a_p0 p0 c_p0), (5, Sl a_r6 r6 c_r6), (6, Sl a_j19 j19 c_j19), (7, Nv i11)] ∧ I8.Le I21 ∧ St E w I21 Os ∧ RSl 1 RStr I21 a_j19 c_j19 j19)) ?_ ?_
 refine W.cb hr2 (fun hc hr2 => ?_) (fun hc hr2 => ?_)
 refine yaa nL8 ?_
 refine WO.vs 0 [(21, Sl a_s10 s10 c_s10), (22, Sl a_p0 p0 c_p0), (23, Nv i11)] ?_
 obtain ⟨x23, hr2, h0_x23, h1_x23, hx_x23, ha_x23, _, _, ⟨w_x23, rfl, h_x23⟩, hc_x23⟩ := sl_at ((RSl.mono h_p0 (hl4.trans hl9))) hr2
 refine yq 62 2 ha_x23 h0_x23 h1_x23 ?_
 refine ya 4 25 (.pointer (some ⟨bl a_p0, of a_p0 + ((i11 : Int)).toNat * 2, none⟩)) (yae (v := (.string x23.Name)) hc_x23 hS14.rm ?_)
 obtain ⟨r29, hx_r24, hr2⟩ := bsm hr2
 refine y8 (r18_into_ok h_s10 hS14 hx_r24) ?_
 rintro _ w25 ⟨I26, a_r29, c_r29, rfl, hl27, hS28, h_r29⟩
 refine ⟨_, rfl, trivial, ?_⟩
 refine ya 7 6 (Sl a_r29 r29 c_r29) (WO.nil ?_)
 obtain rfl := sj hr2
 exact yo ⟨I26, a_r29, c_r29, rfl, hl27, hS28, h_r29⟩
 refine yg ?_
 obtain rfl := sj hr2
 exact yo ⟨I8, a_s10, c_s10, rfl, lr, hS14, h_s10⟩
 rintro _ w30 ⟨I21, a_j19, c_j19, rfl, hl22, hS31, h_j19⟩
 refine yi (En.next (yaa nL3 ?_))
 refine ya 0 15 (Nv i11) (y0 (j := i11) rfl (by kernel_rfl) rfl (by first | omega | (dsimp only at *; omega) | (simp only [List.length_cons, List.length_nil] at *; omega)) ?_)
 refine ya 2 7 (Iv ((i11 + 1 : Nat) : Int)) (WO.nil ?_)
 obtain rfl := sj hr1
 exact yo ⟨I21, a_j19, c_j19, rfl, (hl9.trans hl22), hS31, h_j19⟩
 rintro _ w32 ⟨I8, a_s10, c_s10, rfl, hl9, hS33, h_s10⟩
 refine ye (yd nL4 ?_)
 refine WO.vs 0 [(11, Nv p0.length), (12, Sl a_p0 p0 c_p0), (13, Nv p0.length), (14, .bool (decide ((p0.length : Int) < (p0.length : Int))))] (yb (yah (fun hc => ?_)))
 clear hc
 refine yy (yk (yl (yn (En.next (yd nL2 ?_)))))
 refine WO.vs 0 [(28, Sl a_s10 s10 c_s10), (4, Sl a_s10 s10 c_s10)] (yb (W.ret ?_))
 obtain rfl := sj hr
 exact yr ⟨I8, a_s10, c_s10, rfl, (hl4.trans hl9), hS33, h_s10⟩
def r14_Has (p0 : List ByteArray) (p1 : ByteArray) : Option Bool := (forN (fun (i4 : Nat) => fun (_s : Unit) => (idx p0 (i4 : Int)).bind (fun x11 => (bif (sEq x11 p1) then some (.inr true) else some (.inl ())))) p0.length 0 ()).bind (fun (t : Unit ⊕ (Bool)) => match t with | .inl _ => some false | .inr s13 => some s13)
theorem r14_Has_ok {p0 : List ByteArray} {p1 : ByteArray} {a_p0 : Option Addr} {c_p0 : Nat} (h_p0 : RSl 1 RStr I a_p0 c_p0 p0) (hS : St E w I Os) {r : Bool} (hr : r14_Has p0 p1 = some r) :
    Calls P 47 #[(Sl a_p0 p0 c_p0), (.string p1)] w (fun e w' => ∃ I', e = .returned (.bool r) ∧ I.Le I' ∧ St E w' I' Os) := by
 refine calls_W (fn := Tryz.f47) rfl rfl rfl ?_
 unfold r14_Has at hr
 refine yd [0] ?_
 refine ya 0 4 (.bool false) (yb (ye (yd [0] ?_)))
 refine ya 0 5 (Iv 0) (yb (W.block ?_))
 obtain ⟨t1, hloop5, hr⟩ := bsm hr
 have hlt9 := (h_p0).len_lt
 refine W.wk (W.forN (m := p0.length) hloop5 (fun (i4 : Nat) => fun (_s : Unit) fr w => ∃ I2, fr = [(0, Sl a_p0 p0 c_p0), (1, .string p1), (5, Nv i4)] ∧ I.Le I2 ∧ St E w I2 Os) ⟨I, rfl, lr, hS⟩ ?_ ?_)
 rintro i4 _ _ w6 hi10 ⟨I2, rfl, hl3, hS7⟩ x8 hr1 hext1
 refine ye (yd nL4 ?_)
 refine WO.vs 0 [(6, Nv i4), (7, Sl a_p0 p0 c_p0), (8, Nv p0.length), (9, .bool (decide ((i4 : Int) < (p0.length : Int))))] (yb (yag (fun hc => ?_)))
 clear hc
 refine yg (En.next (ye (W.block (yd nL6 ?_))))
 refine WO.vs 0 [(12, Sl a_p0 p0 c_p0), (13, Nv i4)] ?_
 obtain ⟨x11, hr1, h0_x11, h1_x11, hx_x11, ha_x11, _, _, rfl, hc_x11⟩ := sl_at ((RSl.mono h_p0 hl3)) hr1
 refine yq 9 1 ha_x11 h0_x11 h1_x11 ?_
 refine yae (v := (.string x11)) hc_x11 hS7.rm ?_
 refine WO.vs 4 [(16, .string p1), (17, .bool (sEq x11 p1))] (yb (W.cb hr1 (fun hc hr1 => ?_) (fun hc hr1 => ?_)))
 refine yd [0] ?_
 refine ya 0 4 (.bool true) (yb (W.ret (yh (yc (ym ?_)))))
 obtain rfl := hext1 _ (sj hr1).symm
 refine yh (yc ?_)
 obtain rfl := sj hr
 exact yr ⟨I2, rfl, hl3, hS7⟩
 refine yg (yi (En.next (yaa nL3 ?_)))
 refine ya 0 10 (Nv i4) (y0 (j := i4) rfl (by kernel_rfl) rfl (by first | omega | (dsimp only at *; omega) | (simp only [List.length_cons, List.length_nil] at *; omega)) ?_)
 exact ya 2 5 (Iv ((i4 + 1 : Nat) : Int)) (WO.nil (yo ⟨(), (sj hr1).symm, I2, rfl, hl3, hS7⟩))
 rintro _ _ w14 ⟨I2, rfl, hl3, hS15⟩ he
 cases he
 refine ye (yd nL4 ?_)
 refine WO.vs 0 [(6, Nv p0.length), (7, Sl a_p0 p0 c_p0), (8, Nv p0.length), (9, .bool (decide ((p0.length : Int) < (p0.length : Int))))] (yb (yah (fun hc => ?_)))
 clear hc
 refine yy (yk (yl (yn (En.next (yd [0] ?_)))))
 refine ya 0 4 (.bool false) (yb (W.ret ?_))
 obtain rfl := sj hr
 exact yr ⟨I2, rfl, hl3, hS15⟩
noncomputable def r18_Is (p0 : List qRole) (p1 : ByteArray) (p2 : ByteArray) : Option Bool := (r18_All p0 p1).bind (fun r6 => (r14_Has r6 p2).bind (fun r12 => some r12))
theorem r18_Is_ok {p0 : List qRole} {p1 : ByteArray} {p2 : ByteArray} {a_p0 : Option Addr} {c_p0 : Nat} (h_p0 : RSl 2 R_qRole I a_p0 c_p0 p0) (hS : St E w I Os) {r : Bool} (hr : r18_Is p0 p1 p2 = some r) :
    Calls P 27 #[(Sl a_p0 p0 c_p0), (.string p1), (.string p2)] w (fun e w' => ∃ I', e = .returned (.bool r) ∧ I.Le I' ∧ St E w' I' Os) := by
 refine calls_W (fn := Tryz.f27) rfl rfl rfl ?_
 unfold r18_Is at hr
 refine yd [0] ?_
 refine ya 0 6 (.bool false) (yz nL6 ?_)
 refine WO.vs 0 [(7, Sl a_p0 p0 c_p0), (8, .string p1)] ?_
 obtain ⟨r6, hx_r1, hr⟩ := bsm hr
 refine y8 (r18_All_ok h_p0 hS hx_r1) ?_
 rintro _ w2 ⟨I3, a_r6, c_r6, rfl, hl4, hS5, h_r6⟩
 refine ⟨_, rfl, trivial, ?_⟩
 refine ya 3 10 (.string p2) ?_
 obtain ⟨r12, hx_r7, hr⟩ := bsm hr
 refine y6 (r14_Has_ok h_r6 hS5 hx_r7) ?_
 intro I9 w8 hl10 hS11
 refine ya 5 6 (.bool r12) (yb (W.ret ?_))
 obtain rfl := sj hr
 exact yr ⟨I9, rfl, (hl4.trans hl10), hS11⟩
noncomputable def r09_all (p0 : ByteArray) (p1 : Int) (p2 : ByteArray) : Option Bool := (loopO (fun (s4 : Int) => (bif (decide (s4 < (p0.size : Int))) then (loopO (fun (s : Bool × Int) => match s with | (s12, s13) => (bif (decide (s13 < (p2.size : Int))) then ((bif s12 then some true else (sAt p2 s13).bind (fun y24 => (sAt p0 s4).bind (fun y25 => some (y24 == y25))))).bind (fun (j20 : Bool) => some (.inl (j20, (w64 (s13 + 1))))) else some (.inr s12))) (false, 0)).bind (fun (s29 : Bool) => (bif (!s29) then some (.inr (.inl false)) else some (.inl (w64 (s4 + 1))))) else some (.inr (.inr ())))) p1).bind (fun (t : Bool ⊕ Unit) => match t with | (.inl s31) => some s31 | (.inr ()) => some true)
theorem r09_all_ok {p0 : ByteArray} {p1 : Int} {p2 : ByteArray} (hS : St E w I Os) {r : Bool} (hr : r09_all p0 p1 p2 = some r) :
    Calls P 165 #[(.string p0), (Iv p1), (.string p2)] w (fun e w' => ∃ I', e = .returned (.bool r) ∧ I.Le I' ∧ St E w' I' Os) := by
 refine calls_W (fn := Tryz.f165) rfl rfl rfl ?_
 unfold r09_all at hr
 refine yd [0] ?_
 refine ya 0 6 (.bool false) (yb (ye (yd nL2 ?_)))
 refine WO.vs 0 [(10, Iv p1), (7, Iv p1)] (yb (W.block ?_))
 obtain ⟨t1, hloop5, hr⟩ := bsm hr
 refine W.wk (yap hloop5 (fun (s4 : Int) fr w => ∃ I2, fr = [(0, .string p0), (2, .string p2), (7, Iv s4)] ∧ I.Le I2 ∧ St E w I2 Os) ⟨I, rfl, lr, hS⟩ ?_)
 rintro s4 _ w6 ⟨I2, rfl, hl3, hS7⟩ x8 hr1 hext1
 refine ye (yd nL4 ?_)
 refine WO.vs 0 [(11, Iv s4), (12, .string p0), (13, Iv (p0.size : Int)), (14, .bool (decide (s4 < (p0.size : Int))))] (yb (W.cb hr1 (fun hc hr1 => ?_) (fun hc hr1 => ?_)))
 refine yg (En.next (ye (W.block (yd [0] ?_))))
 refine ya 0 8 (.bool false) (yb (ye (yd [0] ?_)))
 refine ya 0 9 (Iv 0) (yb (W.block ?_))
 obtain ⟨t9, hloop14, hr1⟩ := bsm hr1
 refine W.wk (yap hloop14 (fun (s : Bool × Int) fr w => match s with | (s12, s13) => ∃ I10, fr = [(0, .string p0), (2, .string p2), (7, Iv s4), (8, .bool s12), (9, Iv s13)] ∧ I2.Le I10 ∧ St E w I10 Os) ⟨I2, rfl, lr, hS7⟩ ?_)
 rintro ⟨s12, s13⟩ _ w15 ⟨I10, rfl, hl11, hS16⟩ x17 hr2 hext9
 refine ye (yd nL4 ?_)
 refine WO.vs 0 [(17, Iv s13), (18, .string p2), (19, Iv (p2.size : Int)), (20, .bool (decide (s13 < (p2.size : Int))))] (yb (W.cb hr2 (fun hc hr2 => ?_) (fun hc hr2 => ?_)))
 refine yg (En.next (ye (W.block ?_)))
 have hS18 := hS16.drew
 refine yao nL11 10 (KR.nil hS18.im) ?_
 generalize World.drew _ = w19 at *
 refine WO.vs 0 [(23, .bool s12), (24, .bool s12)] ?_
 obtain ⟨j20, hr3, hr2⟩ := bsm hr2
 refine WO.jw (l1 := [2, 3, 4, 5, 6, 7, 8, 9]) (J := (fun fr w => ∃ I22, fr = [(0, .string p0), (2, .string p2), (7, Iv s4), (9, Iv s13), (32, .bool j20)] ∧ I10.Le I22 ∧ St E w I22 Os)) ?_ ?_
 refine WO.cb hr3 (fun hc hr3 => ?_) (fun hc hr3 => ?_)
 refine yj 24 hc ?_
 iterate 7 refine yt ?_
 refine ya 9 32 (.bool true) ?_
 obtain rfl := sj hr3
 exact yv ⟨I10, rfl, lr, hS18⟩
 refine yj 24 hc (WO.vs 2 [(25, .string p2), (26, Iv s13)] ?_)
 obtain ⟨y24, hx_y24, hr3⟩ := bsm hr3
 refine yam rfl (by kernel_rfl) (by kernel_rfl) rfl rfl hx_y24 ?_
 refine WO.vs 5 [(28, .string p0), (29, Iv s4)] ?_
 obtain ⟨y25, hx_y25, hr3⟩ := bsm hr3
 refine yam rfl (by kernel_rfl) (by kernel_rfl) rfl rfl hx_y25 ?_
 refine WO.vs 8 [(31, .bool (y24 == y25)), (32, .bool (y24 == y25))] ?_
 obtain rfl := sj hr3
 exact yv ⟨I10, rfl, lr, hS18⟩
 rintro _ w26 ⟨I22, rfl, hl23, hS27⟩
 refine WO.tail rfl ?_
 refine ya 10 8 (.bool j20) (WO.nil (yi (En.next (yaa nL3 ?_))))
 exact WO.vs 0 [(21, Iv s13), (22, Iv (w64 (s13 + 1))), (9, Iv (w64 (s13 + 1)))] (WO.nil (yo ⟨(j20, (w64 (s13 + 1))), (sj hr2).symm, I22, rfl, (hl11.trans hl23), hS27⟩))
 refine yy (yk (yl ?_))
 obtain rfl := hext9 _ (sj hr2).symm
 refine yn (En.next (yd nL2 ?_))
 refine WO.vs 0 [(33, .bool s12), (34, .bool (!s12))] (yb (W.cb hr1 (fun hc hr1 => ?_) (fun hc hr1 => ?_)))
 refine yd [0] ?_
 refine ya 0 6 (.bool false) (yb (W.ret (yh (yc (ym ?_)))))
 obtain rfl := hext1 _ (sj hr1).symm
 refine yh (yc ?_)
 obtain rfl := sj hr
 exact yr ⟨I10, rfl, (hl3.trans hl11), hS16⟩
 refine yg (yi (En.next (yaa nL3 ?_)))
 exact WO.vs 0 [(15, Iv s4), (16, Iv (w64 (s4 + 1))), (7, Iv (w64 (s4 + 1)))] (WO.nil (yo ⟨(w64 (s4 + 1)), (sj hr1).symm, I10, rfl, (hl3.trans hl11), hS16⟩))
 refine yy (yk (yl ?_))
 obtain rfl := hext1 _ (sj hr1).symm
 refine yn (En.next (yd [0] ?_))
 refine ya 0 6 (.bool true) (yb (W.ret ?_))
 obtain rfl := sj hr
 exact yr ⟨I2, rfl, hl3, hS7⟩
noncomputable def r03_Plain (p0 : ByteArray) : Option Bool := (loopO (fun (s4 : Int) => (bif (decide (s4 < (p0.size : Int))) then (sAt p0 s4).bind (fun y9 => ((bif (decide (y9 < 32)) then some true else (sAt p0 s4).bind (fun y14 => some (decide (y14 > 126))))).bind (fun (j10 : Bool) => (bif j10 then some (.inr (.inl false)) else some (.inl (w64 (s4 + 1)))))) else some (.inr (.inr ())))) 0).bind (fun (t : Bool ⊕ Unit) => match t with | (.inl s18) => some s18 | (.inr ()) => some true)
theorem r03_Plain_ok {p0 : ByteArray} (hS : St E w I Os) {r : Bool} (hr : r03_Plain p0 = some r) :
    Calls P 191 #[(.string p0)] w (fun e w' => ∃ I', e = .returned (.bool r) ∧ I.Le I' ∧ St E w' I' Os) := by
 refine calls_W (fn := Tryz.f191) rfl rfl rfl ?_
 unfold r03_Plain at hr
 refine yd [0] ?_
 refine ya 0 2 (.bool false) (yb (ye (yd [0] ?_)))
 refine ya 0 3 (Iv 0) (yb (W.block ?_))
 obtain ⟨t1, hloop5, hr⟩ := bsm hr
 refine W.wk (yap hloop5 (fun (s4 : Int) fr w => ∃ I2, fr = [(0, .string p0), (3, Iv s4)] ∧ I.Le I2 ∧ St E w I2 Os) ⟨I, rfl, lr, hS⟩ ?_)
 rintro s4 _ w6 ⟨I2, rfl, hl3, hS7⟩ x8 hr1 hext1
 refine ye (yd nL4 ?_)
 refine WO.vs 0 [(4, Iv s4), (5, .string p0), (6, Iv (p0.size : Int)), (7, .bool (decide (s4 < (p0.size : Int))))] (yb (W.cb hr1 (fun hc hr1 => ?_) (fun hc hr1 => ?_)))
 refine yg (En.next (ye (W.block (yd nL10 ?_))))
 refine WO.vs 0 [(10, .string p0), (11, Iv s4)] ?_
 obtain ⟨y9, hx_y9, hr1⟩ := bsm hr1
 refine yam rfl (by kernel_rfl) (by kernel_rfl) rfl rfl hx_y9 ?_
 refine WO.vs 3 [(13, .bool (decide (y9 < 32))), (14, .bool (decide (y9 < 32)))] ?_
 obtain ⟨j10, hr2, hr1⟩ := bsm hr1
 refine WO.jw (l1 := [5, 6, 7, 8, 9]) (J := (fun fr w => ∃ I12, fr = [(0, .string p0), (3, Iv s4), (19, .bool j10)] ∧ I2.Le I12 ∧ St E w I12 Os)) ?_ ?_
 refine WO.cb hr2 (fun hc hr2 => ?_) (fun hc hr2 => ?_)
 refine yj 14 hc ?_
 iterate 4 refine yt ?_
 refine ya 9 19 (.bool true) ?_
 obtain rfl := sj hr2
 exact yv ⟨I2, rfl, lr, hS7⟩
 refine yj 14 hc (WO.vs 5 [(15, .string p0), (16, Iv s4)] ?_)
 obtain ⟨y14, hx_y14, hr2⟩ := bsm hr2
 refine yam rfl (by kernel_rfl) (by kernel_rfl) rfl rfl hx_y14 ?_
 refine WO.vs 8 [(18, .bool (decide (y14 > 126))), (19, .bool (decide (y14 > 126)))] ?_
 obtain rfl := sj hr2
 exact yv ⟨I2, rfl, lr, hS7⟩
 rintro _ w15 ⟨I12, rfl, hl13, hS16⟩
 refine yb (W.cb hr1 (fun hc hr1 => ?_) (fun hc hr1 => ?_))
 refine yd [0] ?_
 refine ya 0 2 (.bool false) (yb (W.ret (yh (yc (ym ?_)))))
 obtain rfl := hext1 _ (sj hr1).symm
 refine yh (yc ?_)
 obtain rfl := sj hr
 exact yr ⟨I12, rfl, (hl3.trans hl13), hS16⟩
 refine yg (yi (En.next (yaa nL3 ?_)))
 exact WO.vs 0 [(8, Iv s4), (9, Iv (w64 (s4 + 1))), (3, Iv (w64 (s4 + 1)))] (WO.nil (yo ⟨(w64 (s4 + 1)), (sj hr1).symm, I12, rfl, (hl3.trans hl13), hS16⟩))
 refine yy (yk (yl ?_))
 obtain rfl := hext1 _ (sj hr1).symm
 refine yn (En.next (yd [0] ?_))
 refine ya 0 2 (.bool true) (yb (W.ret ?_))
 obtain rfl := sj hr
 exact yr ⟨I2, rfl, hl3, hS7⟩
noncomputable def r09_quoted (p0 : ByteArray) : Option Bool := ((bif (decide ((p0.size : Int) < 2)) then some true else (sAt p0 0).bind (fun y5 => some (y5 != 39)))).bind (fun (j1 : Bool) => ((bif j1 then some true else (sAt p0 (w64 ((p0.size : Int) - 1))).bind (fun y12 => some (y12 != 39)))).bind (fun (j8 : Bool) => ((bif j8 then some true else (r03_Plain p0).bind (fun r24 => some (!r24)))).bind (fun (j15 : Bool) => (bif j15 then some false else (loopO (fun (s : Int × Int) => match s with | (s30, s31) => (bif (decide (s31 < (w64 ((p0.size : Int) - 1)))) then ((sAt p0 s31).bind (fun y40 => (bif (y40 != 39) then (bif ((Int.tmod s30 2) == 1) then some (.inl false) else some (.inr s30)) else some (.inr (w64 (s30 + 1)))))).bind (fun (t : Bool ⊕ Int) => match t with | (.inl s42) => some (.inr (.inl s42)) | (.inr s45) => some (.inl (s45, (w64 (s31 + 1))))) else some (.inr (.inr s30)))) (0, 1)).bind (fun (t : Bool ⊕ Int) => match t with | (.inl s44) => some s44 | (.inr s49) => some ((Int.tmod s49 2) == 0))))))
theorem r09_quoted_ok {p0 : ByteArray} (hS : St E w I Os) {r : Bool} (hr : r09_quoted p0 = some r) :
    Calls P 166 #[(.string p0)] w (fun e w' => ∃ I', e = .returned (.bool r) ∧ I.Le I' ∧ St E w' I' Os) := by
 refine calls_W (fn := Tryz.f166) rfl rfl rfl ?_
 unfold r09_quoted at hr
 refine yd [0] ?_
 refine ya 0 2 (.bool false) (yb (ye (yd nL21 ?_)))
 refine WO.vs 0 [(5, .string p0), (6, Iv (p0.size : Int)), (7, .bool (decide ((p0.size : Int) < 2))), (8, .bool (decide ((p0.size : Int) < 2)))] ?_
 obtain ⟨j1, hr1, hr⟩ := bsm hr
 refine WO.jw (l1 := [4, 5, 6, 7]) (J := (fun fr w => ∃ I3, fr = [(0, .string p0), (12, .bool j1)] ∧ I.Le I3 ∧ St E w I3 Os)) ?_ ?_
 refine WO.cb hr1 (fun hc hr1 => ?_) (fun hc hr1 => ?_)
 refine yj 8 hc ?_
 iterate 3 refine yt ?_
 refine ya 7 12 (.bool true) ?_
 obtain rfl := sj hr1
 exact yv ⟨I, rfl, lr, hS⟩
 refine yj 8 hc (ya 4 9 (.string p0) ?_)
 obtain ⟨y5, hx_y5, hr1⟩ := bsm hr1
 refine yam rfl (by kernel_rfl) (by kernel_rfl) rfl rfl hx_y5 ?_
 refine WO.vs 6 [(11, .bool (y5 != 39)), (12, .bool (y5 != 39))] ?_
 obtain rfl := sj hr1
 exact yv ⟨I, rfl, lr, hS⟩
 rintro _ w6 ⟨I3, rfl, hl4, hS7⟩
 refine ya 8 13 (.bool j1) ?_
 obtain ⟨j8, hr1, hr⟩ := bsm hr
 refine WO.jw (l1 := [9, 10, 11, 12, 13, 14, 15]) (J := (fun fr w => ∃ I10, fr = [(0, .string p0), (20, .bool j8)] ∧ I3.Le I10 ∧ St E w I10 Os)) ?_ ?_
 refine WO.cb hr1 (fun hc hr1 => ?_) (fun hc hr1 => ?_)
 refine yj 13 hc ?_
 iterate 6 refine yt ?_
 refine ya 15 20 (.bool true) ?_
 obtain rfl := sj hr1
 exact yv ⟨I3, rfl, lr, hS7⟩
 refine yj 13 hc (WO.vs 9 [(14, .string p0), (15, .string p0), (16, Iv (p0.size : Int)), (17, Iv (w64 ((p0.size : Int) - 1)))] ?_)
 obtain ⟨y12, hx_y12, hr1⟩ := bsm hr1
 refine yam rfl (by kernel_rfl) (by kernel_rfl) rfl rfl hx_y12 ?_
 refine WO.vs 14 [(19, .bool (y12 != 39)), (20, .bool (y12 != 39))] ?_
 obtain rfl := sj hr1
 exact yv ⟨I3, rfl, lr, hS7⟩
 rintro _ w13 ⟨I10, rfl, hl11, hS14⟩
 refine ya 16 21 (.bool j8) ?_
 obtain ⟨j15, hr1, hr⟩ := bsm hr
 refine WO.jw (l1 := [17, 18, 19, 20]) (J := (fun fr w => ∃ I17, fr = [(0, .string p0), (25, .bool j15)] ∧ I10.Le I17 ∧ St E w I17 Os)) ?_ ?_
 refine WO.cb hr1 (fun hc hr1 => ?_) (fun hc hr1 => ?_)
 refine yj 21 hc ?_
 iterate 3 refine yt ?_
 refine ya 20 25 (.bool true) ?_
 obtain rfl := sj hr1
 exact yv ⟨I10, rfl, lr, hS14⟩
 refine yj 21 hc (ya 17 22 (.string p0) ?_)
 obtain ⟨r24, hx_r19, hr1⟩ := bsm hr1
 refine y6 (r03_Plain_ok  hS14 hx_r19) ?_
 intro I21 w20 hl22 hS23
 refine WO.vs 19 [(24, .bool (!r24)), (25, .bool (!r24))] ?_
 obtain rfl := sj hr1
 exact yv ⟨I21, rfl, hl22, hS23⟩
 rintro _ w25 ⟨I17, rfl, hl18, hS26⟩
 refine yb (W.cb hr (fun hc hr => ?_) (fun hc hr => ?_))
 refine yd [0] ?_
 refine ya 0 2 (.bool false) (yb (W.ret (yc ?_)))
 obtain rfl := sj hr
 exact yr ⟨I17, rfl, ((hl4.trans hl11).trans hl18), hS26⟩
 refine yg (En.next (yd [0] ?_))
 refine ya 0 3 (Iv 0) (yb (ye (yd [0] ?_)))
 refine ya 0 4 (Iv 1) (yb (W.block ?_))
 obtain ⟨t27, hloop32, hr⟩ := bsm hr
 refine W.wk (yap hloop32 (fun (s : Int × Int) fr w => match s with | (s30, s31) => ∃ I28, fr = [(0, .string p0), (3, Iv s30), (4, Iv s31)] ∧ I17.Le I28 ∧ St E w I28 Os) ⟨I17, rfl, lr, hS26⟩ ?_)
 rintro ⟨s30, s31⟩ _ w33 ⟨I28, rfl, hl29, hS34⟩ x35 hr1 hext27
 refine ye (yd nL5 ?_)
 refine WO.vs 0 [(26, Iv s31), (27, .string p0), (28, Iv (p0.size : Int)), (29, Iv (w64 ((p0.size : Int) - 1))), (30, .bool (decide (s31 < (w64 ((p0.size : Int) - 1)))))] (yb (W.cb hr1 (fun hc hr1 => ?_) (fun hc hr1 => ?_)))
 refine yg (En.next (ye ?_))
 obtain ⟨j36, hr2, hr1⟩ := bsm hr1
 refine W.jw (J := (fun fr w => ∃ (s45 : Int), ∃ I38, (.inr s45) = j36 ∧ fr = [(0, .string p0), (3, Iv s45), (4, Iv s31)] ∧ I28.Le I38 ∧ St E w I38 Os)) ?_ ?_
 refine W.block (ye (yd nL4 ?_))
 refine WO.vs 0 [(33, .string p0), (34, Iv s31)] ?_
 obtain ⟨y40, hx_y40, hr2⟩ := bsm hr2
 refine yam rfl (by kernel_rfl) (by kernel_rfl) rfl rfl hx_y40 ?_
 refine ya 3 36 (.bool (y40 != 39)) (yb (W.cb hr2 (fun hc hr2 => ?_) (fun hc hr2 => ?_)))
 refine ye (yd nL3 ?_)
 refine WO.vs 0 [(37, Iv s30), (38, Iv (Int.tmod s30 2)), (39, .bool ((Int.tmod s30 2) == 1))] (yb (W.cb hr2 (fun hc hr2 => ?_) (fun hc hr2 => ?_)))
 refine yd [0] ?_
 refine ya 0 2 (.bool false) (yb (W.ret (yc (yc (yh (ym ?_))))))
 obtain rfl := sj hr2
 refine yc (ym ?_)
 obtain rfl := hext27 _ (sj hr1).symm
 refine yh (yc ?_)
 obtain rfl := sj hr
 exact yr ⟨I28, rfl, (((hl4.trans hl11).trans hl18).trans hl29), hS34⟩
 exact yg (En.next (yy (yk (yn (yo ⟨s30, I28, sj hr2, rfl, lr, hS34⟩)))))
 refine yg (En.next (yaa nL3 ?_))
 exact WO.vs 0 [(40, Iv s30), (41, Iv (w64 (s30 + 1))), (3, Iv (w64 (s30 + 1)))] (WO.nil (yi (yo ⟨(w64 (s30 + 1)), I28, sj hr2, rfl, lr, hS34⟩)))
 rintro _ w46 ⟨s45, I38, rfl, rfl, hl39, hS47⟩
 refine En.next (yaa nL3 ?_)
 exact WO.vs 0 [(31, Iv s31), (32, Iv (w64 (s31 + 1))), (4, Iv (w64 (s31 + 1)))] (WO.nil (yo ⟨(s45, (w64 (s31 + 1))), (sj hr1).symm, I38, rfl, (hl29.trans hl39), hS47⟩))
 refine yy (yk (yl ?_))
 obtain rfl := hext27 _ (sj hr1).symm
 refine yn (En.next (yd nL4 ?_))
 refine WO.vs 0 [(42, Iv s30), (43, Iv (Int.tmod s30 2)), (44, .bool ((Int.tmod s30 2) == 0)), (2, .bool ((Int.tmod s30 2) == 0))] (yb (W.ret ?_))
 obtain rfl := sj hr
 exact yr ⟨I28, rfl, (((hl4.trans hl11).trans hl18).trans hl29), hS34⟩
def r09_sign (p0 : ByteArray) : Option Bool := ((bif (sEq p0 (⟨#[40]⟩ : ByteArray)) then some (sEq p0 (⟨#[40]⟩ : ByteArray)) else ((bif (sEq p0 (⟨#[41]⟩ : ByteArray)) then some (sEq p0 (⟨#[41]⟩ : ByteArray)) else ((bif (sEq p0 (⟨#[44]⟩ : ByteArray)) then some (sEq p0 (⟨#[44]⟩ : ByteArray)) else ((bif (sEq p0 (⟨#[61]⟩ : ByteArray)) then some (sEq p0 (⟨#[61]⟩ : ByteArray)) else ((bif (sEq p0 (⟨#[60, 62]⟩ : ByteArray)) then some (sEq p0 (⟨#[60, 62]⟩ : ByteArray)) else ((bif (sEq p0 (⟨#[60]⟩ : ByteArray)) then some (sEq p0 (⟨#[60]⟩ : ByteArray)) else ((bif (sEq p0 (⟨#[60, 61]⟩ : ByteArray)) then some (sEq p0 (⟨#[60, 61]⟩ : ByteArray)) else ((bif (sEq p0 (⟨#[62]⟩ : ByteArray)) then some (sEq p0 (⟨#[62]⟩ : ByteArray)) else ((bif (sEq p0 (⟨#[62, 61]⟩ : ByteArray)) then some (sEq p0 (⟨#[62, 61]⟩ : ByteArray)) else ((bif (sEq p0 (⟨#[43]⟩ : ByteArray)) then some (sEq p0 (⟨#[43]⟩ : ByteArray)) else ((bif (sEq p0 (⟨#[45]⟩ : ByteArray)) then some (sEq p0 (⟨#[45]⟩ : ByteArray)) else ((bif (sEq p0 (⟨#[42]⟩ : ByteArray)) then some (sEq p0 (⟨#[42]⟩ : ByteArray)) else ((bif (sEq p0 (⟨#[47]⟩ : ByteArray)) then some (sEq p0 (⟨#[47]⟩ : ByteArray)) else ((bif (sEq p0 (⟨#[37]⟩ : ByteArray)) then some (sEq p0 (⟨#[37]⟩ : ByteArray)) else some (sEq p0 (⟨#[124, 124]⟩ : ByteArray)))).bind (fun (j53 : Bool) => some j53))).bind (fun (j49 : Bool) => some j49))).bind (fun (j45 : Bool) => some j45))).bind (fun (j41 : Bool) => some j41))).bind (fun (j37 : Bool) => some j37))).bind (fun (j33 : Bool) => some j33))).bind (fun (j29 : Bool) => some j29))).bind (fun (j25 : Bool) => some j25))).bind (fun (j21 : Bool) => some j21))).bind (fun (j17 : Bool) => some j17))).bind (fun (j13 : Bool) => some j13))).bind (fun (j9 : Bool) => some j9))).bind (fun (j5 : Bool) => some j5))).bind (fun (j1 : Bool) => (bif j1 then some true else some false))
theorem r09_sign_ok {p0 : ByteArray} (hS : St E w I Os) {r : Bool} (hr : r09_sign p0 = some r) :
    Calls P 167 #[(.string p0)] w (fun e w' => ∃ I', e = .returned (.bool r) ∧ I.Le I' ∧ St E w' I' Os) := by
 refine calls_W (fn := Tryz.f167) rfl rfl rfl ?_
 unfold r09_sign at hr
 refine yd [0] ?_
 refine ya 0 2 (.bool false) (yb (ye (yd [0] ?_)))
 refine ya 0 3 (.string p0) (yb (W.block (ye (yd nL2 ?_))))
 refine WO.vs 0 [(5, .bool (sEq p0 (⟨#[40]⟩ : ByteArray))), (4, .bool (sEq p0 (⟨#[40]⟩ : ByteArray)))] (yb ?_)
 obtain ⟨j1, hr1, hr⟩ := bsm hr
 refine W.jw (J := (fun fr w => ∃ I3, fr = [(4, .bool j1)] ∧ I.Le I3 ∧ St E w I3 Os)) ?_ ?_
 refine W.cb hr1 (fun hc hr1 => ?_) (fun hc hr1 => ?_)
 refine yg ?_
 obtain rfl := sj hr1
 exact yo ⟨I, rfl, lr, hS⟩
 refine yd nL2 ?_
 refine WO.vs 0 [(6, .bool (sEq p0 (⟨#[41]⟩ : ByteArray))), (4, .bool (sEq p0 (⟨#[41]⟩ : ByteArray)))] (yb ?_)
 obtain ⟨j5, hr2, hr1⟩ := bsm hr1
 refine W.jw (J := (fun fr w => ∃ I7, fr = [(4, .bool j5)] ∧ I.Le I7 ∧ St E w I7 Os)) ?_ ?_
 refine W.cb hr2 (fun hc hr2 => ?_) (fun hc hr2 => ?_)
 refine yg ?_
 obtain rfl := sj hr2
 exact yo ⟨I, rfl, lr, hS⟩
 refine yd nL2 ?_
 refine WO.vs 0 [(7, .bool (sEq p0 (⟨#[44]⟩ : ByteArray))), (4, .bool (sEq p0 (⟨#[44]⟩ : ByteArray)))] (yb ?_)
 obtain ⟨j9, hr3, hr2⟩ := bsm hr2
 refine W.jw (J := (fun fr w => ∃ I11, fr = [(4, .bool j9)] ∧ I.Le I11 ∧ St E w I11 Os)) ?_ ?_
 refine W.cb hr3 (fun hc hr3 => ?_) (fun hc hr3 => ?_)
 refine yg ?_
 obtain rfl := sj hr3
 exact yo ⟨I, rfl, lr, hS⟩
 refine yd nL2 ?_
 refine WO.vs 0 [(8, .bool (sEq p0 (⟨#[61]⟩ : ByteArray))), (4, .bool (sEq p0 (⟨#[61]⟩ : ByteArray)))] (yb ?_)
 obtain ⟨j13, hr4, hr3⟩ := bsm hr3
 refine W.jw (J := (fun fr w => ∃ I15, fr = [(4, .bool j13)] ∧ I.Le I15 ∧ St E w I15 Os)) ?_ ?_
 refine W.cb hr4 (fun hc hr4 => ?_) (fun hc hr4 => ?_)
 refine yg ?_
 obtain rfl := sj hr4
 exact yo ⟨I, rfl, lr, hS⟩
 refine yd nL2 ?_
 refine WO.vs 0 [(9, .bool (sEq p0 (⟨#[60, 62]⟩ : ByteArray))), (4, .bool (sEq p0 (⟨#[60, 62]⟩ : ByteArray)))] (yb ?_)
 obtain ⟨j17, hr5, hr4⟩ := bsm hr4
 refine W.jw (J := (fun fr w => ∃ I19, fr = [(4, .bool j17)] ∧ I.Le I19 ∧ St E w I19 Os)) ?_ ?_
 refine W.cb hr5 (fun hc hr5 => ?_) (fun hc hr5 => ?_)
 refine yg ?_
 obtain rfl := sj hr5
 exact yo ⟨I, rfl, lr, hS⟩
 refine yd nL2 ?_
 refine WO.vs 0 [(10, .bool (sEq p0 (⟨#[60]⟩ : ByteArray))), (4, .bool (sEq p0 (⟨#[60]⟩ : ByteArray)))] (yb ?_)
 obtain ⟨j21, hr6, hr5⟩ := bsm hr5
 refine W.jw (J := (fun fr w => ∃ I23, fr = [(4, .bool j21)] ∧ I.Le I23 ∧ St E w I23 Os)) ?_ ?_
 refine W.cb hr6 (fun hc hr6 => ?_) (fun hc hr6 => ?_)
 refine yg ?_
 obtain rfl := sj hr6
 exact yo ⟨I, rfl, lr, hS⟩
 refine yd nL2 ?_
 refine WO.vs 0 [(11, .bool (sEq p0 (⟨#[60, 61]⟩ : ByteArray))), (4, .bool (sEq p0 (⟨#[60, 61]⟩ : ByteArray)))] (yb ?_)
 obtain ⟨j25, hr7, hr6⟩ := bsm hr6
 refine W.jw (J := (fun fr w => ∃ I27, fr = [(4, .bool j25)] ∧ I.Le I27 ∧ St E w I27 Os)) ?_ ?_
 refine W.cb hr7 (fun hc hr7 => ?_) (fun hc hr7 => ?_)
 refine yg ?_
 obtain rfl := sj hr7
 exact yo ⟨I, rfl, lr, hS⟩
 refine yd nL2 ?_
 refine WO.vs 0 [(12, .bool (sEq p0 (⟨#[62]⟩ : ByteArray))), (4, .bool (sEq p0 (⟨#[62]⟩ : ByteArray)))] (yb ?_)
 obtain ⟨j29, hr8, hr7⟩ := bsm hr7
 refine W.jw (J := (fun fr w => ∃ I31, fr = [(4, .bool j29)] ∧ I.Le I31 ∧ St E w I31 Os)) ?_ ?_
 refine W.cb hr8 (fun hc hr8 => ?_) (fun hc hr8 => ?_)
 refine yg ?_
 obtain rfl := sj hr8
 exact yo ⟨I, rfl, lr, hS⟩
 refine yd nL2 ?_
 refine WO.vs 0 [(13, .bool (sEq p0 (⟨#[62, 61]⟩ : ByteArray))), (4, .bool (sEq p0 (⟨#[62, 61]⟩ : ByteArray)))] (yb ?_)
 obtain ⟨j33, hr9, hr8⟩ := bsm hr8
 refine W.jw (J := (fun fr w => ∃ I35, fr = [(4, .bool j33)] ∧ I.Le I35 ∧ St E w I35 Os)) ?_ ?_
 refine W.cb hr9 (fun hc hr9 => ?_) (fun hc hr9 => ?_)
 refine yg ?_
 obtain rfl := sj hr9
 exact yo ⟨I, rfl, lr, hS⟩
 refine yd nL2 ?_
 refine WO.vs 0 [(14, .bool (sEq p0 (⟨#[43]⟩ : ByteArray))), (4, .bool (sEq p0 (⟨#[43]⟩ : ByteArray)))] (yb ?_)
 obtain ⟨j37, hr10, hr9⟩ := bsm hr9
 refine W.jw (J := (fun fr w => ∃ I39, fr = [(4, .bool j37)] ∧ I.Le I39 ∧ St E w I39 Os)) ?_ ?_
 refine W.cb hr10 (fun hc hr10 => ?_) (fun hc hr10 => ?_)
 refine yg ?_
 obtain rfl := sj hr10
 exact yo ⟨I, rfl, lr, hS⟩
 refine yd nL2 ?_
 refine WO.vs 0 [(15, .bool (sEq p0 (⟨#[45]⟩ : ByteArray))), (4, .bool (sEq p0 (⟨#[45]⟩ : ByteArray)))] (yb ?_)
 obtain ⟨j41, hr11, hr10⟩ := bsm hr10
 refine W.jw (J := (fun fr w => ∃ I43, fr = [(4, .bool j41)] ∧ I.Le I43 ∧ St E w I43 Os)) ?_ ?_
 refine W.cb hr11 (fun hc hr11 => ?_) (fun hc hr11 => ?_)
 refine yg ?_
 obtain rfl := sj hr11
 exact yo ⟨I, rfl, lr, hS⟩
 refine yd nL2 ?_
 refine WO.vs 0 [(16, .bool (sEq p0 (⟨#[42]⟩ : ByteArray))), (4, .bool (sEq p0 (⟨#[42]⟩ : ByteArray)))] (yb ?_)
 obtain ⟨j45, hr12, hr11⟩ := bsm hr11
 refine W.jw (J := (fun fr w => ∃ I47, fr = [(4, .bool j45)] ∧ I.Le I47 ∧ St E w I47 Os)) ?_ ?_
 refine W.cb hr12 (fun hc hr12 => ?_) (fun hc hr12 => ?_)
 refine yg ?_
 obtain rfl := sj hr12
 exact yo ⟨I, rfl, lr, hS⟩
 refine yd nL2 ?_
 refine WO.vs 0 [(17, .bool (sEq p0 (⟨#[47]⟩ : ByteArray))), (4, .bool (sEq p0 (⟨#[47]⟩ : ByteArray)))] (yb ?_)
 obtain ⟨j49, hr13, hr12⟩ := bsm hr12
 refine W.jw (J := (fun fr w => ∃ I51, fr = [(4, .bool j49)] ∧ I.Le I51 ∧ St E w I51 Os)) ?_ ?_
 refine W.cb hr13 (fun hc hr13 => ?_) (fun hc hr13 => ?_)
 refine yg ?_
 obtain rfl := sj hr13
 exact yo ⟨I, rfl, lr, hS⟩
 refine yd nL2 ?_
 refine WO.vs 0 [(18, .bool (sEq p0 (⟨#[37]⟩ : ByteArray))), (4, .bool (sEq p0 (⟨#[37]⟩ : ByteArray)))] (yb ?_)
 obtain ⟨j53, hr14, hr13⟩ := bsm hr13
 refine W.jw (J := (fun fr w => ∃ I55, fr = [(4, .bool j53)] ∧ I.Le I55 ∧ St E w I55 Os)) ?_ ?_
 refine W.cb hr14 (fun hc hr14 => ?_) (fun hc hr14 => ?_)
 refine yg ?_
 obtain rfl := sj hr14
 exact yo ⟨I, rfl, lr, hS⟩
 refine yaa nL2 ?_
 refine WO.vs 0 [(19, .bool (sEq p0 (⟨#[124, 124]⟩ : ByteArray))), (4, .bool (sEq p0 (⟨#[124, 124]⟩ : ByteArray)))] (WO.nil ?_)
 obtain rfl := sj hr14
 exact yo ⟨I, rfl, lr, hS⟩
 rintro _ w57 ⟨I55, rfl, hl56, hS58⟩
 obtain rfl := sj hr13
 exact yo ⟨I55, rfl, hl56, hS58⟩
 rintro _ w59 ⟨I51, rfl, hl52, hS60⟩
 obtain rfl := sj hr12
 exact yo ⟨I51, rfl, hl52, hS60⟩
 rintro _ w61 ⟨I47, rfl, hl48, hS62⟩
 obtain rfl := sj hr11
 exact yo ⟨I47, rfl, hl48, hS62⟩
 rintro _ w63 ⟨I43, rfl, hl44, hS64⟩
 obtain rfl := sj hr10
 exact yo ⟨I43, rfl, hl44, hS64⟩
 rintro _ w65 ⟨I39, rfl, hl40, hS66⟩
 obtain rfl := sj hr9
 exact yo ⟨I39, rfl, hl40, hS66⟩
 rintro _ w67 ⟨I35, rfl, hl36, hS68⟩
 obtain rfl := sj hr8
 exact yo ⟨I35, rfl, hl36, hS68⟩
 rintro _ w69 ⟨I31, rfl, hl32, hS70⟩
 obtain rfl := sj hr7
 exact yo ⟨I31, rfl, hl32, hS70⟩
 rintro _ w71 ⟨I27, rfl, hl28, hS72⟩
 obtain rfl := sj hr6
 exact yo ⟨I27, rfl, hl28, hS72⟩
 rintro _ w73 ⟨I23, rfl, hl24, hS74⟩
 obtain rfl := sj hr5
 exact yo ⟨I23, rfl, hl24, hS74⟩
 rintro _ w75 ⟨I19, rfl, hl20, hS76⟩
 obtain rfl := sj hr4
 exact yo ⟨I19, rfl, hl20, hS76⟩
 rintro _ w77 ⟨I15, rfl, hl16, hS78⟩
 obtain rfl := sj hr3
 exact yo ⟨I15, rfl, hl16, hS78⟩
 rintro _ w79 ⟨I11, rfl, hl12, hS80⟩
 obtain rfl := sj hr2
 exact yo ⟨I11, rfl, hl12, hS80⟩
 rintro _ w81 ⟨I7, rfl, hl8, hS82⟩
 obtain rfl := sj hr1
 exact yo ⟨I7, rfl, hl8, hS82⟩
 rintro _ w83 ⟨I3, rfl, hl4, hS84⟩
 refine En.next (W.cb hr (fun hc hr => ?_) (fun hc hr => ?_))
 refine yd [0] ?_
 refine ya 0 2 (.bool true) (yb (W.ret (yh (yc ?_))))
 obtain rfl := sj hr
 exact yr ⟨I3, rfl, hl4, hS84⟩
 refine yg (yi (En.next (yd [0] ?_)))
 refine ya 0 2 (.bool false) (yb (W.ret ?_))
 obtain rfl := sj hr
 exact yr ⟨I3, rfl, hl4, hS84⟩
noncomputable def r09_Kind (p0 : ByteArray) : Option Int := (bif (sEq p0 (⟨#[]⟩ : ByteArray)) then some 7 else ((bif (decide ((p0.size : Int) ≤ 12)) then (ssub p0 0 1).bind (fun x5 => (r09_all x5 0 (⟨#[97, 98, 99, 100, 101, 102, 103, 104, 105, 106, 107, 108, 109, 110, 111, 112, 113, 114, 115, 116, 117, 118, 119, 120, 121, 122]⟩ : ByteArray)).bind (fun r11 => some r11)) else some false)).bind (fun (j1 : Bool) => ((bif j1 then (r09_all p0 1 (⟨#[97, 98, 99, 100, 101, 102, 103, 104, 105, 106, 107, 108, 109, 110, 111, 112, 113, 114, 115, 116, 117, 118, 119, 120, 121, 122, 48, 49, 50, 51, 52, 53, 54, 55, 56, 57, 95]⟩ : ByteArray)).bind (fun r23 => some r23) else some false)).bind (fun (j14 : Bool) => (bif j14 then some 1 else ((bif (decide ((p0.size : Int) ≤ 16)) then (ssub p0 0 1).bind (fun x30 => (r09_all x30 0 (⟨#[65, 66, 67, 68, 69, 70, 71, 72, 73, 74, 75, 76, 77, 78, 79, 80, 81, 82, 83, 84, 85, 86, 87, 88, 89, 90]⟩ : ByteArray)).bind (fun r36 => some r36)) else some false)).bind (fun (j26 : Bool) => ((bif j26 then (r09_all p0 1 (⟨#[65, 66, 67, 68, 69, 70, 71, 72, 73, 74, 75, 76, 77, 78, 79, 80, 81, 82, 83, 84, 85, 86, 87, 88, 89, 90, 95]⟩ : ByteArray)).bind (fun r48 => some r48) else some false)).bind (fun (j39 : Bool) => (bif j39 then some 2 else ((bif (decide ((p0.size : Int) ≤ 19)) then (r09_all p0 0 (⟨#[48, 49, 50, 51, 52, 53, 54, 55, 56, 57]⟩ : ByteArray)).bind (fun r60 => some r60) else some false)).bind (fun (j51 : Bool) => ((bif j51 then ((bif (sEq p0 (⟨#[48]⟩ : ByteArray)) then some true else (sAt p0 0).bind (fun y71 => some (y71 != 48)))).bind (fun (j67 : Bool) => some j67) else some false)).bind (fun (j63 : Bool) => (bif j63 then some 3 else (r09_quoted p0).bind (fun r81 => (bif r81 then some 4 else ((bif ((p0.size : Int) == 2) then (sAt p0 0).bind (fun y86 => some (y86 == 36)) else some false)).bind (fun (j82 : Bool) => ((bif j82 then (sAt p0 1).bind (fun y93 => some (decide (y93 ≥ 49))) else some false)).bind (fun (j89 : Bool) => ((bif j89 then (sAt p0 1).bind (fun y100 => some (decide (y100 ≤ 54))) else some false)).bind (fun (j96 : Bool) => (bif j96 then some 5 else (r09_sign p0).bind (fun r108 => (bif r108 then some 6 else some 0))))))))))))))))))
theorem r09_Kind_ok {p0 : ByteArray} (hS : St E w I Os) {r : Int} (hr : r09_Kind p0 = some r) :
    Calls P 150 #[(.string p0)] w (fun e w' => ∃ I', e = .returned (Iv r) ∧ I.Le I' ∧ St E w' I' Os) := by
 refine calls_W (fn := Tryz.f150) rfl rfl rfl ?_
 unfold r09_Kind at hr
 refine yd [0] ?_
 refine ya 0 2 (Iv 0) (yb (ye (W.block (yd nL3 ?_))))
 refine WO.vs 0 [(4, .string p0), (5, .bool (sEq p0 (⟨#[]⟩ : ByteArray))), (3, .bool (sEq p0 (⟨#[]⟩ : ByteArray)))] (yb (W.cb hr (fun hc hr => ?_) (fun hc hr => ?_)))
 refine yd [0] ?_
 refine ya 0 2 (Iv 7) (yb (W.ret (yh (yc ?_))))
 obtain rfl := sj hr
 exact yr ⟨I, rfl, lr, hS⟩
 refine yd nL13 ?_
 refine WO.vs 0 [(7, .string p0), (8, Iv (p0.size : Int)), (9, .bool (decide ((p0.size : Int) ≤ 12))), (10, .bool (decide ((p0.size : Int) ≤ 12)))] ?_
 obtain ⟨j1, hr1, hr⟩ := bsm hr
 refine WO.jw (l1 := [4, 5, 6, 7]) (J := (fun fr w => ∃ I3, fr = [(0, .string p0), (14, .bool j1)] ∧ I.Le I3 ∧ St E w I3 Os)) ?_ ?_
 refine WO.cb hr1 (fun hc hr1 => ?_) (fun hc hr1 => ?_)
 refine yj 10 hc (ya 4 11 (.string p0) ?_)
 obtain ⟨x5, hx_x5, hr1⟩ := bsm hr1
 refine WO.sliceS rfl (by kernel_rfl) (by kernel_rfl) rfl (0 : Int) (1 : Int) (.inl ⟨rfl, rfl⟩) (.inr ⟨_, _, rfl, rfl⟩) hx_x5 ?_
 obtain ⟨r11, hx_r6, hr1⟩ := bsm hr1
 refine y6 (r09_all_ok  hS hx_r6) ?_
 intro I8 w7 hl9 hS10
 refine ya 7 14 (.bool r11) ?_
 obtain rfl := sj hr1
 exact yv ⟨I8, rfl, hl9, hS10⟩
 refine yj 10 hc ?_
 iterate 3 refine yt ?_
 refine ya 7 14 (.bool false) ?_
 obtain rfl := sj hr1
 exact yv ⟨I, rfl, lr, hS⟩
 rintro _ w12 ⟨I3, rfl, hl4, hS13⟩
 refine ya 8 15 (.bool j1) ?_
 obtain ⟨j14, hr1, hr⟩ := bsm hr
 refine WO.jw (l1 := [9, 10, 11]) (J := (fun fr w => ∃ I16, fr = [(0, .string p0), (18, .bool j14)] ∧ I3.Le I16 ∧ St E w I16 Os)) ?_ ?_
 refine WO.cb hr1 (fun hc hr1 => ?_) (fun hc hr1 => ?_)
 refine yj 15 hc (ya 9 16 (.string p0) ?_)
 obtain ⟨r23, hx_r18, hr1⟩ := bsm hr1
 refine y6 (r09_all_ok  hS13 hx_r18) ?_
 intro I20 w19 hl21 hS22
 refine ya 11 18 (.bool r23) ?_
 obtain rfl := sj hr1
 exact yv ⟨I20, rfl, hl21, hS22⟩
 refine yj 15 hc ?_
 iterate 2 refine yt ?_
 refine ya 11 18 (.bool false) ?_
 obtain rfl := sj hr1
 exact yv ⟨I3, rfl, lr, hS13⟩
 rintro _ w24 ⟨I16, rfl, hl17, hS25⟩
 refine ya 12 6 (.bool j14) (yb (W.cb hr (fun hc hr => ?_) (fun hc hr => ?_)))
 refine yd [0] ?_
 refine ya 0 2 (Iv 1) (yb (W.ret (yh (yc ?_))))
 obtain rfl := sj hr
 exact yr ⟨I16, rfl, (hl4.trans hl17), hS25⟩
 refine yd nL13 ?_
 refine WO.vs 0 [(20, .string p0), (21, Iv (p0.size : Int)), (22, .bool (decide ((p0.size : Int) ≤ 16))), (23, .bool (decide ((p0.size : Int) ≤ 16)))] ?_
 obtain ⟨j26, hr1, hr⟩ := bsm hr
 refine WO.jw (l1 := [4, 5, 6, 7]) (J := (fun fr w => ∃ I28, fr = [(0, .string p0), (27, .bool j26)] ∧ I16.Le I28 ∧ St E w I28 Os)) ?_ ?_
 refine WO.cb hr1 (fun hc hr1 => ?_) (fun hc hr1 => ?_)
 refine yj 23 hc (ya 4 24 (.string p0) ?_)
 obtain ⟨x30, hx_x30, hr1⟩ := bsm hr1
 refine WO.sliceS rfl (by kernel_rfl) (by kernel_rfl) rfl (0 : Int) (1 : Int) (.inl ⟨rfl, rfl⟩) (.inr ⟨_, _, rfl, rfl⟩) hx_x30 ?_
 obtain ⟨r36, hx_r31, hr1⟩ := bsm hr1
 refine y6 (r09_all_ok  hS25 hx_r31) ?_
 intro I33 w32 hl34 hS35
 refine ya 7 27 (.bool r36) ?_
 obtain rfl := sj hr1
 exact yv ⟨I33, rfl, hl34, hS35⟩
 refine yj 23 hc ?_
 iterate 3 refine yt ?_
 refine ya 7 27 (.bool false) ?_
 obtain rfl := sj hr1
 exact yv ⟨I16, rfl, lr, hS25⟩
 rintro _ w37 ⟨I28, rfl, hl29, hS38⟩
 refine ya 8 28 (.bool j26) ?_
 obtain ⟨j39, hr1, hr⟩ := bsm hr
 refine WO.jw (l1 := [9, 10, 11]) (J := (fun fr w => ∃ I41, fr = [(0, .string p0), (31, .bool j39)] ∧ I28.Le I41 ∧ St E w I41 Os)) ?_ ?_
 refine WO.cb hr1 (fun hc hr1 => ?_) (fun hc hr1 => ?_)
 refine yj 28 hc (ya 9 29 (.string p0) ?_)
 obtain ⟨r48, hx_r43, hr1⟩ := bsm hr1
 refine y6 (r09_all_ok  hS38 hx_r43) ?_
 intro I45 w44 hl46 hS47
 refine ya 11 31 (.bool r48) ?_
 obtain rfl := sj hr1
 exact yv ⟨I45, rfl, hl46, hS47⟩
 refine yj 28 hc ?_
 iterate 2 refine yt ?_
 refine ya 11 31 (.bool false) ?_
 obtain rfl := sj hr1
 exact yv ⟨I28, rfl, lr, hS38⟩
 rintro _ w49 ⟨I41, rfl, hl42, hS50⟩
 refine ya 12 19 (.bool j39) (yb (W.cb hr (fun hc hr => ?_) (fun hc hr => ?_)))
 refine yd [0] ?_
 refine ya 0 2 (Iv 2) (yb (W.ret (yh (yc ?_))))
 obtain rfl := sj hr
 exact yr ⟨I41, rfl, (((hl4.trans hl17).trans hl29).trans hl42), hS50⟩
 refine yd nL17 ?_
 refine WO.vs 0 [(33, .string p0), (34, Iv (p0.size : Int)), (35, .bool (decide ((p0.size : Int) ≤ 19))), (36, .bool (decide ((p0.size : Int) ≤ 19)))] ?_
 obtain ⟨j51, hr1, hr⟩ := bsm hr
 refine WO.jw (l1 := [4, 5, 6]) (J := (fun fr w => ∃ I53, fr = [(0, .string p0), (39, .bool j51)] ∧ I41.Le I53 ∧ St E w I53 Os)) ?_ ?_
 refine WO.cb hr1 (fun hc hr1 => ?_) (fun hc hr1 => ?_)
 refine yj 36 hc (ya 4 37 (.string p0) ?_)
 obtain ⟨r60, hx_r55, hr1⟩ := bsm hr1
 refine y6 (r09_all_ok  hS50 hx_r55) ?_
 intro I57 w56 hl58 hS59
 refine ya 6 39 (.bool r60) ?_
 obtain rfl := sj hr1
 exact yv ⟨I57, rfl, hl58, hS59⟩
 refine yj 36 hc ?_
 iterate 2 refine yt ?_
 refine ya 6 39 (.bool false) ?_
 obtain rfl := sj hr1
 exact yv ⟨I41, rfl, lr, hS50⟩
 rintro _ w61 ⟨I53, rfl, hl54, hS62⟩
 refine ya 7 40 (.bool j51) ?_
 obtain ⟨j63, hr1, hr⟩ := bsm hr
 refine WO.jw (l1 := [8, 9, 10, 11, 12, 13, 14, 15]) (J := (fun fr w => ∃ I65, fr = [(0, .string p0), (48, .bool j63)] ∧ I53.Le I65 ∧ St E w I65 Os)) ?_ ?_
 refine WO.cb hr1 (fun hc hr1 => ?_) (fun hc hr1 => ?_)
 refine yj 40 hc (WO.vs 8 [(41, .string p0), (42, .bool (sEq p0 (⟨#[48]⟩ : ByteArray))), (43, .bool (sEq p0 (⟨#[48]⟩ : ByteArray)))] ?_)
 obtain ⟨j67, hr2, hr1⟩ := bsm hr1
 refine WO.jw (l1 := [11, 12, 13, 14]) (J := (fun fr w => ∃ I69, fr = [(0, .string p0), (40, .bool true), (47, .bool j67)] ∧ I53.Le I69 ∧ St E w I69 Os)) ?_ ?_
 refine WO.cb hr2 (fun hc hr2 => ?_) (fun hc hr2 => ?_)
 refine yj 43 hc ?_
 iterate 3 refine yt ?_
 refine ya 14 47 (.bool true) ?_
 obtain rfl := sj hr2
 exact yv ⟨I53, rfl, lr, hS62⟩
 refine yj 43 hc (ya 11 44 (.string p0) ?_)
 obtain ⟨y71, hx_y71, hr2⟩ := bsm hr2
 refine yam rfl (by kernel_rfl) (by kernel_rfl) rfl rfl hx_y71 ?_
 refine WO.vs 13 [(46, .bool (y71 != 48)), (47, .bool (y71 != 48))] ?_
 obtain rfl := sj hr2
 exact yv ⟨I53, rfl, lr, hS62⟩
 rintro _ w72 ⟨I69, rfl, hl70, hS73⟩
 refine ya 15 48 (.bool j67) ?_
 obtain rfl := sj hr1
 exact yv ⟨I69, rfl, hl70, hS73⟩
 refine yj 40 hc ?_
 iterate 7 refine yt ?_
 refine ya 15 48 (.bool false) ?_
 obtain rfl := sj hr1
 exact yv ⟨I53, rfl, lr, hS62⟩
 rintro _ w74 ⟨I65, rfl, hl66, hS75⟩
 refine ya 16 32 (.bool j63) (yb (W.cb hr (fun hc hr => ?_) (fun hc hr => ?_)))
 refine yd [0] ?_
 refine ya 0 2 (Iv 3) (yb (W.ret (yh (yc ?_))))
 obtain rfl := sj hr
 exact yr ⟨I65, rfl, (((((hl4.trans hl17).trans hl29).trans hl42).trans hl54).trans hl66), hS75⟩
 refine yd nL3 ?_
 refine ya 0 50 (.string p0) ?_
 obtain ⟨r81, hx_r76, hr⟩ := bsm hr
 refine y6 (r09_quoted_ok  hS75 hx_r76) ?_
 intro I78 w77 hl79 hS80
 refine ya 2 49 (.bool r81) (yb (W.cb hr (fun hc hr => ?_) (fun hc hr => ?_)))
 refine yd [0] ?_
 refine ya 0 2 (Iv 4) (yb (W.ret (yh (yc ?_))))
 obtain rfl := sj hr
 exact yr ⟨I78, rfl, ((((((hl4.trans hl17).trans hl29).trans hl42).trans hl54).trans hl66).trans hl79), hS80⟩
 refine yd nL19 ?_
 refine WO.vs 0 [(53, .string p0), (54, Iv (p0.size : Int)), (55, .bool ((p0.size : Int) == 2)), (56, .bool ((p0.size : Int) == 2))] ?_
 obtain ⟨j82, hr1, hr⟩ := bsm hr
 refine WO.jw (l1 := [4, 5, 6, 7]) (J := (fun fr w => ∃ I84, fr = [(0, .string p0), (60, .bool j82)] ∧ I78.Le I84 ∧ St E w I84 Os)) ?_ ?_
 refine WO.cb hr1 (fun hc hr1 => ?_) (fun hc hr1 => ?_)
 refine yj 56 hc (ya 4 57 (.string p0) ?_)
 obtain ⟨y86, hx_y86, hr1⟩ := bsm hr1
 refine yam rfl (by kernel_rfl) (by kernel_rfl) rfl rfl hx_y86 ?_
 refine WO.vs 6 [(59, .bool (y86 == 36)), (60, .bool (y86 == 36))] ?_
 obtain rfl := sj hr1
 exact yv ⟨I78, rfl, lr, hS80⟩
 refine yj 56 hc ?_
 iterate 3 refine yt ?_
 refine ya 7 60 (.bool false) ?_
 obtain rfl := sj hr1
 exact yv ⟨I78, rfl, lr, hS80⟩
 rintro _ w87 ⟨I84, rfl, hl85, hS88⟩
 refine ya 8 61 (.bool j82) ?_
 obtain ⟨j89, hr1, hr⟩ := bsm hr
 refine WO.jw (l1 := [9, 10, 11, 12]) (J := (fun fr w => ∃ I91, fr = [(0, .string p0), (65, .bool j89)] ∧ I84.Le I91 ∧ St E w I91 Os)) ?_ ?_
 refine WO.cb hr1 (fun hc hr1 => ?_) (fun hc hr1 => ?_)
 refine yj 61 hc (ya 9 62 (.string p0) ?_)
 obtain ⟨y93, hx_y93, hr1⟩ := bsm hr1
 refine yam rfl (by kernel_rfl) (by kernel_rfl) rfl rfl hx_y93 ?_
 refine WO.vs 11 [(64, .bool (decide (y93 ≥ 49))), (65, .bool (decide (y93 ≥ 49)))] ?_
 obtain rfl := sj hr1
 exact yv ⟨I84, rfl, lr, hS88⟩
 refine yj 61 hc ?_
 iterate 3 refine yt ?_
 refine ya 12 65 (.bool false) ?_
 obtain rfl := sj hr1
 exact yv ⟨I84, rfl, lr, hS88⟩
 rintro _ w94 ⟨I91, rfl, hl92, hS95⟩
 refine ya 13 66 (.bool j89) ?_
 obtain ⟨j96, hr1, hr⟩ := bsm hr
 refine WO.jw (l1 := [14, 15, 16, 17]) (J := (fun fr w => ∃ I98, fr = [(0, .string p0), (70, .bool j96)] ∧ I91.Le I98 ∧ St E w I98 Os)) ?_ ?_
 refine WO.cb hr1 (fun hc hr1 => ?_) (fun hc hr1 => ?_)
 refine yj 66 hc (ya 14 67 (.string p0) ?_)
 obtain ⟨y100, hx_y100, hr1⟩ := bsm hr1
 refine yam rfl (by kernel_rfl) (by kernel_rfl) rfl rfl hx_y100 ?_
 refine WO.vs 16 [(69, .bool (decide (y100 ≤ 54))), (70, .bool (decide (y100 ≤ 54)))] ?_
 obtain rfl := sj hr1
 exact yv ⟨I91, rfl, lr, hS95⟩
 refine yj 66 hc ?_
 iterate 3 refine yt ?_
 refine ya 17 70 (.bool false) ?_
 obtain rfl := sj hr1
 exact yv ⟨I91, rfl, lr, hS95⟩
 rintro _ w101 ⟨I98, rfl, hl99, hS102⟩
 refine ya 18 52 (.bool j96) (yb (W.cb hr (fun hc hr => ?_) (fun hc hr => ?_)))
 refine yd [0] ?_
 refine ya 0 2 (Iv 5) (yb (W.ret (yh (yc ?_))))
 obtain rfl := sj hr
 exact yr ⟨I98, rfl, (((((((((hl4.trans hl17).trans hl29).trans hl42).trans hl54).trans hl66).trans hl79).trans hl85).trans hl92).trans hl99), hS102⟩
 refine yd nL3 ?_
 refine ya 0 72 (.string p0) ?_
 obtain ⟨r108, hx_r103, hr⟩ := bsm hr
 refine y6 (r09_sign_ok  hS102 hx_r103) ?_
 intro I105 w104 hl106 hS107
 refine ya 2 71 (.bool r108) (yb (W.cb hr (fun hc hr => ?_) (fun hc hr => ?_)))
 refine yd [0] ?_
 refine ya 0 2 (Iv 6) (yb (W.ret (yh (yc ?_))))
 obtain rfl := sj hr
 exact yr ⟨I105, rfl, ((((((((((hl4.trans hl17).trans hl29).trans hl42).trans hl54).trans hl66).trans hl79).trans hl85).trans hl92).trans hl99).trans hl106), hS107⟩
 refine yg (yi (En.next (yd [0] ?_)))
 refine ya 0 2 (Iv 0) (yb (W.ret ?_))
 obtain rfl := sj hr
 exact yr ⟨I105, rfl, ((((((((((hl4.trans hl17).trans hl29).trans hl42).trans hl54).trans hl66).trans hl79).trans hl85).trans hl92).trans hl99).trans hl106), hS107⟩
noncomputable def r09_IsName (p0 : ByteArray) : Option Bool := (r09_Kind p0).bind (fun r6 => some (r6 == 1))
theorem r09_IsName_ok {p0 : ByteArray} (hS : St E w I Os) {r : Bool} (hr : r09_IsName p0 = some r) :
    Calls P 114 #[(.string p0)] w (fun e w' => ∃ I', e = .returned (.bool r) ∧ I.Le I' ∧ St E w' I' Os) := by
 refine calls_W (fn := Tryz.f114) rfl rfl rfl ?_
 unfold r09_IsName at hr
 refine yd [0] ?_
 refine ya 0 2 (.bool false) (yz nL4 ?_)
 refine ya 0 3 (.string p0) ?_
 obtain ⟨r6, hx_r1, hr⟩ := bsm hr
 refine y6 (r09_Kind_ok  hS hx_r1) ?_
 intro I3 w2 hl4 hS5
 refine WO.vs 2 [(5, .bool (r6 == 1)), (2, .bool (r6 == 1))] (yb (W.ret ?_))
 obtain rfl := sj hr
 exact yr ⟨I3, rfl, hl4, hS5⟩
noncomputable def r18_Check (p0 : List qRole) : Option Int := (bif (decide ((p0.length : Int) > 8)) then some 2 else (forN (fun (i4 : Nat) => fun (_s : Unit) => (idx p0 (i4 : Int)).bind (fun x13 => (r09_IsName x13.Name).bind (fun r19 => ((bif (!r19) then some true else ((bif (decide ((i4 : Int) > 0)) then (idx p0 (w64 ((i4 : Int) - 1))).bind (fun x28 => (idx p0 (i4 : Int)).bind (fun x29 => some (!sLt x28.Name x29.Name))) else some false)).bind (fun (j24 : Bool) => some j24))).bind (fun (j20 : Bool) => (bif j20 then some (.inr (2 : Int)) else (loopO (fun (s39 : Int) => (idx p0 (i4 : Int)).bind (fun x44 => (bif (decide (s39 < (x44.In.length : Int))) then (idx p0 (i4 : Int)).bind (fun x47 => (idx x47.In s39).bind (fun x48 => (r18_At p0 x48).bind (fun r54 => ((bif (decide (r54 < 0)) then some true else ((bif (decide (s39 > 0)) then (idx p0 (i4 : Int)).bind (fun x63 => (idx x63.In (w64 (s39 - 1))).bind (fun x64 => (idx p0 (i4 : Int)).bind (fun x65 => (idx x65.In s39).bind (fun x66 => some (!sLt x64 x66))))) else some false)).bind (fun (j59 : Bool) => some j59))).bind (fun (j55 : Bool) => (bif j55 then some (.inr (.inl (2 : Int))) else some (.inl (w64 (s39 + 1)))))))) else some (.inr (.inr ()))))) 0).bind (fun (t : Int ⊕ Unit) => match t with | (.inl s72) => some (.inr s72) | (.inr ()) => some (.inl ()))))))) p0.length 0 ()).bind (fun (t : Unit ⊕ (Int)) => match t with | .inl _ => (forN (fun (i79 : Nat) => fun (_s : Unit) => (loopO (fun (s89 : Int) => (idx p0 (i79 : Int)).bind (fun x94 => (bif (decide (s89 < (x94.In.length : Int))) then (idx p0 (i79 : Int)).bind (fun x97 => (idx x97.In s89).bind (fun x98 => (idx p0 (i79 : Int)).bind (fun x99 => (r18_Is p0 x98 x99.Name).bind (fun r105 => (bif r105 then some (.inr (.inl (2 : Int))) else some (.inl (w64 (s89 + 1)))))))) else some (.inr (.inr ()))))) 0).bind (fun (t : Int ⊕ Unit) => match t with | (.inl s107) => some (.inr s107) | (.inr ()) => some (.inl ()))) p0.length 0 ()).bind (fun (t : Unit ⊕ (Int)) => match t with | .inl _ => some 0 | .inr s109 => some s109) | .inr s35 => some s35))
theorem r18_Check_ok {p0 : List qRole} {a_p0 : Option Addr} {c_p0 : Nat} (h_p0 : RSl 2 R_qRole I a_p0 c_p0 p0) (hS : St E w I Os) {r : Int} (hr : r18_Check p0 = some r) :
    Calls P 113 #[(Sl a_p0 p0 c_p0)] w (fun e w' => ∃ I', e = .returned (Iv r) ∧ I.Le I' ∧ St E w' I' Os) := by
 refine calls_W (fn := Tryz.f113) rfl rfl rfl ?_
 unfold r18_Check at hr
 refine yd [0] ?_
 refine ya 0 2 (Iv 0) (yb (ye (yd nL3 ?_)))
 refine WO.vs 0 [(7, Sl a_p0 p0 c_p0), (8, Nv p0.length), (9, .bool (decide ((p0.length : Int) > 8)))] (yb (W.cb hr (fun hc hr => ?_) (fun hc hr => ?_)))
 refine yd [0] ?_
 refine ya 0 2 (Iv 2) (yb (W.ret (yc ?_)))
 obtain rfl := sj hr
 exact yr ⟨I, rfl, lr, hS⟩
 refine yg (En.next (ye (yd [0] ?_)))
 refine ya 0 3 (Iv 0) (yb (W.block ?_))
 obtain ⟨t1, hloop5, hr⟩ := bsm hr
 have hlt9 := (h_p0).len_lt
 refine W.wk (W.forN (m := p0.length) hloop5 (fun (i4 : Nat) => fun (_s : Unit) fr w => ∃ I2, fr = [(0, Sl a_p0 p0 c_p0), (3, Nv i4)] ∧ I.Le I2 ∧ St E w I2 Os) ⟨I, rfl, lr, hS⟩ ?_ ?_)
 rintro i4 _ _ w6 hi10 ⟨I2, rfl, hl3, hS7⟩ x8 hr1 hext1
 refine ye (yd nL4 ?_)
 refine WO.vs 0 [(10, Nv i4), (11, Sl a_p0 p0 c_p0), (12, Nv p0.length), (13, .bool (decide ((i4 : Int) < (p0.length : Int))))] (yb (yag (fun hc => ?_)))
 clear hc
 refine yg (En.next (ye (W.block (ye (ye ?_)))))
 have hS11 := hS7.drew
 refine yao nL25 25 (KR.nil hS11.im) ?_
 generalize World.drew _ = w12 at *
 refine WO.vs 0 [(16, Sl a_p0 p0 c_p0), (17, Nv i4)] ?_
 obtain ⟨x13, hr1, h0_x13, h1_x13, hx_x13, ha_x13, _, _, ⟨w_x13, rfl, h_x13⟩, hc_x13⟩ := sl_at ((RSl.mono h_p0 hl3)) hr1
 refine yq 62 2 ha_x13 h0_x13 h1_x13 ?_
 refine ya 3 19 (.pointer (some ⟨bl a_p0, of a_p0 + ((i4 : Int)).toNat * 2, none⟩)) (yae (v := (.string x13.Name)) hc_x13 (rd_i hS11.im) ?_)
 obtain ⟨r19, hx_r14, hr1⟩ := bsm hr1
 refine y8 (r09_IsName_ok  hS11 hx_r14) ?_
 rintro _ w15 ⟨I16, rfl, hl17, hS18⟩
 refine ⟨_, rfl, (KR.nil (hS18.im.of_le hl17)), ?_⟩
 refine WO.vs 6 [(22, .bool (!r19)), (23, .bool (!r19))] ?_
 obtain ⟨j20, hr2, hr1⟩ := bsm hr1
 refine WO.jw (l1 := [8, 9, 10, 11, 12, 13, 14, 15, 16, 17, 18, 19, 20, 21, 22, 23, 24]) (J := (fun fr w => ∃ I22, fr = [(0, Sl a_p0 p0 c_p0), (3, Nv i4), (40, .bool j20)] ∧ I16.Le I22 ∧ St E w I22 Os)) ?_ ?_
 refine WO.cb hr2 (fun hc hr2 => ?_) (fun hc hr2 => ?_)
 refine yj 23 hc ?_
 iterate 16 refine yt ?_
 refine ya 24 40 (.bool true) ?_
 obtain rfl := sj hr2
 exact yv ⟨I16, rfl, lr, hS18⟩
 refine yj 23 hc (WO.vs 8 [(24, Nv i4), (25, .bool (decide ((i4 : Int) > 0))), (26, .bool (decide ((i4 : Int) > 0)))] ?_)
 obtain ⟨j24, hr3, hr2⟩ := bsm hr2
 refine WO.jw (l1 := [11, 12, 13, 14, 15, 16, 17, 18, 19, 20, 21, 22, 23]) (J := (fun fr w => ∃ I26, fr = [(0, Sl a_p0 p0 c_p0), (3, Nv i4), (23, .bool false), (39, .bool j24)] ∧ I16.Le I26 ∧ St E w I26 Os)) ?_ ?_
 refine WO.cb hr3 (fun hc hr3 => ?_) (fun hc hr3 => ?_)
 refine yj 26 hc (WO.vs 11 [(27, Sl a_p0 p0 c_p0), (28, Nv i4), (29, Iv (w64 ((i4 : Int) - 1)))] ?_)
 obtain ⟨x28, hr3, h0_x28, h1_x28, hx_x28, ha_x28, _, _, ⟨w_x28, rfl, h_x28⟩, hc_x28⟩ := sl_at ((RSl.mono h_p0 hl3)) hr3
 refine yq 62 2 ha_x28 h0_x28 h1_x28 ?_
 refine ya 15 31 (.pointer (some ⟨bl a_p0, of a_p0 + ((w64 ((i4 : Int) - 1))).toNat * 2, none⟩)) (yae (v := (.string x28.Name)) hc_x28 (rd_i (hS18.im.of_le hl17)) ?_)
 refine WO.vs 17 [(33, Sl a_p0 p0 c_p0), (34, Nv i4)] ?_
 obtain ⟨x29, hr3, h0_x29, h1_x29, hx_x29, ha_x29, _, _, ⟨w_x29, rfl, h_x29⟩, hc_x29⟩ := sl_at ((RSl.mono h_p0 hl3)) hr3
 refine yq 62 2 ha_x29 h0_x29 h1_x29 ?_
 refine ya 20 36 (.pointer (some ⟨bl a_p0, of a_p0 + ((i4 : Int)).toNat * 2, none⟩)) (yae (v := (.string x29.Name)) hc_x29 (rd_i (hS18.im.of_le hl17)) ?_)
 refine WO.vs 22 [(38, .bool (!sLt x28.Name x29.Name)), (39, .bool (!sLt x28.Name x29.Name))] ?_
 obtain rfl := sj hr3
 exact yv ⟨I16, rfl, lr, hS18⟩
 refine yj 26 hc ?_
 iterate 12 refine yt ?_
 refine ya 23 39 (.bool false) ?_
 obtain rfl := sj hr3
 exact yv ⟨I16, rfl, lr, hS18⟩
 rintro _ w30 ⟨I26, rfl, hl27, hS31⟩
 refine ya 24 40 (.bool j24) ?_
 obtain rfl := sj hr2
 exact yv ⟨I26, rfl, hl27, hS31⟩
 rintro _ w32 ⟨I22, rfl, hl23, hS33⟩
 refine yb (W.cb hr1 (fun hc hr1 => ?_) (fun hc hr1 => ?_))
 refine yd [0] ?_
 refine ya 0 2 (Iv 2) (yb (W.ret (yc (yh (yc (ym ?_))))))
 obtain rfl := hext1 _ (sj hr1).symm
 refine yh (yc ?_)
 obtain rfl := sj hr
 exact yr ⟨I22, rfl, ((hl3.trans hl17).trans hl23), hS33⟩
 refine yg (En.next (yd [0] ?_))
 refine ya 0 4 (Iv 0) (yb (W.block ?_))
 obtain ⟨t36, hloop40, hr1⟩ := bsm hr1
 refine W.wk (yap hloop40 (fun (s39 : Int) fr w => ∃ I37, fr = [(0, Sl a_p0 p0 c_p0), (3, Nv i4), (4, Iv s39)] ∧ I22.Le I37 ∧ St E w I37 Os) ⟨I22, rfl, lr, hS33⟩ ?_)
 rintro s39 _ w41 ⟨I37, rfl, hl38, hS42⟩ x43 hr2 hext36
 refine ye (yd nL8 ?_)
 refine WO.vs 0 [(41, Iv s39), (42, Sl a_p0 p0 c_p0), (43, Nv i4)] ?_
 obtain ⟨x44, hr2, h0_x44, h1_x44, hx_x44, ha_x44, _, _, ⟨w_x44, rfl, h_x44⟩, hc_x44⟩ := sl_at ((RSl.mono h_p0 (((hl3.trans hl17).trans hl23).trans hl38))) hr2
 refine yq 62 2 ha_x44 h0_x44 h1_x44 ?_
 refine ya 4 45 (.pointer (some ⟨bl a_p0, of a_p0 + ((i4 : Int)).toNat * 2 + 1, none⟩)) (WO.le (v := (Sl w_x44.In.a x44.In w_x44.In.c)) hc_x44 1 hS42.rm ?_)
 refine WO.vs 6 [(47, Nv x44.In.length), (48, .bool (decide (s39 < (x44.In.length : Int))))] (yb (W.cb hr2 (fun hc hr2 => ?_) (fun hc hr2 => ?_)))
 refine yg (En.next (ye (W.block (ye ?_))))
 have hS45 := hS42.drew
 refine yao nL35 35 (KR.nil hS45.im) ?_
 generalize World.drew _ = w46 at *
 refine WO.vs 0 [(51, Sl a_p0 p0 c_p0), (52, Sl a_p0 p0 c_p0), (53, Nv i4)] ?_
 obtain ⟨x47, hr2, h0_x47, h1_x47, hx_x47, ha_x47, _, _, ⟨w_x47, rfl, h_x47⟩, hc_x47⟩ := sl_at ((RSl.mono h_p0 (((hl3.trans hl17).trans hl23).trans hl38))) hr2
 refine yq 62 2 ha_x47 h0_x47 h1_x47 ?_
 refine ya 4 55 (.pointer (some ⟨bl a_p0, of a_p0 + ((i4 : Int)).toNat * 2 + 1, none⟩)) (WO.le (v := (Sl w_x47.In.a x47.In w_x47.In.c)) hc_x47 1 (rd_i hS45.im) ?_)
 refine ya 6 57 (Iv s39) ?_
 obtain ⟨x48, hr2, h0_x48, h1_x48, hx_x48, ha_x48, _, _, rfl, hc_x48⟩ := sl_at (h_x47.In) hr2
 refine yq 9 1 ha_x48 h0_x48 h1_x48 ?_
 refine yae (v := (.string x48)) hc_x48 (rd_i hS45.im) ?_
 obtain ⟨r54, hx_r49, hr2⟩ := bsm hr2
 refine y8 (r18_At_ok (RSl.mono h_p0 (((hl3.trans hl17).trans hl23).trans hl38)) hS45 hx_r49) ?_
 rintro _ w50 ⟨I51, rfl, hl52, hS53⟩
 refine ⟨_, rfl, (KR.nil (hS53.im.of_le hl52)), ?_⟩
 refine WO.vs 10 [(61, .bool (decide (r54 < 0))), (62, .bool (decide (r54 < 0)))] ?_
 obtain ⟨j55, hr3, hr2⟩ := bsm hr2
 refine WO.jw (l1 := [12, 13, 14, 15, 16, 17, 18, 19, 20, 21, 22, 23, 24, 25, 26, 27, 28, 29, 30, 31, 32, 33, 34]) (J := (fun fr w => ∃ I57, fr = [(0, Sl a_p0 p0 c_p0), (3, Nv i4), (4, Iv s39), (85, .bool j55)] ∧ I51.Le I57 ∧ St E w I57 Os)) ?_ ?_
 refine WO.cb hr3 (fun hc hr3 => ?_) (fun hc hr3 => ?_)
 refine yj 62 hc ?_
 iterate 22 refine yt ?_
 refine ya 34 85 (.bool true) ?_
 obtain rfl := sj hr3
 exact yv ⟨I51, rfl, lr, hS53⟩
 refine yj 62 hc (WO.vs 12 [(63, Iv s39), (64, .bool (decide (s39 > 0))), (65, .bool (decide (s39 > 0)))] ?_)
 obtain ⟨j59, hr4, hr3⟩ := bsm hr3
 refine WO.jw (l1 := [15, 16, 17, 18, 19, 20, 21, 22, 23, 24, 25, 26, 27, 28, 29, 30, 31, 32, 33]) (J := (fun fr w => ∃ I61, fr = [(0, Sl a_p0 p0 c_p0), (3, Nv i4), (4, Iv s39), (62, .bool false), (84, .bool j59)] ∧ I51.Le I61 ∧ St E w I61 Os)) ?_ ?_
 refine WO.cb hr4 (fun hc hr4 => ?_) (fun hc hr4 => ?_)
 refine yj 65 hc (WO.vs 15 [(66, Sl a_p0 p0 c_p0), (67, Nv i4)] ?_)
 obtain ⟨x63, hr4, h0_x63, h1_x63, hx_x63, ha_x63, _, _, ⟨w_x63, rfl, h_x63⟩, hc_x63⟩ := sl_at ((RSl.mono h_p0 (((hl3.trans hl17).trans hl23).trans hl38))) hr4
 refine yq 62 2 ha_x63 h0_x63 h1_x63 ?_
 refine ya 18 69 (.pointer (some ⟨bl a_p0, of a_p0 + ((i4 : Int)).toNat * 2 + 1, none⟩)) (WO.le (v := (Sl w_x63.In.a x63.In w_x63.In.c)) hc_x63 1 (rd_i (hS53.im.of_le hl52)) ?_)
 refine WO.vs 20 [(71, Iv s39), (72, Iv (w64 (s39 - 1)))] ?_
 obtain ⟨x64, hr4, h0_x64, h1_x64, hx_x64, ha_x64, _, _, rfl, hc_x64⟩ := sl_at (h_x63.In) hr4
 refine yq 9 1 ha_x64 h0_x64 h1_x64 ?_
 refine yae (v := (.string x64)) hc_x64 (rd_i (hS53.im.of_le hl52)) ?_
 refine WO.vs 24 [(75, Sl a_p0 p0 c_p0), (76, Nv i4)] ?_
 obtain ⟨x65, hr4, h0_x65, h1_x65, hx_x65, ha_x65, _, _, ⟨w_x65, rfl, h_x65⟩, hc_x65⟩ := sl_at ((RSl.mono h_p0 (((hl3.trans hl17).trans hl23).trans hl38))) hr4
 refine yq 62 2 ha_x65 h0_x65 h1_x65 ?_
 refine ya 27 78 (.pointer (some ⟨bl a_p0, of a_p0 + ((i4 : Int)).toNat * 2 + 1, none⟩)) (WO.le (v := (Sl w_x65.In.a x65.In w_x65.In.c)) hc_x65 1 (rd_i (hS53.im.of_le hl52)) ?_)
 refine ya 29 80 (Iv s39) ?_
 obtain ⟨x66, hr4, h0_x66, h1_x66, hx_x66, ha_x66, _, _, rfl, hc_x66⟩ := sl_at (h_x65.In) hr4
 refine yq 9 1 ha_x66 h0_x66 h1_x66 ?_
 refine yae (v := (.string x66)) hc_x66 (rd_i (hS53.im.of_le hl52)) ?_
 refine WO.vs 32 [(83, .bool (!sLt x64 x66)), (84, .bool (!sLt x64 x66))] ?_
 obtain rfl := sj hr4
 exact yv ⟨I51, rfl, lr, hS53⟩
 refine yj 65 hc ?_
 iterate 18 refine yt ?_
 refine ya 33 84 (.bool false) ?_
 obtain rfl := sj hr4
 exact yv ⟨I51, rfl, lr, hS53⟩
 rintro _ w67 ⟨I61, rfl, hl62, hS68⟩
 refine ya 34 85 (.bool j59) ?_
 obtain rfl := sj hr3
 exact yv ⟨I61, rfl, hl62, hS68⟩
 rintro _ w69 ⟨I57, rfl, hl58, hS70⟩
 refine yb (W.cb hr2 (fun hc hr2 => ?_) (fun hc hr2 => ?_))
 refine yd [0] ?_
 refine ya 0 2 (Iv 2) (yb (W.ret (yh (yc (ym ?_)))))
 obtain rfl := hext36 _ (sj hr2).symm
 refine yh (yh (yc (ym ?_)))
 obtain rfl := hext1 _ (sj hr1).symm
 refine yh (yc ?_)
 obtain rfl := sj hr
 exact yr ⟨I57, rfl, (((((hl3.trans hl17).trans hl23).trans hl38).trans hl52).trans hl58), hS70⟩
 refine yg (yi (En.next (yaa nL3 ?_)))
 exact WO.vs 0 [(49, Iv s39), (50, Iv (w64 (s39 + 1))), (4, Iv (w64 (s39 + 1)))] (WO.nil (yo ⟨(w64 (s39 + 1)), (sj hr2).symm, I57, rfl, ((hl38.trans hl52).trans hl58), hS70⟩))
 refine yy (yk (yl ?_))
 obtain rfl := hext36 _ (sj hr2).symm
 refine yn (yi (En.next (yaa nL3 ?_)))
 refine ya 0 14 (Nv i4) (y0 (j := i4) rfl (by kernel_rfl) rfl (by first | omega | (dsimp only at *; omega) | (simp only [List.length_cons, List.length_nil] at *; omega)) ?_)
 exact ya 2 3 (Iv ((i4 + 1 : Nat) : Int)) (WO.nil (yo ⟨(), (sj hr1).symm, I37, rfl, (((hl3.trans hl17).trans hl23).trans hl38), hS42⟩))
 rintro _ _ w74 ⟨I2, rfl, hl3, hS75⟩ he
 cases he
 refine ye (yd nL4 ?_)
 refine WO.vs 0 [(10, Nv p0.length), (11, Sl a_p0 p0 c_p0), (12, Nv p0.length), (13, .bool (decide ((p0.length : Int) < (p0.length : Int))))] (yb (yah (fun hc => ?_)))
 clear hc
 refine yy (yk (yl (yn (En.next (ye (yd [0] ?_))))))
 refine ya 0 5 (Iv 0) (yb (W.block ?_))
 obtain ⟨t76, hloop80, hr⟩ := bsm hr
 have hlt84 := ((RSl.mono h_p0 hl3)).len_lt
 refine W.wk (W.forN (m := p0.length) hloop80 (fun (i79 : Nat) => fun (_s : Unit) fr w => ∃ I77, fr = [(0, Sl a_p0 p0 c_p0), (5, Nv i79)] ∧ I2.Le I77 ∧ St E w I77 Os) ⟨I2, rfl, lr, hS75⟩ ?_ ?_)
 rintro i79 _ _ w81 hi85 ⟨I77, rfl, hl78, hS82⟩ x83 hr1 hext76
 refine ye (yd nL4 ?_)
 refine WO.vs 0 [(86, Nv i79), (87, Sl a_p0 p0 c_p0), (88, Nv p0.length), (89, .bool (decide ((i79 : Int) < (p0.length : Int))))] (yb (yag (fun hc => ?_)))
 clear hc
 refine yg (En.next (ye (W.block (yd [0] ?_))))
 refine ya 0 6 (Iv 0) (yb (W.block ?_))
 obtain ⟨t86, hloop90, hr1⟩ := bsm hr1
 refine W.wk (yap hloop90 (fun (s89 : Int) fr w => ∃ I87, fr = [(0, Sl a_p0 p0 c_p0), (5, Nv i79), (6, Iv s89)] ∧ I77.Le I87 ∧ St E w I87 Os) ⟨I77, rfl, lr, hS82⟩ ?_)
 rintro s89 _ w91 ⟨I87, rfl, hl88, hS92⟩ x93 hr2 hext86
 refine ye (yd nL8 ?_)
 refine WO.vs 0 [(92, Iv s89), (93, Sl a_p0 p0 c_p0), (94, Nv i79)] ?_
 obtain ⟨x94, hr2, h0_x94, h1_x94, hx_x94, ha_x94, _, _, ⟨w_x94, rfl, h_x94⟩, hc_x94⟩ := sl_at ((RSl.mono h_p0 ((hl3.trans hl78).trans hl88))) hr2
 refine yq 62 2 ha_x94 h0_x94 h1_x94 ?_
 refine ya 4 96 (.pointer (some ⟨bl a_p0, of a_p0 + ((i79 : Int)).toNat * 2 + 1, none⟩)) (WO.le (v := (Sl w_x94.In.a x94.In w_x94.In.c)) hc_x94 1 hS92.rm ?_)
 refine WO.vs 6 [(98, Nv x94.In.length), (99, .bool (decide (s89 < (x94.In.length : Int))))] (yb (W.cb hr2 (fun hc hr2 => ?_) (fun hc hr2 => ?_)))
 refine yg (En.next (ye (W.block (ye ?_))))
 have hS95 := hS92.drew
 refine yao nL15 14 (KR.nil hS95.im) ?_
 generalize World.drew _ = w96 at *
 refine WO.vs 0 [(102, Sl a_p0 p0 c_p0), (103, Sl a_p0 p0 c_p0), (104, Nv i79)] ?_
 obtain ⟨x97, hr2, h0_x97, h1_x97, hx_x97, ha_x97, _, _, ⟨w_x97, rfl, h_x97⟩, hc_x97⟩ := sl_at ((RSl.mono h_p0 ((hl3.trans hl78).trans hl88))) hr2
 refine yq 62 2 ha_x97 h0_x97 h1_x97 ?_
 refine ya 4 106 (.pointer (some ⟨bl a_p0, of a_p0 + ((i79 : Int)).toNat * 2 + 1, none⟩)) (WO.le (v := (Sl w_x97.In.a x97.In w_x97.In.c)) hc_x97 1 (rd_i hS95.im) ?_)
 refine ya 6 108 (Iv s89) ?_
 obtain ⟨x98, hr2, h0_x98, h1_x98, hx_x98, ha_x98, _, _, rfl, hc_x98⟩ := sl_at (h_x97.In) hr2
 refine yq 9 1 ha_x98 h0_x98 h1_x98 ?_
 refine yae (v := (.string x98)) hc_x98 (rd_i hS95.im) ?_
 refine WO.vs 9 [(111, Sl a_p0 p0 c_p0), (112, Nv i79)] ?_
 obtain ⟨x99, hr2, h0_x99, h1_x99, hx_x99, ha_x99, _, _, ⟨w_x99, rfl, h_x99⟩, hc_x99⟩ := sl_at ((RSl.mono h_p0 ((hl3.trans hl78).trans hl88))) hr2
 refine yq 62 2 ha_x99 h0_x99 h1_x99 ?_
 refine ya 12 114 (.pointer (some ⟨bl a_p0, of a_p0 + ((i79 : Int)).toNat * 2, none⟩)) (yae (v := (.string x99.Name)) hc_x99 (rd_i hS95.im) ?_)
 refine WO.tail rfl ?_
 obtain ⟨r105, hx_r100, hr2⟩ := bsm hr2
 refine y6 (r18_Is_ok (RSl.mono h_p0 ((hl3.trans hl78).trans hl88)) hS95 hx_r100) ?_
 intro I102 w101 hl103 hS104
 refine yb (W.cb hr2 (fun hc hr2 => ?_) (fun hc hr2 => ?_))
 refine yd [0] ?_
 refine ya 0 2 (Iv 2) (yb (W.ret (yh (yc (ym ?_)))))
 obtain rfl := hext86 _ (sj hr2).symm
 refine yh (yh (yc (ym ?_)))
 obtain rfl := hext76 _ (sj hr1).symm
 refine yh (yc ?_)
 obtain rfl := sj hr
 exact yr ⟨I102, rfl, (((hl3.trans hl78).trans hl88).trans hl103), hS104⟩
 refine yg (yi (En.next (yaa nL3 ?_)))
 exact WO.vs 0 [(100, Iv s89), (101, Iv (w64 (s89 + 1))), (6, Iv (w64 (s89 + 1)))] (WO.nil (yo ⟨(w64 (s89 + 1)), (sj hr2).symm, I102, rfl, (hl88.trans hl103), hS104⟩))
 refine yy (yk (yl ?_))
 obtain rfl := hext86 _ (sj hr2).symm
 refine yn (yi (En.next (yaa nL3 ?_)))
 refine ya 0 90 (Nv i79) (y0 (j := i79) rfl (by kernel_rfl) rfl (by first | omega | (dsimp only at *; omega) | (simp only [List.length_cons, List.length_nil] at *; omega)) ?_)
 exact ya 2 5 (Iv ((i79 + 1 : Nat) : Int)) (WO.nil (yo ⟨(), (sj hr1).symm, I87, rfl, (hl78.trans hl88), hS92⟩))
 rintro _ _ w111 ⟨I77, rfl, hl78, hS112⟩ he
 cases he
 refine ye (yd nL4 ?_)
 refine WO.vs 0 [(86, Nv p0.length), (87, Sl a_p0 p0 c_p0), (88, Nv p0.length), (89, .bool (decide ((p0.length : Int) < (p0.length : Int))))] (yb (yah (fun hc => ?_)))
 clear hc
 refine yy (yk (yl (yn (En.next (yd [0] ?_)))))
 refine ya 0 2 (Iv 0) (yb (W.ret ?_))
 obtain rfl := sj hr
 exact yr ⟨I77, rfl, (hl3.trans hl78), hS112⟩
noncomputable def r18_Create (p0 : List qRole) (p1 : ByteArray) : Option ((List qRole) × Int) := (r18_Check p0).bind (fun r6 => (bif (r6 != 0) then some (([] : List qRole), r6) else (r09_IsName p1).bind (fun r12 => (bif (!r12) then some (([] : List qRole), 18) else (r18_At p0 p1).bind (fun r18 => (bif (decide (r18 ≥ 0)) then some (([] : List qRole), 19) else (bif ((p0.length : Int) == 8) then some (([] : List qRole), 5) else (loopO (fun (s22 : Int) => ((bif (decide (s22 < (p0.length : Int))) then (idx p0 s22).bind (fun x31 => some (sLt x31.Name p1)) else some false)).bind (fun (j27 : Bool) => (bif j27 then some (.inl (w64 (s22 + 1))) else some (.inr s22)))) 0).bind (fun (s35 : Int) => (sub p0 0 s35).bind (fun x36 => (app 40 ([] : List qRole) x36).bind (fun x39 => (app 40 x39 ([{ z_qRole with Name := p1 }] : List qRole)).bind (fun x55 => (sub p0 s35 (p0.length : Int)).bind (fun x64 => (app 40 x55 x64).bind (fun x65 => some (x65, 0))))))))))))))
theorem r18_Create_ok {p0 : List qRole} {p1 : ByteArray} {a_p0 : Option Addr} {c_p0 : Nat} (h_p0 : RSl 2 R_qRole I a_p0 c_p0 p0) (hS : St E w I Os) {r : (List qRole) × Int} (hr : r18_Create p0 p1 = some r) :
    Calls P 69 #[(Sl a_p0 p0 c_p0), (.string p1)] w (fun e w' => ∃ (I' : Mem) (ra0 : Option Addr) (rc0 : Nat), e = .returned (.tuple #[(Sl ra0 r.1 rc0), (Iv r.2)]) ∧ I.Le I' ∧ St E w' I' Os ∧ RSl 2 R_qRole I' ra0 rc0 r.1) := by
 refine calls_W (fn := Tryz.f69) rfl rfl rfl ?_
 unfold r18_Create at hr
 refine yd nL2 ?_
 refine WO.vs 0 [(4, .slice none 0 0), (5, Iv 0)] (yz nL3 ?_)
 refine ya 0 9 (Sl a_p0 p0 c_p0) ?_
 obtain ⟨r6, hx_r1, hr⟩ := bsm hr
 refine y6 (r18_Check_ok h_p0 hS hx_r1) ?_
 intro I3 w2 hl4 hS5
 refine ya 2 6 (Iv r6) (yb (ye (yd nL2 ?_)))
 refine WO.vs 0 [(11, Iv r6), (12, .bool (r6 != 0))] (yb (W.cb hr (fun hc hr => ?_) (fun hc hr => ?_)))
 refine yd nL3 ?_
 refine WO.vs 0 [(13, Iv r6), (4, .slice none 0 0), (5, Iv r6)] (yb (W.ret (yc ?_)))
 obtain rfl := sj hr
 exact yaj ⟨I3, none, 0, rfl, hl4, hS5, SlAt.nil⟩
 refine yg (En.next (ye (yd nL3 ?_)))
 refine ya 0 14 (.string p1) ?_
 obtain ⟨r12, hx_r7, hr⟩ := bsm hr
 refine y6 (r09_IsName_ok  hS5 hx_r7) ?_
 intro I9 w8 hl10 hS11
 refine ya 2 16 (.bool (!r12)) (yb (W.cb hr (fun hc hr => ?_) (fun hc hr => ?_)))
 refine yd nL2 ?_
 refine WO.vs 0 [(4, .slice none 0 0), (5, Iv 18)] (yb (W.ret (yc ?_)))
 obtain rfl := sj hr
 exact yaj ⟨I9, none, 0, rfl, (hl4.trans hl10), hS11, SlAt.nil⟩
 refine yg (En.next (ye (yd nL4 ?_)))
 refine WO.vs 0 [(17, Sl a_p0 p0 c_p0), (18, .string p1)] ?_
 obtain ⟨r18, hx_r13, hr⟩ := bsm hr
 refine y6 (r18_At_ok (RSl.mono h_p0 (hl4.trans hl10)) hS11 hx_r13) ?_
 intro I15 w14 hl16 hS17
 refine ya 3 20 (.bool (decide (r18 ≥ 0))) (yb (W.cb hr (fun hc hr => ?_) (fun hc hr => ?_)))
 refine yd nL2 ?_
 refine WO.vs 0 [(4, .slice none 0 0), (5, Iv 19)] (yb (W.ret (yc ?_)))
 obtain rfl := sj hr
 exact yaj ⟨I15, none, 0, rfl, ((hl4.trans hl10).trans hl16), hS17, SlAt.nil⟩
 refine yg (En.next (ye (yd nL3 ?_)))
 refine WO.vs 0 [(21, Sl a_p0 p0 c_p0), (22, Nv p0.length), (23, .bool ((p0.length : Int) == 8))] (yb (W.cb hr (fun hc hr => ?_) (fun hc hr => ?_)))
 refine yd nL2 ?_
 refine WO.vs 0 [(4, .slice none 0 0), (5, Iv 5)] (yb (W.ret (yc ?_)))
 obtain rfl := sj hr
 exact yaj ⟨I15, none, 0, rfl, ((hl4.trans hl10).trans hl16), hS17, SlAt.nil⟩
 refine yg (En.next (yd [0] ?_))
 refine ya 0 7 (Iv 0) (yb (ye (W.block ?_)))
 obtain ⟨t19, hloop23, hr⟩ := bsm hr
 refine W.wk (yap hloop23 (fun (s22 : Int) fr w => ∃ I20, fr = [(0, Sl a_p0 p0 c_p0), (1, .string p1), (7, Iv s22)] ∧ I15.Le I20 ∧ St E w I20 Os) ⟨I15, rfl, lr, hS17⟩ ?_)
 rintro s22 _ w24 ⟨I20, rfl, hl21, hS25⟩ x26 hr1 hext19
 refine ye (yd nL13 ?_)
 refine WO.vs 0 [(24, Iv s22), (25, Sl a_p0 p0 c_p0), (26, Nv p0.length), (27, .bool (decide (s22 < (p0.length : Int)))), (28, .bool (decide (s22 < (p0.length : Int))))] ?_
 obtain ⟨j27, hr2, hr1⟩ := bsm hr1
 refine WO.jw (l1 := [5, 6, 7, 8, 9, 10, 11, 12]) (J := (fun fr w => ∃ I29, fr = [(0, Sl a_p0 p0 c_p0), (1, .string p1), (7, Iv s22), (36, .bool j27)] ∧ I20.Le I29 ∧ St E w I29 Os)) ?_ ?_
 refine WO.cb hr2 (fun hc hr2 => ?_) (fun hc hr2 => ?_)
 refine yj 28 hc (WO.vs 5 [(29, Sl a_p0 p0 c_p0), (30, Iv s22)] ?_)
 obtain ⟨x31, hr2, h0_x31, h1_x31, hx_x31, ha_x31, _, _, ⟨w_x31, rfl, h_x31⟩, hc_x31⟩ := sl_at ((RSl.mono h_p0 (((hl4.trans hl10).trans hl16).trans hl21))) hr2
 refine yq 62 2 ha_x31 h0_x31 h1_x31 ?_
 refine ya 8 32 (.pointer (some ⟨bl a_p0, of a_p0 + (s22).toNat * 2, none⟩)) (yae (v := (.string x31.Name)) hc_x31 hS25.rm ?_)
 refine WO.vs 10 [(34, .string p1), (35, .bool (sLt x31.Name p1)), (36, .bool (sLt x31.Name p1))] ?_
 obtain rfl := sj hr2
 exact yv ⟨I20, rfl, lr, hS25⟩
 refine yj 28 hc ?_
 iterate 7 refine yt ?_
 refine ya 12 36 (.bool false) ?_
 obtain rfl := sj hr2
 exact yv ⟨I20, rfl, lr, hS25⟩
 rintro _ w32 ⟨I29, rfl, hl30, hS33⟩
 refine yb (W.cb hr1 (fun hc hr1 => ?_) (fun hc hr1 => ?_))
 refine yg (En.next (W.block (yaa nL3 ?_)))
 exact WO.vs 0 [(37, Iv s22), (38, Iv (w64 (s22 + 1))), (7, Iv (w64 (s22 + 1)))] (WO.nil (yi (yo ⟨(w64 (s22 + 1)), (sj hr1).symm, I29, rfl, (hl21.trans hl30), hS33⟩)))
 refine yy (yk (yl ?_))
 obtain rfl := hext19 _ (sj hr1).symm
 refine yn (En.next (yd [0] ?_))
 refine ya 0 8 (.slice none 0 0) (yz nL6 ?_)
 refine WO.vs 0 [(39, .slice none 0 0), (40, Sl a_p0 p0 c_p0), (41, Iv s22)] ?_
 obtain ⟨x76, hx_x76, hr⟩ := bsm hr
 obtain ⟨h0_x76, h1_x76, h2_x76, he_x76⟩ := sub_some hx_x76
 have hl_x76 : (s22 : Int) ≤ (c_p0 : Int) := Int.le_trans h2_x76 (Int.ofNat_le.2 ((RSl.mono h_p0 ((((hl4.trans hl10).trans hl16).trans hl21).trans hl30))).le)
 refine WO.slice (e := 62) (sz := 2) rfl (by kernel_rfl) (by kernel_rfl) (by kernel_rfl) rfl (0 : Int) (s22 : Int) h0_x76 (.inl ⟨rfl, rfl⟩) (.inr ⟨_, _, rfl, rfl⟩) h1_x76 hl_x76 ?_
 obtain ⟨a_x76, c_x76, h_x76, ev_x76⟩ := sub_ok ((RSl.mono h_p0 ((((hl4.trans hl10).trans hl16).trans hl21).trans hl30))) h0_x76 h1_x76 h2_x76 he_x76
 refine y7 42 rfl ev_x76 ?_
 have hS78 := hS33.no
 obtain ⟨x79, hx_x79, hr⟩ := bsm hr
 obtain ⟨h0_x79, he_x79⟩ := app_some hx_x79
 refine WO.append (e' := 62) (b := 40) (zs := (cs_qRole z_qRole zw_qRole).toArray) hS78 (OwnSl.nil (T := 62) (rel := R_qRole) (I := I29)) rfl (by kernel_rfl) rfl (by kernel_rfl) (by kernel_rfl) (by kernel_rfl) rfl rfl rfl rfl h_x76 hS78.im h0_x79 he_x79 (fun _ _ _ => trivial) ?_
 intro a80 c81 w82 C83 hS84 ho85
 refine ya 5 8 (Sl a80 x79 c81) (yz nL6 ?_)
 refine WO.vs 0 [(44, Sl a80 x79 c81), (45, .string p1), (46, .agg (cs_qRole ({ z_qRole with Name := p1 }) zw_qRole).toArray)] ?_
 have hk93 : ok_qRole I29 ({ z_qRole with Name := p1 }) zw_qRole := ⟨SlAt.nil⟩
 refine y3 (rel := R_qRole) (xs := ([{ z_qRole with Name := p1 }] : List qRole)) hS84 rfl (by kernel_rfl) rfl 62 2 [(cs_qRole ({ z_qRole with Name := p1 }) zw_qRole)] (by kernel_rfl) rfl ((Elr.cons ⟨zw_qRole, rfl, hk93⟩ Elr.nil)) (fun _ _ _ => trivial) ?_
 intro a89 C87 w91 hS90 ho88
 have hS94 := hS90.front1
 obtain ⟨x95, hx_x95, hr⟩ := bsm hr
 obtain ⟨h0_x95, he_x95⟩ := app_some hx_x95
 refine WO.ap 62 40 (cs_qRole z_qRole zw_qRole) hS94 ho85 ho88.sl (hS94.rd m1) h0_x95 he_x95 ?_
 intro a96 c97 w98 C99 hS100 ho101
 have hS103 := hS100.front1.drop
 refine ya 5 8 (Sl a96 x95 c97) (yz nL7 ?_)
 refine WO.vs 0 [(49, Sl a96 x95 c97), (50, Sl a_p0 p0 c_p0), (51, Iv s22)] ?_
 obtain ⟨x104, hx_x104, hr⟩ := bsm hr
 obtain ⟨h0_x104, h1_x104, h2_x104, he_x104⟩ := sub_some hx_x104
 have hl_x104 : ((p0.length : Int) : Int) ≤ (c_p0 : Int) := Int.le_trans h2_x104 (Int.ofNat_le.2 ((RSl.mono h_p0 ((((hl4.trans hl10).trans hl16).trans hl21).trans hl30))).le)
 refine WO.slice (e := 62) (sz := 2) rfl (by kernel_rfl) (by kernel_rfl) (by kernel_rfl) rfl (s22 : Int) ((p0.length : Int) : Int) h0_x104 (.inr ⟨_, _, rfl, rfl⟩) (.inl ⟨rfl, rfl⟩) h1_x104 hl_x104 ?_
 obtain ⟨a_x104, c_x104, h_x104, ev_x104⟩ := sub_ok ((RSl.mono h_p0 ((((hl4.trans hl10).trans hl16).trans hl21).trans hl30))) h0_x104 h1_x104 h2_x104 he_x104
 refine y7 52 rfl ev_x104 ?_
 obtain ⟨x105, hx_x105, hr⟩ := bsm hr
 obtain ⟨h0_x105, he_x105⟩ := app_some hx_x105
 refine WO.ap 62 40 (cs_qRole z_qRole zw_qRole) hS103 ho101 h_x104 hS103.im h0_x105 he_x105 ?_
 intro a106 c107 w108 C109 hS110 ho111
 obtain ⟨I112, hl113, hS115, hp114⟩ := y4 ho111 hS110
 refine WO.vs 5 [(4, Sl a106 x105 c107), (5, Iv 0)] (yb (W.ret ?_))
 obtain rfl := sj hr
 exact yaj ⟨I112, a106, c107, rfl, (((((hl4.trans hl10).trans hl16).trans hl21).trans hl30).trans hl113), hS115, hp114⟩
def r18_turned (p0 : List qRole) (p1 : Int) (p2 : List ByteArray) : Option (List qRole) := (app 40 ([] : List qRole) p0).bind (fun x3 => (idx x3 p1).bind (fun x10 => some (x3.set (p1).toNat ({ x10 with In := p2 }))))
theorem r18_turned_ok {p0 : List qRole} {p1 : Int} {p2 : List ByteArray} {a_p0 : Option Addr} {c_p0 : Nat} {a_p2 : Option Addr} {c_p2 : Nat} (h_p0 : RSl 2 R_qRole I a_p0 c_p0 p0) (h_p2 : RSl 1 RStr I a_p2 c_p2 p2) (hS : St E w I Os) {r : (List qRole)} (hr : r18_turned p0 p1 p2 = some r) :
    Calls P 115 #[(Sl a_p0 p0 c_p0), (Iv p1), (Sl a_p2 p2 c_p2)] w (fun e w' => ∃ (I' : Mem) (ra0 : Option Addr) (rc0 : Nat), e = .returned (Sl ra0 r rc0) ∧ I.Le I' ∧ St E w' I' Os ∧ RSl 2 R_qRole I' ra0 rc0 r) := by
 refine calls_W (fn := Tryz.f115) rfl rfl rfl ?_
 unfold r18_turned at hr
 refine yd [0] ?_
 refine ya 0 6 (.slice none 0 0) (yz [0] ?_)
 refine ya 0 7 (.slice none 0 0) (yz nL4 ?_)
 refine WO.vs 0 [(8, .slice none 0 0), (9, Sl a_p0 p0 c_p0)] ?_
 have hS2 := hS.no
 obtain ⟨x3, hx_x3, hr⟩ := bsm hr
 obtain ⟨h0_x3, he_x3⟩ := app_some hx_x3
 refine WO.append (e' := 62) (b := 40) (zs := (cs_qRole z_qRole zw_qRole).toArray) hS2 (OwnSl.nil (T := 62) (rel := R_qRole) (I := I)) rfl (by kernel_rfl) rfl (by kernel_rfl) (by kernel_rfl) (by kernel_rfl) rfl rfl rfl rfl h_p0 hS2.im h0_x3 he_x3 (fun _ _ _ => trivial) ?_
 intro a4 c5 w6 C7 hS8 ho9
 refine ya 3 7 (Sl a4 x3 c5) (yz nL6 ?_)
 refine WO.vs 0 [(11, Sl a4 x3 c5), (12, Iv p1), (13, Sl a_p2 p2 c_p2)] ?_
 obtain ⟨x10, hr, h0_x10, h1_x10, hx_x10, ha_x10, _, _, ⟨w_x10, rfl, h_x10⟩, hc_x10⟩ := sl_at (ho9.sl) hr
 refine yq 62 2 ha_x10 h0_x10 h1_x10 ?_
 refine ya 4 15 (.pointer (some ⟨bl a4, of a4 + (p1).toNat * 2 + 1, none⟩)) ?_
 have hk15 : ok_qRole I ({ x10 with In := p2 }) (⟨⟨a_p2, c_p2⟩⟩ : W_qRole) := ⟨h_p2⟩
 refine yan hS8 ho9 rfl (by kernel_rfl) rfl hx_x10 (u' := { x10 with In := p2 }) 1 rfl rfl (by kernel_rfl) rfl rfl (fun cs hrel => (by obtain ⟨w_zz, rfl, h_zz⟩ := hrel; exact ⟨{ w_zz with In := ⟨a_p2, c_p2⟩ }, rfl, { h_zz with In := h_p2 }⟩)) (fun _ _ _ => trivial) ?_
 intro w12 C13 hS11 ho14
 refine y7 7 rfl (show Value.slice a4 x3.length c5 = Value.slice a4 (x3.set (p1).toNat ({ x10 with In := p2 })).length c5 by simp only [List.length_set]) ?_
 refine yz nL2 ?_
 refine ya 0 16 (.slice a4 (x3.set (p1).toNat ({ x10 with In := p2 })).length c5) ?_
 obtain ⟨I16, hl17, hS19, hp18⟩ := y4 ho14 hS11
 refine ya 1 6 (.slice a4 (x3.set (p1).toNat ({ x10 with In := p2 })).length c5) (yb (W.ret ?_))
 obtain rfl := sj hr
 exact yr ⟨I16, a4, c5, rfl, hl17, hS19, hp18⟩
noncomputable def r18_Grant (p0 : List qRole) (p1 : ByteArray) (p2 : ByteArray) : Option ((List qRole) × Int) := (r18_Check p0).bind (fun r6 => (bif (r6 != 0) then some (([] : List qRole), r6) else (r18_At p0 p2).bind (fun r12 => ((bif (decide (r12 < 0)) then some true else (r18_At p0 p1).bind (fun r22 => some (decide (r22 < 0))))).bind (fun (j13 : Bool) => (bif j13 then some (([] : List qRole), 4) else (idx p0 r12).bind (fun x25 => (r14_Has x25.In p1).bind (fun r31 => (bif r31 then some (([] : List qRole), 19) else (r18_Is p0 p1 p2).bind (fun r37 => (bif r37 then some (([] : List qRole), 35) else (idx p0 r12).bind (fun x38 => (r18_into x38.In p1).bind (fun r44 => (r18_turned p0 r12 r44).bind (fun r50 => some (r50, 0))))))))))))))
theorem r18_Grant_ok {p0 : List qRole} {p1 : ByteArray} {p2 : ByteArray} {a_p0 : Option Addr} {c_p0 : Nat} (h_p0 : RSl 2 R_qRole I a_p0 c_p0 p0) (hS : St E w I Os) {r : (List qRole) × Int} (hr : r18_Grant p0 p1 p2 = some r) :
    Calls P 70 #[(Sl a_p0 p0 c_p0), (.string p1), (.string p2)] w (fun e w' => ∃ (I' : Mem) (ra0 : Option Addr) (rc0 : Nat), e = .returned (.tuple #[(Sl ra0 r.1 rc0), (Iv r.2)]) ∧ I.Le I' ∧ St E w' I' Os ∧ RSl 2 R_qRole I' ra0 rc0 r.1) := by
 refine calls_W (fn := Tryz.f70) rfl rfl rfl ?_
 unfold r18_Grant at hr
 refine yd nL2 ?_
 refine WO.vs 0 [(6, .slice none 0 0), (7, Iv 0)] (yz nL3 ?_)
 refine ya 0 10 (Sl a_p0 p0 c_p0) ?_
 obtain ⟨r6, hx_r1, hr⟩ := bsm hr
 refine y6 (r18_Check_ok h_p0 hS hx_r1) ?_
 intro I3 w2 hl4 hS5
 refine ya 2 8 (Iv r6) (yb (ye (yd nL2 ?_)))
 refine WO.vs 0 [(12, Iv r6), (13, .bool (r6 != 0))] (yb (W.cb hr (fun hc hr => ?_) (fun hc hr => ?_)))
 refine yd nL3 ?_
 refine WO.vs 0 [(14, Iv r6), (6, .slice none 0 0), (7, Iv r6)] (yb (W.ret (yc ?_)))
 obtain rfl := sj hr
 exact yaj ⟨I3, none, 0, rfl, hl4, hS5, SlAt.nil⟩
 refine yg (En.next (yd nL4 ?_))
 refine WO.vs 0 [(15, Sl a_p0 p0 c_p0), (16, .string p2)] ?_
 obtain ⟨r12, hx_r7, hr⟩ := bsm hr
 refine y6 (r18_At_ok (RSl.mono h_p0 hl4) hS5 hx_r7) ?_
 intro I9 w8 hl10 hS11
 refine ya 3 9 (Iv r12) (yb (ye (yd nL8 ?_)))
 refine WO.vs 0 [(18, Iv r12), (19, .bool (decide (r12 < 0))), (20, .bool (decide (r12 < 0)))] ?_
 obtain ⟨j13, hr1, hr⟩ := bsm hr
 refine WO.jw (l1 := [3, 4, 5, 6, 7]) (J := (fun fr w => ∃ I15, fr = [(0, Sl a_p0 p0 c_p0), (1, .string p1), (2, .string p2), (9, Iv r12), (25, .bool j13)] ∧ I9.Le I15 ∧ St E w I15 Os)) ?_ ?_
 refine WO.cb hr1 (fun hc hr1 => ?_) (fun hc hr1 => ?_)
 refine yj 20 hc ?_
 iterate 4 refine yt ?_
 refine ya 7 25 (.bool true) ?_
 obtain rfl := sj hr1
 exact yv ⟨I9, rfl, lr, hS11⟩
 refine yj 20 hc (WO.vs 3 [(21, Sl a_p0 p0 c_p0), (22, .string p1)] ?_)
 obtain ⟨r22, hx_r17, hr1⟩ := bsm hr1
 refine y6 (r18_At_ok (RSl.mono h_p0 (hl4.trans hl10)) hS11 hx_r17) ?_
 intro I19 w18 hl20 hS21
 refine WO.vs 6 [(24, .bool (decide (r22 < 0))), (25, .bool (decide (r22 < 0)))] ?_
 obtain rfl := sj hr1
 exact yv ⟨I19, rfl, hl20, hS21⟩
 rintro _ w23 ⟨I15, rfl, hl16, hS24⟩
 refine yb (W.cb hr (fun hc hr => ?_) (fun hc hr => ?_))
 refine yd nL2 ?_
 refine WO.vs 0 [(6, .slice none 0 0), (7, Iv 4)] (yb (W.ret (yc ?_)))
 obtain rfl := sj hr
 exact yaj ⟨I15, none, 0, rfl, ((hl4.trans hl10).trans hl16), hS24, SlAt.nil⟩
 refine yg (En.next (ye (yd nL7 ?_)))
 refine WO.vs 0 [(26, Sl a_p0 p0 c_p0), (27, Iv r12)] ?_
 obtain ⟨x25, hr, h0_x25, h1_x25, hx_x25, ha_x25, _, _, ⟨w_x25, rfl, h_x25⟩, hc_x25⟩ := sl_at ((RSl.mono h_p0 ((hl4.trans hl10).trans hl16))) hr
 refine yq 62 2 ha_x25 h0_x25 h1_x25 ?_
 refine ya 3 29 (.pointer (some ⟨bl a_p0, of a_p0 + (r12).toNat * 2 + 1, none⟩)) (WO.le (v := (Sl w_x25.In.a x25.In w_x25.In.c)) hc_x25 1 hS24.rm ?_)
 refine ya 5 31 (.string p1) ?_
 obtain ⟨r31, hx_r26, hr⟩ := bsm hr
 refine y6 (r14_Has_ok h_x25.In hS24 hx_r26) ?_
 intro I28 w27 hl29 hS30
 refine yb (W.cb hr (fun hc hr => ?_) (fun hc hr => ?_))
 refine yd nL2 ?_
 refine WO.vs 0 [(6, .slice none 0 0), (7, Iv 19)] (yb (W.ret (yc ?_)))
 obtain rfl := sj hr
 exact yaj ⟨I28, none, 0, rfl, (((hl4.trans hl10).trans hl16).trans hl29), hS30, SlAt.nil⟩
 refine yg (En.next (ye (yd nL4 ?_)))
 refine WO.vs 0 [(33, Sl a_p0 p0 c_p0), (34, .string p1), (35, .string p2)] ?_
 obtain ⟨r37, hx_r32, hr⟩ := bsm hr
 refine y6 (r18_Is_ok (RSl.mono h_p0 (((hl4.trans hl10).trans hl16).trans hl29)) hS30 hx_r32) ?_
 intro I34 w33 hl35 hS36
 refine yb (W.cb hr (fun hc hr => ?_) (fun hc hr => ?_))
 refine yd nL2 ?_
 refine WO.vs 0 [(6, .slice none 0 0), (7, Iv 35)] (yb (W.ret (yc ?_)))
 obtain rfl := sj hr
 exact yaj ⟨I34, none, 0, rfl, ((((hl4.trans hl10).trans hl16).trans hl29).trans hl35), hS36, SlAt.nil⟩
 refine yg (En.next (yd nL12 ?_))
 refine WO.vs 0 [(37, Sl a_p0 p0 c_p0), (38, Iv r12), (39, Sl a_p0 p0 c_p0), (40, Iv r12)] ?_
 obtain ⟨x38, hr, h0_x38, h1_x38, hx_x38, ha_x38, _, _, ⟨w_x38, rfl, h_x38⟩, hc_x38⟩ := sl_at ((RSl.mono h_p0 ((((hl4.trans hl10).trans hl16).trans hl29).trans hl35))) hr
 refine yq 62 2 ha_x38 h0_x38 h1_x38 ?_
 refine ya 5 42 (.pointer (some ⟨bl a_p0, of a_p0 + (r12).toNat * 2 + 1, none⟩)) (WO.le (v := (Sl w_x38.In.a x38.In w_x38.In.c)) hc_x38 1 hS36.rm ?_)
 refine ya 7 44 (.string p1) ?_
 obtain ⟨r44, hx_r39, hr⟩ := bsm hr
 refine y8 (r18_into_ok h_x38.In hS36 hx_r39) ?_
 rintro _ w40 ⟨I41, a_r44, c_r44, rfl, hl42, hS43, h_r44⟩
 refine ⟨_, rfl, trivial, ?_⟩
 obtain ⟨r50, hx_r45, hr⟩ := bsm hr
 refine y8 (r18_turned_ok (RSl.mono h_p0 (((((hl4.trans hl10).trans hl16).trans hl29).trans hl35).trans hl42)) h_r44 hS43 hx_r45) ?_
 rintro _ w46 ⟨I47, a_r50, c_r50, rfl, hl48, hS49, h_r50⟩
 refine ⟨_, rfl, trivial, ?_⟩
 refine WO.vs 10 [(6, Sl a_r50 r50 c_r50), (7, Iv 0)] (yb (W.ret ?_))
 obtain rfl := sj hr
 exact yaj ⟨I47, a_r50, c_r50, rfl, ((((((hl4.trans hl10).trans hl16).trans hl29).trans hl35).trans hl42).trans hl48), hS49, h_r50⟩
def r18_without (p0 : List ByteArray) (p1 : ByteArray) : Option (List ByteArray) := (forE (fun (i5 : Nat) => fun (s4 : List ByteArray) => (idx p0 (i5 : Int)).bind (fun x14 => ((bif (!sEq x14 p1) then (idx p0 (i5 : Int)).bind (fun x19 => (app 16 s4 ([x19] : List ByteArray)).bind (fun x28 => some x28)) else some s4)).bind (fun (j15 : List ByteArray) => some j15))) p0.length 0 ([] : List ByteArray)).bind (fun s4 => some s4)
theorem r18_without_ok {p0 : List ByteArray} {p1 : ByteArray} {a_p0 : Option Addr} {c_p0 : Nat} (h_p0 : RSl 1 RStr I a_p0 c_p0 p0) (hS : St E w I Os) {r : (List ByteArray)} (hr : r18_without p0 p1 = some r) :
    Calls P 116 #[(Sl a_p0 p0 c_p0), (.string p1)] w (fun e w' => ∃ (I' : Mem) (ra0 : Option Addr) (rc0 : Nat), e = .returned (Sl ra0 r rc0) ∧ I.Le I' ∧ St E w' I' Os ∧ RSl 1 RStr I' ra0 rc0 r) := by
 refine calls_W (fn := Tryz.f116) rfl rfl rfl ?_
 unfold r18_without at hr
 refine yd [0] ?_
 refine ya 0 4 (.slice none 0 0) (yz [0] ?_)
 refine ya 0 5 (.slice none 0 0) (yb (ye (yd [0] ?_)))
 refine ya 0 6 (Iv 0) (yb (W.block ?_))
 obtain ⟨s4, hloop6, hr⟩ := bsm hr
 have hlt12 := (h_p0).len_lt
 refine W.wk (W.forE (m := p0.length) hloop6 (fun (i5 : Nat) => fun (s4 : List ByteArray) fr w => ∃ I2 a_s4 c_s4 C_s4, fr = [(0, Sl a_p0 p0 c_p0), (1, .string p1), (5, Sl a_s4 s4 c_s4), (6, Nv i5)] ∧ I.Le I2 ∧ St E w I2 ((C_s4) :: Os) ∧ OwnSl 9 1 RStr I2 C_s4 a_s4 c_s4 s4) ⟨I, none, 0, Mem.no, rfl, lr, hS.no, OwnSl.nil⟩ ?_ ?_)
 rintro i5 s4 _ w9 hi13 ⟨I2, a_s4, c_s4, C_s4, rfl, hl3, hS10, h_s4⟩ x11 hr1
 refine ye (yd nL4 ?_)
 refine WO.vs 0 [(7, Nv i5), (8, Sl a_p0 p0 c_p0), (9, Nv p0.length), (10, .bool (decide ((i5 : Int) < (p0.length : Int))))] (yb (yag (fun hc => ?_)))
 clear hc
 refine yg (En.next (ye (W.block (yd nL6 ?_))))
 refine WO.vs 0 [(13, Sl a_p0 p0 c_p0), (14, Nv i5)] ?_
 obtain ⟨x14, hr1, h0_x14, h1_x14, hx_x14, ha_x14, _, _, rfl, hc_x14⟩ := sl_at ((RSl.mono h_p0 hl3)) hr1
 refine yq 9 1 ha_x14 h0_x14 h1_x14 ?_
 refine yae (v := (.string x14)) hc_x14 hS10.rm ?_
 refine WO.vs 4 [(17, .string p1), (18, .bool (!sEq x14 p1))] (yb ?_)
 obtain ⟨j15, hr2, hr1⟩ := bsm hr1
 refine W.jw (J := (fun fr w => ∃ I17 a_j15 c_j15 C_j15, fr = [(0, Sl a_p0 p0 c_p0), (1, .string p1), (5, Sl a_j15 j15 c_j15), (6, Nv i5)] ∧ I2.Le I17 ∧ St E w I17 ((C_j15) :: Os) ∧ OwnSl 9 1 RStr I17 C_j15 a_j15 c_j15 j15)) ?_ ?_
 refine W.cb hr2 (fun hc hr2 => ?_) (fun hc hr2 => ?_)
 refine yaa nL8 ?_
 refine WO.vs 0 [(19, Sl a_s4 s4 c_s4), (20, Sl a_p0 p0 c_p0), (21, Nv i5)] ?_
 obtain ⟨x19, hr2, h0_x19, h1_x19, hx_x19, ha_x19, _, _, rfl, hc_x19⟩ := sl_at ((RSl.mono h_p0 hl3)) hr2
 refine yq 9 1 ha_x19 h0_x19 h1_x19 ?_
 refine yae (v := (.string x19)) hc_x19 hS10.rm ?_
 refine y3 (rel := RStr) (xs := ([x19] : List ByteArray)) hS10 rfl (by kernel_rfl) rfl 9 1 [[(.string x19)]] (by kernel_rfl) rfl ((Elr.cons rfl Elr.nil)) (fun _ _ _ => trivial) ?_
 intro a23 C21 w25 hS24 ho22
 have hS27 := hS24.front1
 obtain ⟨x28, hx_x28, hr2⟩ := bsm hr2
 obtain ⟨h0_x28, he_x28⟩ := app_some hx_x28
 refine WO.ap 9 16 [(.string (⟨#[]⟩ : ByteArray))] hS27 h_s4 ho22.sl (hS27.rd m1) h0_x28 he_x28 ?_
 intro a29 c30 w31 C32 hS33 ho34
 refine ya 7 5 (Sl a29 x28 c30) (WO.nil ?_)
 obtain rfl := sj hr2
 exact yo ⟨I2, a29, c30, C32, rfl, lr, hS33.front1.drop, ho34⟩
 refine yg ?_
 obtain rfl := sj hr2
 exact yo ⟨I2, a_s4, c_s4, C_s4, rfl, lr, hS10, h_s4⟩
 rintro _ w37 ⟨I17, a_j15, c_j15, C_j15, rfl, hl18, hS38, h_j15⟩
 refine yi (En.next (yaa nL3 ?_))
 refine ya 0 11 (Nv i5) (y0 (j := i5) rfl (by kernel_rfl) rfl (by first | omega | (dsimp only at *; omega) | (simp only [List.length_cons, List.length_nil] at *; omega)) ?_)
 refine ya 2 6 (Iv ((i5 + 1 : Nat) : Int)) (WO.nil ?_)
 obtain rfl := sj hr1
 exact yo ⟨I17, a_j15, c_j15, C_j15, rfl, (hl3.trans hl18), hS38, h_j15⟩
 rintro _ w39 ⟨I2, a_s4, c_s4, C_s4, rfl, hl3, hS40, h_s4⟩
 refine ye (yd nL4 ?_)
 refine WO.vs 0 [(7, Nv p0.length), (8, Sl a_p0 p0 c_p0), (9, Nv p0.length), (10, .bool (decide ((p0.length : Int) < (p0.length : Int))))] (yb (yah (fun hc => ?_)))
 clear hc
 refine yy (yk (yl (yn (En.next (yd nL2 ?_)))))
 refine ya 0 26 (Sl a_s4 s4 c_s4) ?_
 obtain ⟨I41, hl42, hS44, hp43⟩ := y4 h_s4 hS40
 refine ya 1 4 (Sl a_s4 s4 c_s4) (yb (W.ret ?_))
 obtain rfl := sj hr
 exact yr ⟨I41, a_s4, c_s4, rfl, (hl3.trans hl42), hS44, hp43⟩
noncomputable def r18_Revoke (p0 : List qRole) (p1 : ByteArray) (p2 : ByteArray) : Option ((List qRole) × Int) := (r18_Check p0).bind (fun r6 => (bif (r6 != 0) then some (([] : List qRole), r6) else (r18_At p0 p2).bind (fun r12 => ((bif (decide (r12 < 0)) then some true else (idx p0 r12).bind (fun x17 => (r14_Has x17.In p1).bind (fun r23 => some (!r23))))).bind (fun (j13 : Bool) => (bif j13 then some (([] : List qRole), 4) else (idx p0 r12).bind (fun x26 => (r18_without x26.In p1).bind (fun r32 => (r18_turned p0 r12 r32).bind (fun r38 => some (r38, 0)))))))))
theorem r18_Revoke_ok {p0 : List qRole} {p1 : ByteArray} {p2 : ByteArray} {a_p0 : Option Addr} {c_p0 : Nat} (h_p0 : RSl 2 R_qRole I a_p0 c_p0 p0) (hS : St E w I Os) {r : (List qRole) × Int} (hr : r18_Revoke p0 p1 p2 = some r) :
    Calls P 71 #[(Sl a_p0 p0 c_p0), (.string p1), (.string p2)] w (fun e w' => ∃ (I' : Mem) (ra0 : Option Addr) (rc0 : Nat), e = .returned (.tuple #[(Sl ra0 r.1 rc0), (Iv r.2)]) ∧ I.Le I' ∧ St E w' I' Os ∧ RSl 2 R_qRole I' ra0 rc0 r.1) := by
 refine calls_W (fn := Tryz.f71) rfl rfl rfl ?_
 unfold r18_Revoke at hr
 refine yd nL2 ?_
 refine WO.vs 0 [(6, .slice none 0 0), (7, Iv 0)] (yz nL3 ?_)
 refine ya 0 10 (Sl a_p0 p0 c_p0) ?_
 obtain ⟨r6, hx_r1, hr⟩ := bsm hr
 refine y6 (r18_Check_ok h_p0 hS hx_r1) ?_
 intro I3 w2 hl4 hS5
 refine ya 2 8 (Iv r6) (yb (ye (yd nL2 ?_)))
 refine WO.vs 0 [(12, Iv r6), (13, .bool (r6 != 0))] (yb (W.cb hr (fun hc hr => ?_) (fun hc hr => ?_)))
 refine yd nL3 ?_
 refine WO.vs 0 [(14, Iv r6), (6, .slice none 0 0), (7, Iv r6)] (yb (W.ret (yc ?_)))
 obtain rfl := sj hr
 exact yaj ⟨I3, none, 0, rfl, hl4, hS5, SlAt.nil⟩
 refine yg (En.next (yd nL4 ?_))
 refine WO.vs 0 [(15, Sl a_p0 p0 c_p0), (16, .string p2)] ?_
 obtain ⟨r12, hx_r7, hr⟩ := bsm hr
 refine y6 (r18_At_ok (RSl.mono h_p0 hl4) hS5 hx_r7) ?_
 intro I9 w8 hl10 hS11
 refine ya 3 9 (Iv r12) (yb (ye (yd nL12 ?_)))
 refine WO.vs 0 [(18, Iv r12), (19, .bool (decide (r12 < 0))), (20, .bool (decide (r12 < 0)))] ?_
 obtain ⟨j13, hr1, hr⟩ := bsm hr
 refine WO.jw (l1 := [3, 4, 5, 6, 7, 8, 9, 10, 11]) (J := (fun fr w => ∃ I15, fr = [(0, Sl a_p0 p0 c_p0), (1, .string p1), (9, Iv r12), (29, .bool j13)] ∧ I9.Le I15 ∧ St E w I15 Os)) ?_ ?_
 refine WO.cb hr1 (fun hc hr1 => ?_) (fun hc hr1 => ?_)
 refine yj 20 hc ?_
 iterate 8 refine yt ?_
 refine ya 11 29 (.bool true) ?_
 obtain rfl := sj hr1
 exact yv ⟨I9, rfl, lr, hS11⟩
 refine yj 20 hc (WO.vs 3 [(21, Sl a_p0 p0 c_p0), (22, Iv r12)] ?_)
 obtain ⟨x17, hr1, h0_x17, h1_x17, hx_x17, ha_x17, _, _, ⟨w_x17, rfl, h_x17⟩, hc_x17⟩ := sl_at ((RSl.mono h_p0 (hl4.trans hl10))) hr1
 refine yq 62 2 ha_x17 h0_x17 h1_x17 ?_
 refine ya 6 24 (.pointer (some ⟨bl a_p0, of a_p0 + (r12).toNat * 2 + 1, none⟩)) (WO.le (v := (Sl w_x17.In.a x17.In w_x17.In.c)) hc_x17 1 hS11.rm ?_)
 refine ya 8 26 (.string p1) ?_
 obtain ⟨r23, hx_r18, hr1⟩ := bsm hr1
 refine y6 (r14_Has_ok h_x17.In hS11 hx_r18) ?_
 intro I20 w19 hl21 hS22
 refine WO.vs 10 [(28, .bool (!r23)), (29, .bool (!r23))] ?_
 obtain rfl := sj hr1
 exact yv ⟨I20, rfl, hl21, hS22⟩
 rintro _ w24 ⟨I15, rfl, hl16, hS25⟩
 refine yb (W.cb hr (fun hc hr => ?_) (fun hc hr => ?_))
 refine yd nL2 ?_
 refine WO.vs 0 [(6, .slice none 0 0), (7, Iv 4)] (yb (W.ret (yc ?_)))
 obtain rfl := sj hr
 exact yaj ⟨I15, none, 0, rfl, ((hl4.trans hl10).trans hl16), hS25, SlAt.nil⟩
 refine yg (En.next (yd nL12 ?_))
 refine WO.vs 0 [(30, Sl a_p0 p0 c_p0), (31, Iv r12), (32, Sl a_p0 p0 c_p0), (33, Iv r12)] ?_
 obtain ⟨x26, hr, h0_x26, h1_x26, hx_x26, ha_x26, _, _, ⟨w_x26, rfl, h_x26⟩, hc_x26⟩ := sl_at ((RSl.mono h_p0 ((hl4.trans hl10).trans hl16))) hr
 refine yq 62 2 ha_x26 h0_x26 h1_x26 ?_
 refine ya 5 35 (.pointer (some ⟨bl a_p0, of a_p0 + (r12).toNat * 2 + 1, none⟩)) (WO.le (v := (Sl w_x26.In.a x26.In w_x26.In.c)) hc_x26 1 hS25.rm ?_)
 refine ya 7 37 (.string p1) ?_
 obtain ⟨r32, hx_r27, hr⟩ := bsm hr
 refine y8 (r18_without_ok h_x26.In hS25 hx_r27) ?_
 rintro _ w28 ⟨I29, a_r32, c_r32, rfl, hl30, hS31, h_r32⟩
 refine ⟨_, rfl, trivial, ?_⟩
 obtain ⟨r38, hx_r33, hr⟩ := bsm hr
 refine y8 (r18_turned_ok (RSl.mono h_p0 (((hl4.trans hl10).trans hl16).trans hl30)) h_r32 hS31 hx_r33) ?_
 rintro _ w34 ⟨I35, a_r38, c_r38, rfl, hl36, hS37, h_r38⟩
 refine ⟨_, rfl, trivial, ?_⟩
 refine WO.vs 10 [(6, Sl a_r38 r38 c_r38), (7, Iv 0)] (yb (W.ret ?_))
 obtain rfl := sj hr
 exact yaj ⟨I35, a_r38, c_r38, rfl, ((((hl4.trans hl10).trans hl16).trans hl30).trans hl36), hS37, h_r38⟩
noncomputable def r18_Drop (p0 : List qRole) (p1 : ByteArray) : Option ((List qRole) × Int) := (r18_Check p0).bind (fun r6 => (bif (r6 != 0) then some (([] : List qRole), r6) else (r18_At p0 p1).bind (fun r12 => (bif (decide (r12 < 0)) then some (([] : List qRole), 4) else (bif (sEq p1 (⟨#[114, 111, 111, 116]⟩ : ByteArray)) then some (([] : List qRole), 34) else (forE (fun (i17 : Nat) => fun (s16 : List qRole) => (idx p0 (i17 : Int)).bind (fun x26 => ((bif (!sEq x26.Name p1) then (idx p0 (i17 : Int)).bind (fun x33 => (idx p0 (i17 : Int)).bind (fun x34 => (r18_without x34.In p1).bind (fun r40 => (app 40 s16 ([{ x33 with In := r40 }] : List qRole)).bind (fun x50 => some x50)))) else some s16)).bind (fun (j27 : List qRole) => some j27))) p0.length 0 ([] : List qRole)).bind (fun s16 => some (s16, 0)))))))
theorem r18_Drop_ok {p0 : List qRole} {p1 : ByteArray} {a_p0 : Option Addr} {c_p0 : Nat} (h_p0 : RSl 2 R_qRole I a_p0 c_p0 p0) (hS : St E w I Os) {r : (List qRole) × Int} (hr : r18_Drop p0 p1 = some r) :
    Calls P 72 #[(Sl a_p0 p0 c_p0), (.string p1)] w (fun e w' => ∃ (I' : Mem) (ra0 : Option Addr) (rc0 : Nat), e = .returned (.tuple #[(Sl ra0 r.1 rc0), (Iv r.2)]) ∧ I.Le I' ∧ St E w' I' Os ∧ RSl 2 R_qRole I' ra0 rc0 r.1) := by
 refine calls_W (fn := Tryz.f72) rfl rfl rfl ?_
 unfold r18_Drop at hr
 refine yd nL2 ?_
 refine WO.vs 0 [(4, .slice none 0 0), (5, Iv 0)] (yz nL3 ?_)
 refine ya 0 9 (Sl a_p0 p0 c_p0) ?_
 obtain ⟨r6, hx_r1, hr⟩ := bsm hr
 refine y6 (r18_Check_ok h_p0 hS hx_r1) ?_
 intro I3 w2 hl4 hS5
 refine ya 2 6 (Iv r6) (yb (ye (yd nL2 ?_)))
 refine WO.vs 0 [(11, Iv r6), (12, .bool (r6 != 0))] (yb (W.cb hr (fun hc hr => ?_) (fun hc hr => ?_)))
 refine yd nL3 ?_
 refine WO.vs 0 [(13, Iv r6), (4, .slice none 0 0), (5, Iv r6)] (yb (W.ret (yc ?_)))
 obtain rfl := sj hr
 exact yaj ⟨I3, none, 0, rfl, hl4, hS5, SlAt.nil⟩
 refine yg (En.next (ye (yd nL4 ?_)))
 refine WO.vs 0 [(14, Sl a_p0 p0 c_p0), (15, .string p1)] ?_
 obtain ⟨r12, hx_r7, hr⟩ := bsm hr
 refine y6 (r18_At_ok (RSl.mono h_p0 hl4) hS5 hx_r7) ?_
 intro I9 w8 hl10 hS11
 refine ya 3 17 (.bool (decide (r12 < 0))) (yb (W.cb hr (fun hc hr => ?_) (fun hc hr => ?_)))
 refine yd nL2 ?_
 refine WO.vs 0 [(4, .slice none 0 0), (5, Iv 4)] (yb (W.ret (yc ?_)))
 obtain rfl := sj hr
 exact yaj ⟨I9, none, 0, rfl, (hl4.trans hl10), hS11, SlAt.nil⟩
 refine yg (En.next (ye (yd nL2 ?_)))
 refine WO.vs 0 [(18, .string p1), (19, .bool (sEq p1 (⟨#[114, 111, 111, 116]⟩ : ByteArray)))] (yb (W.cb hr (fun hc hr => ?_) (fun hc hr => ?_)))
 refine yd nL2 ?_
 refine WO.vs 0 [(4, .slice none 0 0), (5, Iv 34)] (yb (W.ret (yc ?_)))
 obtain rfl := sj hr
 exact yaj ⟨I9, none, 0, rfl, (hl4.trans hl10), hS11, SlAt.nil⟩
 refine yg (En.next (yd [0] ?_))
 refine ya 0 7 (.slice none 0 0) (yb (ye (yd [0] ?_)))
 refine ya 0 8 (Iv 0) (yb (W.block ?_))
 obtain ⟨s16, hloop18, hr⟩ := bsm hr
 have hlt24 := ((RSl.mono h_p0 (hl4.trans hl10))).len_lt
 refine W.wk (W.forE (m := p0.length) hloop18 (fun (i17 : Nat) => fun (s16 : List qRole) fr w => ∃ I14 a_s16 c_s16 C_s16, fr = [(0, Sl a_p0 p0 c_p0), (1, .string p1), (7, Sl a_s16 s16 c_s16), (8, Nv i17)] ∧ I9.Le I14 ∧ St E w I14 ((C_s16) :: Os) ∧ OwnSl 62 2 R_qRole I14 C_s16 a_s16 c_s16 s16) ⟨I9, none, 0, Mem.no, rfl, lr, hS11.no, OwnSl.nil⟩ ?_ ?_)
 rintro i17 s16 _ w21 hi25 ⟨I14, a_s16, c_s16, C_s16, rfl, hl15, hS22, h_s16⟩ x23 hr1
 refine ye (yd nL4 ?_)
 refine WO.vs 0 [(20, Nv i17), (21, Sl a_p0 p0 c_p0), (22, Nv p0.length), (23, .bool (decide ((i17 : Int) < (p0.length : Int))))] (yb (yag (fun hc => ?_)))
 clear hc
 refine yg (En.next (ye (W.block (yd nL7 ?_))))
 refine WO.vs 0 [(26, Sl a_p0 p0 c_p0), (27, Nv i17)] ?_
 obtain ⟨x26, hr1, h0_x26, h1_x26, hx_x26, ha_x26, _, _, ⟨w_x26, rfl, h_x26⟩, hc_x26⟩ := sl_at ((RSl.mono h_p0 ((hl4.trans hl10).trans hl15))) hr1
 refine yq 62 2 ha_x26 h0_x26 h1_x26 ?_
 refine ya 3 29 (.pointer (some ⟨bl a_p0, of a_p0 + ((i17 : Int)).toNat * 2, none⟩)) (yae (v := (.string x26.Name)) hc_x26 hS22.rm ?_)
 refine WO.vs 5 [(31, .string p1), (32, .bool (!sEq x26.Name p1))] (yb ?_)
 obtain ⟨j27, hr2, hr1⟩ := bsm hr1
 refine W.jw (J := (fun fr w => ∃ I29 a_j27 c_j27 C_j27, fr = [(0, Sl a_p0 p0 c_p0), (1, .string p1), (7, Sl a_j27 j27 c_j27), (8, Nv i17)] ∧ I14.Le I29 ∧ St E w I29 ((C_j27) :: Os) ∧ OwnSl 62 2 R_qRole I29 C_j27 a_j27 c_j27 j27)) ?_ ?_
 refine W.cb hr2 (fun hc hr2 => ?_) (fun hc hr2 => ?_)
 have hS31 := hS22.drew
 refine yao nL17 13 (KR.nil hS31.im) ?_
 generalize World.drew _ = w32 at *
 refine WO.vs 0 [(33, Sl a_s16 s16 c_s16), (34, Sl a_p0 p0 c_p0), (35, Nv i17)] ?_
 obtain ⟨x33, hr2, h0_x33, h1_x33, hx_x33, ha_x33, _, _, ⟨w_x33, rfl, h_x33⟩, hc_x33⟩ := sl_at ((RSl.mono h_p0 ((hl4.trans hl10).trans hl15))) hr2
 refine yq 62 2 ha_x33 h0_x33 h1_x33 ?_
 refine ya 4 37 (.pointer (some ⟨bl a_p0, of a_p0 + ((i17 : Int)).toNat * 2, none⟩)) (yae (v := (.string x33.Name)) hc_x33 (rd_i hS31.im) ?_)
 refine WO.vs 6 [(39, Sl a_p0 p0 c_p0), (40, Nv i17)] ?_
 obtain ⟨x34, hr2, h0_x34, h1_x34, hx_x34, ha_x34, _, _, ⟨w_x34, rfl, h_x34⟩, hc_x34⟩ := sl_at ((RSl.mono h_p0 ((hl4.trans hl10).trans hl15))) hr2
 refine yq 62 2 ha_x34 h0_x34 h1_x34 ?_
 refine ya 9 42 (.pointer (some ⟨bl a_p0, of a_p0 + ((i17 : Int)).toNat * 2 + 1, none⟩)) (WO.le (v := (Sl w_x34.In.a x34.In w_x34.In.c)) hc_x34 1 (rd_i hS31.im) ?_)
 refine ya 11 44 (.string p1) ?_
 obtain ⟨r40, hx_r35, hr2⟩ := bsm hr2
 refine y8 (r18_without_ok h_x34.In hS31 hx_r35) ?_
 rintro _ w36 ⟨I37, a_r40, c_r40, rfl, hl38, hS39, h_r40⟩
 refine ⟨_, rfl, (KR.nil (hS39.im.of_le hl38)), ?_⟩
 refine WO.tail rfl ?_
 refine ya 13 46 (.agg (cs_qRole ({ x33 with In := r40 }) (⟨⟨a_r40, c_r40⟩⟩ : W_qRole)).toArray) ?_
 have hk48 : ok_qRole I37 ({ x33 with In := r40 }) (⟨⟨a_r40, c_r40⟩⟩ : W_qRole) := ⟨h_r40⟩
 refine y3 (rel := R_qRole) (xs := ([{ x33 with In := r40 }] : List qRole)) hS39 rfl (by kernel_rfl) rfl 62 2 [(cs_qRole ({ x33 with In := r40 }) (⟨⟨a_r40, c_r40⟩⟩ : W_qRole))] (by kernel_rfl) rfl ((Elr.cons ⟨(⟨⟨a_r40, c_r40⟩⟩ : W_qRole), rfl, hk48⟩ Elr.nil)) (fun _ _ _ => trivial) ?_
 intro a44 C42 w46 hS45 ho43
 have hS49 := hS45.front1
 obtain ⟨x50, hx_x50, hr2⟩ := bsm hr2
 obtain ⟨h0_x50, he_x50⟩ := app_some hx_x50
 refine WO.ap 62 40 (cs_qRole z_qRole zw_qRole) hS49 (OwnSl.mono h_s16 hl38) ho43.sl (hS49.rd m1) h0_x50 he_x50 ?_
 intro a51 c52 w53 C54 hS55 ho56
 refine ya 16 7 (Sl a51 x50 c52) (WO.nil ?_)
 obtain rfl := sj hr2
 exact yo ⟨I37, a51, c52, C54, rfl, hl38, hS55.front1.drop, ho56⟩
 refine yg ?_
 obtain rfl := sj hr2
 exact yo ⟨I14, a_s16, c_s16, C_s16, rfl, lr, hS22, h_s16⟩
 rintro _ w59 ⟨I29, a_j27, c_j27, C_j27, rfl, hl30, hS60, h_j27⟩
 refine yi (En.next (yaa nL3 ?_))
 refine ya 0 24 (Nv i17) (y0 (j := i17) rfl (by kernel_rfl) rfl (by first | omega | (dsimp only at *; omega) | (simp only [List.length_cons, List.length_nil] at *; omega)) ?_)
 refine ya 2 8 (Iv ((i17 + 1 : Nat) : Int)) (WO.nil ?_)
 obtain rfl := sj hr1
 exact yo ⟨I29, a_j27, c_j27, C_j27, rfl, (hl15.trans hl30), hS60, h_j27⟩
 rintro _ w61 ⟨I14, a_s16, c_s16, C_s16, rfl, hl15, hS62, h_s16⟩
 refine ye (yd nL4 ?_)
 refine WO.vs 0 [(20, Nv p0.length), (21, Sl a_p0 p0 c_p0), (22, Nv p0.length), (23, .bool (decide ((p0.length : Int) < (p0.length : Int))))] (yb (yah (fun hc => ?_)))
 clear hc
 refine yy (yk (yl (yn (En.next (yd nL3 ?_)))))
 refine ya 0 49 (Sl a_s16 s16 c_s16) ?_
 obtain ⟨I63, hl64, hS66, hp65⟩ := y4 h_s16 hS62
 refine WO.vs 1 [(4, Sl a_s16 s16 c_s16), (5, Iv 0)] (yb (W.ret ?_))
 obtain rfl := sj hr
 exact yaj ⟨I63, a_s16, c_s16, rfl, (((hl4.trans hl10).trans hl15).trans hl64), hS66, hp65⟩
end Go.Proofs.YtdmapcjbbbifbaaGreat
