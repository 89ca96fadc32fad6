/- What functions of the program come to, each by a plain one. Conditions: none. -/
import Derived.Test.YtpgmbifboopfmaaGreatProg
import Derived.Test.YtpgmbifboopfmaaGreatShelf
set_option maxRecDepth 100000
namespace Go.Proofs.YtpgmbifboopfmaaGreat
open Go.Gv
set_option maxHeartbeats 1000000
variable {E w : World} {I : Mem} {Os : List Mem}
noncomputable abbrev P := Tryz.prog
structure qV where
  Kind : Int
  N : Int
  S : By8
def cs_qV (x : qV) : List Value := [.int .i64 x.Kind, .int .i64 x.N, .string x.S]
abbrev vV (x : qV) : Value := .agg (cs_qV x).toArray
def R_qV (I : Mem) (cs : List Value) (x : qV) : Prop := cs = cs_qV x
instance : Mono R_qV := ⟨fun hl h => (by obtain rfl := h; exact rfl), fun h c hv => (by obtain rfl := h; exact (by simp only [cs_qV, List.mem_cons, List.not_mem_nil, or_false] at hv; rcases hv with rfl | rfl | rfl <;> first | rfl | rfl))⟩
def z_qV : qV := ⟨0, 0, eB⟩
structure qE where
  Kind : Int
  Op : Int
  V : qV
  Name : By8
  Kids : List qE
structure W_qE where
  Kids : SW
def cs_qE (x : qE) (v : W_qE) : List Value := [.int .i64 x.Kind, .int .i64 x.Op, .int .i64 x.V.Kind, .int .i64 x.V.N, .string x.V.S, .string x.Name, .slice v.Kids.a x.Kids.length v.Kids.c]
abbrev vE (x : qE) (v : W_qE) : Value := .agg (cs_qE x v).toArray
abbrev bE (bb : Nat) (x : qE) (v : W_qE) : Mem := Bx bb (cs_qE x v) 41
structure okF_qE (R : Mem → List Value → qE → Prop) (I : Mem) (x : qE) (v : W_qE) : Prop where
  Kids : RSl 7 R I v.Kids.a v.Kids.c x.Kids
theorem okF_qE.mono {R : Mem → List Value → qE → Prop} [Mono R] {I J : Mem} {x : qE} {v : W_qE} (h : okF_qE R I x v) (hl : I.Le J) : okF_qE R J x v := ⟨RSl.mono h.Kids hl⟩
theorem okF_qE.map {R S : Mem → List Value → qE → Prop} (hm : ∀ I cs x, R I cs x → S I cs x) {I : Mem} {x : qE} {v : W_qE} (h : okF_qE R I x v) : okF_qE S I x v := ⟨SlAt.map (hm I) h.Kids⟩
def RF_qE : Nat → Mem → List Value → qE → Prop
  | 0, _, _, _ => False
  | k + 1, I, cs, x => ∃ v : W_qE, cs = cs_qE x v ∧ okF_qE (RF_qE k) I x v
def Q_qE (I : Mem) (cs : List Value) (x : qE) : Prop := ∃ k, RF_qE k I cs x
abbrev ok_qE (I : Mem) (x : qE) (v : W_qE) : Prop := okF_qE Q_qE I x v
theorem RF_qE_up : ∀ (k : Nat) (I : Mem) (cs : List Value) (x : qE), RF_qE k I cs x → RF_qE (k + 1) I cs x
  | 0, _, _, _, h => h.elim
  | k + 1, I, cs, x, ⟨v, e, h⟩ => ⟨v, e, h.map (RF_qE_up k)⟩
theorem Q_qE_iff {I : Mem} {cs : List Value} {x : qE} : Q_qE I cs x ↔ ∃ v : W_qE, cs = cs_qE x v ∧ ok_qE I x v := by
  constructor
  · rintro ⟨k, h⟩
    cases k with
    | zero => exact h.elim
    | succ k =>
      obtain ⟨v, e, h⟩ := h
      exact ⟨v, e, h.map fun _ _ _ h => ⟨k, h⟩⟩
  · rintro ⟨v, e, h⟩
    obtain ⟨k, b⟩ := ybt (R := RF_qE) (fun k cs x => RF_qE_up k I cs x) h.Kids
    exact ⟨k + 1, v, e, ⟨b⟩⟩
theorem RF_qE_mono : ∀ k : Nat, Mono (RF_qE k)
  | 0 => ⟨fun _ h => h.elim, fun h => h.elim⟩
  | k + 1 => by
    haveI := RF_qE_mono k
    exact ⟨fun hl h => (by obtain ⟨v, rfl, h⟩ := h; exact ⟨v, rfl, h.mono hl⟩), fun h c hv => (by obtain ⟨v, rfl, h⟩ := h; exact (by simp only [cs_qE, List.mem_cons, List.not_mem_nil, or_false] at hv; rcases hv with rfl | rfl | rfl | rfl | rfl | rfl | rfl <;> first | rfl | rfl))⟩
instance : Mono Q_qE := ⟨fun hl h => (by obtain ⟨k, h⟩ := h; exact ⟨k, (RF_qE_mono k).mono hl h⟩), fun h c hv => (by obtain ⟨k, h⟩ := h; exact (RF_qE_mono k).one h c hv)⟩
theorem ok_qE.mono {I J : Mem} {x : qE} {v : W_qE} (h : ok_qE I x v) (hl : I.Le J) : ok_qE J x v := okF_qE.mono h hl
def R_qE (I : Mem) (cs : List Value) (x : qE) : Prop := ∃ v : W_qE, cs = cs_qE x v ∧ ok_qE I x v
instance : Mono R_qE := ⟨fun hl h => (by obtain ⟨v, rfl, h⟩ := h; exact ⟨v, rfl, h.mono hl⟩), fun h c hv => (by obtain ⟨v, rfl, h⟩ := h; exact (by simp only [cs_qE, List.mem_cons, List.not_mem_nil, or_false] at hv; rcases hv with rfl | rfl | rfl | rfl | rfl | rfl | rfl <;> first | rfl | rfl))⟩
def z_qE : qE := ⟨0, 0, z_qV, eB, []⟩
def zw_qE : W_qE := ⟨⟨none, 0⟩⟩
theorem zok_qE {I : Mem} : ok_qE I z_qE zw_qE := ⟨SlAt.nil⟩
structure qL where
  Name : By8
  Type_ : Int
  NotNull : Bool
def cs_qL (x : qL) : List Value := [.string x.Name, .int .i64 x.Type_, .bool x.NotNull]
abbrev vL (x : qL) : Value := .agg (cs_qL x).toArray
def R_qL (I : Mem) (cs : List Value) (x : qL) : Prop := cs = cs_qL x
instance : Mono R_qL := ⟨fun hl h => (by obtain rfl := h; exact rfl), fun h c hv => (by obtain rfl := h; exact (by simp only [cs_qL, List.mem_cons, List.not_mem_nil, or_false] at hv; rcases hv with rfl | rfl | rfl <;> first | rfl | rfl))⟩
def z_qL : qL := ⟨eB, 0, false⟩
structure qK where
  Name : By8
  Kind : Int
  Cols : List By8
  Check : qE
  Table : By8
  Refs : List By8
structure W_qK where
  Cols : SW
  Check : W_qE
  Refs : SW
def cs_qK (x : qK) (v : W_qK) : List Value := [.string x.Name, .int .i64 x.Kind, .slice v.Cols.a x.Cols.length v.Cols.c, .int .i64 x.Check.Kind, .int .i64 x.Check.Op, .int .i64 x.Check.V.Kind, .int .i64 x.Check.V.N, .string x.Check.V.S, .string x.Check.Name, .slice v.Check.Kids.a x.Check.Kids.length v.Check.Kids.c, .string x.Table, .slice v.Refs.a x.Refs.length v.Refs.c]
abbrev vK (x : qK) (v : W_qK) : Value := .agg (cs_qK x v).toArray
abbrev bK (bb : Nat) (x : qK) (v : W_qK) : Mem := Bx bb (cs_qK x v) 137
structure ok_qK (I : Mem) (x : qK) (v : W_qK) : Prop where
  Cols : RSl 1 RStr I v.Cols.a v.Cols.c x.Cols
  Check : ok_qE I x.Check v.Check
  Refs : RSl 1 RStr I v.Refs.a v.Refs.c x.Refs
theorem ok_qK.mono {I J : Mem} {x : qK} {v : W_qK} (h : ok_qK I x v) (hl : I.Le J) : ok_qK J x v := ⟨RSl.mono h.Cols hl, h.Check.mono hl, RSl.mono h.Refs hl⟩
def R_qK (I : Mem) (cs : List Value) (x : qK) : Prop := ∃ v : W_qK, cs = cs_qK x v ∧ ok_qK I x v
instance : Mono R_qK := ⟨fun hl h => (by obtain ⟨v, rfl, h⟩ := h; exact ⟨v, rfl, h.mono hl⟩), fun h c hv => (by obtain ⟨v, rfl, h⟩ := h; exact (by simp only [cs_qK, List.mem_cons, List.not_mem_nil, or_false] at hv; rcases hv with rfl | rfl | rfl | rfl | rfl | rfl | rfl | rfl | rfl | rfl | rfl | rfl <;> first | rfl | rfl))⟩
def z_qK : qK := ⟨eB, 0, [], z_qE, eB, []⟩
def zw_qK : W_qK := ⟨⟨none, 0⟩, zw_qE, ⟨none, 0⟩⟩
theorem zok_qK {I : Mem} : ok_qK I z_qK zw_qK := ⟨SlAt.nil, zok_qE, SlAt.nil⟩
structure qSet where
  Name : By8
  E : qE
structure W_qSet where
  E : W_qE
def cs_qSet (x : qSet) (v : W_qSet) : List Value := [.string x.Name, .int .i64 x.E.Kind, .int .i64 x.E.Op, .int .i64 x.E.V.Kind, .int .i64 x.E.V.N, .string x.E.V.S, .string x.E.Name, .slice v.E.Kids.a x.E.Kids.length v.E.Kids.c]
structure ok_qSet (I : Mem) (x : qSet) (v : W_qSet) : Prop where
  E : ok_qE I x.E v.E
theorem ok_qSet.mono {I J : Mem} {x : qSet} {v : W_qSet} (h : ok_qSet I x v) (hl : I.Le J) : ok_qSet J x v := ⟨h.E.mono hl⟩
def R_qSet (I : Mem) (cs : List Value) (x : qSet) : Prop := ∃ v : W_qSet, cs = cs_qSet x v ∧ ok_qSet I x v
instance : Mono R_qSet := ⟨fun hl h => (by obtain ⟨v, rfl, h⟩ := h; exact ⟨v, rfl, h.mono hl⟩), fun h c hv => (by obtain ⟨v, rfl, h⟩ := h; exact (by simp only [cs_qSet, List.mem_cons, List.not_mem_nil, or_false] at hv; rcases hv with rfl | rfl | rfl | rfl | rfl | rfl | rfl | rfl <;> first | rfl | rfl))⟩
def z_qSet : qSet := ⟨eB, z_qE⟩
def zw_qSet : W_qSet := ⟨zw_qE⟩
theorem zok_qSet {I : Mem} : ok_qSet I z_qSet zw_qSet := ⟨zok_qE⟩
structure qO where
  E : qE
  Desc : Bool
structure W_qO where
  E : W_qE
def cs_qO (x : qO) (v : W_qO) : List Value := [.int .i64 x.E.Kind, .int .i64 x.E.Op, .int .i64 x.E.V.Kind, .int .i64 x.E.V.N, .string x.E.V.S, .string x.E.Name, .slice v.E.Kids.a x.E.Kids.length v.E.Kids.c, .bool x.Desc]
abbrev vO (x : qO) (v : W_qO) : Value := .agg (cs_qO x v).toArray
structure ok_qO (I : Mem) (x : qO) (v : W_qO) : Prop where
  E : ok_qE I x.E v.E
theorem ok_qO.mono {I J : Mem} {x : qO} {v : W_qO} (h : ok_qO I x v) (hl : I.Le J) : ok_qO J x v := ⟨h.E.mono hl⟩
def R_qO (I : Mem) (cs : List Value) (x : qO) : Prop := ∃ v : W_qO, cs = cs_qO x v ∧ ok_qO I x v
instance : Mono R_qO := ⟨fun hl h => (by obtain ⟨v, rfl, h⟩ := h; exact ⟨v, rfl, h.mono hl⟩), fun h c hv => (by obtain ⟨v, rfl, h⟩ := h; exact (by simp only [cs_qO, List.mem_cons, List.not_mem_nil, or_false] at hv; rcases hv with rfl | rfl | rfl | rfl | rfl | rfl | rfl | rfl <;> first | rfl | rfl))⟩
def z_qO : qO := ⟨z_qE, false⟩
def zw_qO : W_qO := ⟨zw_qE⟩
theorem zok_qO {I : Mem} : ok_qO I z_qO zw_qO := ⟨zok_qE⟩
structure qS where
  Kind : Int
  Table : By8
  Name : By8
  Role : By8
  Cols : List qL
  Cons : List qK
  Names : List By8
  Rows : List (List qE)
  Where : qE
  Sets : List qSet
  Order : List qO
  Limit : Int
  Priv : Int
  Option : Bool
  Kids : List qS
structure W_qS where
  Cols : SW
  Cons : SW
  Names : SW
  Rows : SW
  Where : W_qE
  Sets : SW
  Order : SW
  Kids : SW
def cs_qS (x : qS) (v : W_qS) : List Value := [.int .i64 x.Kind, .string x.Table, .string x.Name, .string x.Role, .slice v.Cols.a x.Cols.length v.Cols.c, .slice v.Cons.a x.Cons.length v.Cons.c, .slice v.Names.a x.Names.length v.Names.c, .slice v.Rows.a x.Rows.length v.Rows.c, .int .i64 x.Where.Kind, .int .i64 x.Where.Op, .int .i64 x.Where.V.Kind, .int .i64 x.Where.V.N, .string x.Where.V.S, .string x.Where.Name, .slice v.Where.Kids.a x.Where.Kids.length v.Where.Kids.c, .slice v.Sets.a x.Sets.length v.Sets.c, .slice v.Order.a x.Order.length v.Order.c, .int .i64 x.Limit, .int .i64 x.Priv, .bool x.Option, .slice v.Kids.a x.Kids.length v.Kids.c]
abbrev vS (x : qS) (v : W_qS) : Value := .agg (cs_qS x v).toArray
abbrev bS (bb : Nat) (x : qS) (v : W_qS) : Mem := Bx bb (cs_qS x v) 46
structure okF_qS (R : Mem → List Value → qS → Prop) (I : Mem) (x : qS) (v : W_qS) : Prop where
  Cols : RSl 3 R_qL I v.Cols.a v.Cols.c x.Cols
  Cons : RSl 12 R_qK I v.Cons.a v.Cons.c x.Cons
  Names : RSl 1 RStr I v.Names.a v.Names.c x.Names
  Rows : RSl 1 (RSlC 7 Q_qE) I v.Rows.a v.Rows.c x.Rows
  Where : ok_qE I x.Where v.Where
  Sets : RSl 8 R_qSet I v.Sets.a v.Sets.c x.Sets
  Order : RSl 8 R_qO I v.Order.a v.Order.c x.Order
  Kids : RSl 21 R I v.Kids.a v.Kids.c x.Kids
theorem okF_qS.mono {R : Mem → List Value → qS → Prop} [Mono R] {I J : Mem} {x : qS} {v : W_qS} (h : okF_qS R I x v) (hl : I.Le J) : okF_qS R J x v := ⟨RSl.mono h.Cols hl, RSl.mono h.Cons hl, RSl.mono h.Names hl, RSl.mono h.Rows hl, h.Where.mono hl, RSl.mono h.Sets hl, RSl.mono h.Order hl, RSl.mono h.Kids hl⟩
theorem okF_qS.map {R S : Mem → List Value → qS → Prop} (hm : ∀ I cs x, R I cs x → S I cs x) {I : Mem} {x : qS} {v : W_qS} (h : okF_qS R I x v) : okF_qS S I x v := ⟨h.Cols, h.Cons, h.Names, h.Rows, h.Where, h.Sets, h.Order, SlAt.map (hm I) h.Kids⟩
def RF_qS : Nat → Mem → List Value → qS → Prop
  | 0, _, _, _ => False
  | k + 1, I, cs, x => ∃ v : W_qS, cs = cs_qS x v ∧ okF_qS (RF_qS k) I x v
def Q_qS (I : Mem) (cs : List Value) (x : qS) : Prop := ∃ k, RF_qS k I cs x
abbrev ok_qS (I : Mem) (x : qS) (v : W_qS) : Prop := okF_qS Q_qS I x v
theorem RF_qS_up : ∀ (k : Nat) (I : Mem) (cs : List Value) (x : qS), RF_qS k I cs x → RF_qS (k + 1) I cs x
  | 0, _, _, _, h => h.elim
  | k + 1, I, cs, x, ⟨v, e, h⟩ => ⟨v, e, h.map (RF_qS_up k)⟩
theorem Q_qS_iff {I : Mem} {cs : List Value} {x : qS} : Q_qS I cs x ↔ ∃ v : W_qS, cs = cs_qS x v ∧ ok_qS I x v := by
  constructor
  · rintro ⟨k, h⟩
    cases k with
    | zero => exact h.elim
    | succ k =>
      obtain ⟨v, e, h⟩ := h
      exact ⟨v, e, h.map fun _ _ _ h => ⟨k, h⟩⟩
  · rintro ⟨v, e, h⟩
    obtain ⟨k, b⟩ := ybt (R := RF_qS) (fun k cs x => RF_qS_up k I cs x) h.Kids
    exact ⟨k + 1, v, e, ⟨h.Cols, h.Cons, h.Names, h.Rows, h.Where, h.Sets, h.Order, b⟩⟩
theorem RF_qS_mono : ∀ k : Nat, Mono (RF_qS k)
  | 0 => ⟨fun _ h => h.elim, fun h => h.elim⟩
  | k + 1 => by
    haveI := RF_qS_mono k
    exact ⟨fun hl h => (by obtain ⟨v, rfl, h⟩ := h; exact ⟨v, rfl, h.mono hl⟩), fun h c hv => (by obtain ⟨v, rfl, h⟩ := h; exact (by simp only [cs_qS, List.mem_cons, List.not_mem_nil, or_false] at hv; rcases hv with rfl | rfl | rfl | rfl | rfl | rfl | rfl | rfl | rfl | rfl | rfl | rfl | rfl | rfl | rfl | rfl | rfl | rfl | rfl | rfl | rfl <;> first | rfl | rfl))⟩
instance : Mono Q_qS := ⟨fun hl h => (by obtain ⟨k, h⟩ := h; exact ⟨k, (RF_qS_mono k).mono hl h⟩), fun h c hv => (by obtain ⟨k, h⟩ := h; exact (RF_qS_mono k).one h c hv)⟩
theorem ok_qS.mono {I J : Mem} {x : qS} {v : W_qS} (h : ok_qS I x v) (hl : I.Le J) : ok_qS J x v := okF_qS.mono h hl
def R_qS (I : Mem) (cs : List Value) (x : qS) : Prop := ∃ v : W_qS, cs = cs_qS x v ∧ ok_qS I x v
instance : Mono R_qS := ⟨fun hl h => (by obtain ⟨v, rfl, h⟩ := h; exact ⟨v, rfl, h.mono hl⟩), fun h c hv => (by obtain ⟨v, rfl, h⟩ := h; exact (by simp only [cs_qS, List.mem_cons, List.not_mem_nil, or_false] at hv; rcases hv with rfl | rfl | rfl | rfl | rfl | rfl | rfl | rfl | rfl | rfl | rfl | rfl | rfl | rfl | rfl | rfl | rfl | rfl | rfl | rfl | rfl <;> first | rfl | rfl))⟩
def z_qS : qS := ⟨0, eB, eB, eB, [], [], [], [], z_qE, [], [], 0, 0, false, []⟩
def zw_qS : W_qS := ⟨⟨none, 0⟩, ⟨none, 0⟩, ⟨none, 0⟩, ⟨none, 0⟩, zw_qE, ⟨none, 0⟩, ⟨none, 0⟩, ⟨none, 0⟩⟩
theorem zok_qS {I : Mem} : ok_qS I z_qS zw_qS := ⟨SlAt.nil, SlAt.nil, SlAt.nil, SlAt.nil, zok_qE, SlAt.nil, SlAt.nil, SlAt.nil⟩
structure law19_Act where
  S : qS
  By : By8
structure W_law19_Act where
  S : W_qS
def cs_law19_Act (x : law19_Act) (v : W_law19_Act) : List Value := [.int .i64 x.S.Kind, .string x.S.Table, .string x.S.Name, .string x.S.Role, .slice v.S.Cols.a x.S.Cols.length v.S.Cols.c, .slice v.S.Cons.a x.S.Cons.length v.S.Cons.c, .slice v.S.Names.a x.S.Names.length v.S.Names.c, .slice v.S.Rows.a x.S.Rows.length v.S.Rows.c, .int .i64 x.S.Where.Kind, .int .i64 x.S.Where.Op, .int .i64 x.S.Where.V.Kind, .int .i64 x.S.Where.V.N, .string x.S.Where.V.S, .string x.S.Where.Name, .slice v.S.Where.Kids.a x.S.Where.Kids.length v.S.Where.Kids.c, .slice v.S.Sets.a x.S.Sets.length v.S.Sets.c, .slice v.S.Order.a x.S.Order.length v.S.Order.c, .int .i64 x.S.Limit, .int .i64 x.S.Priv, .bool x.S.Option, .slice v.S.Kids.a x.S.Kids.length v.S.Kids.c, .string x.By]
structure ok_law19_Act (I : Mem) (x : law19_Act) (v : W_law19_Act) : Prop where
  S : ok_qS I x.S v.S
theorem ok_law19_Act.mono {I J : Mem} {x : law19_Act} {v : W_law19_Act} (h : ok_law19_Act I x v) (hl : I.Le J) : ok_law19_Act J x v := ⟨h.S.mono hl⟩
def R_law19_Act (I : Mem) (cs : List Value) (x : law19_Act) : Prop := ∃ v : W_law19_Act, cs = cs_law19_Act x v ∧ ok_law19_Act I x v
instance : Mono R_law19_Act := ⟨fun hl h => (by obtain ⟨v, rfl, h⟩ := h; exact ⟨v, rfl, h.mono hl⟩), fun h c hv => (by obtain ⟨v, rfl, h⟩ := h; exact (by simp only [cs_law19_Act, List.mem_cons, List.not_mem_nil, or_false] at hv; rcases hv with rfl | rfl | rfl | rfl | rfl | rfl | rfl | rfl | rfl | rfl | rfl | rfl | rfl | rfl | rfl | rfl | rfl | rfl | rfl | rfl | rfl | rfl <;> first | rfl | rfl))⟩
def z_law19_Act : law19_Act := ⟨z_qS, eB⟩
def zw_law19_Act : W_law19_Act := ⟨zw_qS⟩
theorem zok_law19_Act {I : Mem} : ok_law19_Act I z_law19_Act zw_law19_Act := ⟨zok_qS⟩
structure law22_Act where
  Do : Int
  Who : Int
  A : law19_Act
structure W_law22_Act where
  A : W_law19_Act
def cs_law22_Act (x : law22_Act) (v : W_law22_Act) : List Value := [.int .i64 x.Do, .int .i64 x.Who, .int .i64 x.A.S.Kind, .string x.A.S.Table, .string x.A.S.Name, .string x.A.S.Role, .slice v.A.S.Cols.a x.A.S.Cols.length v.A.S.Cols.c, .slice v.A.S.Cons.a x.A.S.Cons.length v.A.S.Cons.c, .slice v.A.S.Names.a x.A.S.Names.length v.A.S.Names.c, .slice v.A.S.Rows.a x.A.S.Rows.length v.A.S.Rows.c, .int .i64 x.A.S.Where.Kind, .int .i64 x.A.S.Where.Op, .int .i64 x.A.S.Where.V.Kind, .int .i64 x.A.S.Where.V.N, .string x.A.S.Where.V.S, .string x.A.S.Where.Name, .slice v.A.S.Where.Kids.a x.A.S.Where.Kids.length v.A.S.Where.Kids.c, .slice v.A.S.Sets.a x.A.S.Sets.length v.A.S.Sets.c, .slice v.A.S.Order.a x.A.S.Order.length v.A.S.Order.c, .int .i64 x.A.S.Limit, .int .i64 x.A.S.Priv, .bool x.A.S.Option, .slice v.A.S.Kids.a x.A.S.Kids.length v.A.S.Kids.c, .string x.A.By]
structure ok_law22_Act (I : Mem) (x : law22_Act) (v : W_law22_Act) : Prop where
  A : ok_law19_Act I x.A v.A
theorem ok_law22_Act.mono {I J : Mem} {x : law22_Act} {v : W_law22_Act} (h : ok_law22_Act I x v) (hl : I.Le J) : ok_law22_Act J x v := ⟨h.A.mono hl⟩
def R_law22_Act (I : Mem) (cs : List Value) (x : law22_Act) : Prop := ∃ v : W_law22_Act, cs = cs_law22_Act x v ∧ ok_law22_Act I x v
instance : Mono R_law22_Act := ⟨fun hl h => (by obtain ⟨v, rfl, h⟩ := h; exact ⟨v, rfl, h.mono hl⟩), fun h c hv => (by obtain ⟨v, rfl, h⟩ := h; exact (by simp only [cs_law22_Act, List.mem_cons, List.not_mem_nil, or_false] at hv; rcases hv with rfl | rfl | rfl | rfl | rfl | rfl | rfl | rfl | rfl | rfl | rfl | rfl | rfl | rfl | rfl | rfl | rfl | rfl | rfl | rfl | rfl | rfl | rfl | rfl <;> first | rfl | rfl))⟩
def z_law22_Act : law22_Act := ⟨0, 0, z_law19_Act⟩
def zw_law22_Act : W_law22_Act := ⟨zw_law19_Act⟩
theorem zok_law22_Act {I : Mem} : ok_law22_Act I z_law22_Act zw_law22_Act := ⟨zok_law19_Act⟩
structure qI where
  Name : By8
  Cols : List By8
structure W_qI where
  Cols : SW
def cs_qI (x : qI) (v : W_qI) : List Value := [.string x.Name, .slice v.Cols.a x.Cols.length v.Cols.c]
abbrev vI (x : qI) (v : W_qI) : Value := .agg (cs_qI x v).toArray
abbrev bI (bb : Nat) (x : qI) (v : W_qI) : Mem := Bx bb (cs_qI x v) 139
structure ok_qI (I : Mem) (x : qI) (v : W_qI) : Prop where
  Cols : RSl 1 RStr I v.Cols.a v.Cols.c x.Cols
theorem ok_qI.mono {I J : Mem} {x : qI} {v : W_qI} (h : ok_qI I x v) (hl : I.Le J) : ok_qI J x v := ⟨RSl.mono h.Cols hl⟩
def R_qI (I : Mem) (cs : List Value) (x : qI) : Prop := ∃ v : W_qI, cs = cs_qI x v ∧ ok_qI I x v
instance : Mono R_qI := ⟨fun hl h => (by obtain ⟨v, rfl, h⟩ := h; exact ⟨v, rfl, h.mono hl⟩), fun h c hv => (by obtain ⟨v, rfl, h⟩ := h; exact (by simp only [cs_qI, List.mem_cons, List.not_mem_nil, or_false] at hv; rcases hv with rfl | rfl <;> first | rfl | rfl))⟩
def z_qI : qI := ⟨eB, []⟩
def zw_qI : W_qI := ⟨⟨none, 0⟩⟩
theorem zok_qI {I : Mem} : ok_qI I z_qI zw_qI := ⟨SlAt.nil⟩
structure qT where
  Name : By8
  Owner : By8
  Version : Int
  Cols : List qL
  Cons : List qK
  Idx : List qI
structure W_qT where
  Cols : SW
  Cons : SW
  Idx : SW
def cs_qT (x : qT) (v : W_qT) : List Value := [.string x.Name, .string x.Owner, .int .i64 x.Version, .slice v.Cols.a x.Cols.length v.Cols.c, .slice v.Cons.a x.Cons.length v.Cons.c, .slice v.Idx.a x.Idx.length v.Idx.c]
abbrev vT (x : qT) (v : W_qT) : Value := .agg (cs_qT x v).toArray
abbrev bT (bb : Nat) (x : qT) (v : W_qT) : Mem := Bx bb (cs_qT x v) 78
structure ok_qT (I : Mem) (x : qT) (v : W_qT) : Prop where
  Cols : RSl 3 R_qL I v.Cols.a v.Cols.c x.Cols
  Cons : RSl 12 R_qK I v.Cons.a v.Cons.c x.Cons
  Idx : RSl 2 R_qI I v.Idx.a v.Idx.c x.Idx
theorem ok_qT.mono {I J : Mem} {x : qT} {v : W_qT} (h : ok_qT I x v) (hl : I.Le J) : ok_qT J x v := ⟨RSl.mono h.Cols hl, RSl.mono h.Cons hl, RSl.mono h.Idx hl⟩
def R_qT (I : Mem) (cs : List Value) (x : qT) : Prop := ∃ v : W_qT, cs = cs_qT x v ∧ ok_qT I x v
instance : Mono R_qT := ⟨fun hl h => (by obtain ⟨v, rfl, h⟩ := h; exact ⟨v, rfl, h.mono hl⟩), fun h c hv => (by obtain ⟨v, rfl, h⟩ := h; exact (by simp only [cs_qT, List.mem_cons, List.not_mem_nil, or_false] at hv; rcases hv with rfl | rfl | rfl | rfl | rfl | rfl <;> first | rfl | rfl))⟩
def z_qT : qT := ⟨eB, eB, 0, [], [], []⟩
def zw_qT : W_qT := ⟨⟨none, 0⟩, ⟨none, 0⟩, ⟨none, 0⟩⟩
theorem zok_qT {I : Mem} : ok_qT I z_qT zw_qT := ⟨SlAt.nil, SlAt.nil, SlAt.nil⟩
structure qJ where
  Name : By8
  In : List By8
structure W_qJ where
  In : SW
def cs_qJ (x : qJ) (v : W_qJ) : List Value := [.string x.Name, .slice v.In.a x.In.length v.In.c]
abbrev vJ (x : qJ) (v : W_qJ) : Value := .agg (cs_qJ x v).toArray
abbrev bJ (bb : Nat) (x : qJ) (v : W_qJ) : Mem := Bx bb (cs_qJ x v) 107
structure ok_qJ (I : Mem) (x : qJ) (v : W_qJ) : Prop where
  In : RSl 1 RStr I v.In.a v.In.c x.In
theorem ok_qJ.mono {I J : Mem} {x : qJ} {v : W_qJ} (h : ok_qJ I x v) (hl : I.Le J) : ok_qJ J x v := ⟨RSl.mono h.In hl⟩
def R_qJ (I : Mem) (cs : List Value) (x : qJ) : Prop := ∃ v : W_qJ, cs = cs_qJ x v ∧ ok_qJ I x v
instance : Mono R_qJ := ⟨fun hl h => (by obtain ⟨v, rfl, h⟩ := h; exact ⟨v, rfl, h.mono hl⟩), fun h c hv => (by obtain ⟨v, rfl, h⟩ := h; exact (by simp only [cs_qJ, List.mem_cons, List.not_mem_nil, or_false] at hv; rcases hv with rfl | rfl <;> first | rfl | rfl))⟩
def z_qJ : qJ := ⟨eB, []⟩
def zw_qJ : W_qJ := ⟨⟨none, 0⟩⟩
theorem zok_qJ {I : Mem} : ok_qJ I z_qJ zw_qJ := ⟨SlAt.nil⟩
structure qG where
  To : By8
  By : By8
  Table : By8
  Priv : Int
  Option : Bool
def cs_qG (x : qG) : List Value := [.string x.To, .string x.By, .string x.Table, .int .i64 x.Priv, .bool x.Option]
abbrev vG (x : qG) : Value := .agg (cs_qG x).toArray
abbrev bG (bb : Nat) (x : qG) : Mem := Bx bb (cs_qG x) 92
def R_qG (I : Mem) (cs : List Value) (x : qG) : Prop := cs = cs_qG x
instance : Mono R_qG := ⟨fun hl h => (by obtain rfl := h; exact rfl), fun h c hv => (by obtain rfl := h; exact (by simp only [cs_qG, List.mem_cons, List.not_mem_nil, or_false] at hv; rcases hv with rfl | rfl | rfl | rfl | rfl <;> first | rfl | rfl))⟩
def z_qG : qG := ⟨eB, eB, eB, 0, false⟩
structure qC where
  Version : Int
  Tables : List qT
  Roles : List qJ
  Grants : List qG
structure W_qC where
  Tables : SW
  Roles : SW
  Grants : SW
def cs_qC (x : qC) (v : W_qC) : List Value := [.int .i64 x.Version, .slice v.Tables.a x.Tables.length v.Tables.c, .slice v.Roles.a x.Roles.length v.Roles.c, .slice v.Grants.a x.Grants.length v.Grants.c]
abbrev vC (x : qC) (v : W_qC) : Value := .agg (cs_qC x v).toArray
abbrev bC (bb : Nat) (x : qC) (v : W_qC) : Mem := Bx bb (cs_qC x v) 29
structure ok_qC (I : Mem) (x : qC) (v : W_qC) : Prop where
  Tables : RSl 6 R_qT I v.Tables.a v.Tables.c x.Tables
  Roles : RSl 2 R_qJ I v.Roles.a v.Roles.c x.Roles
  Grants : RSl 5 R_qG I v.Grants.a v.Grants.c x.Grants
theorem ok_qC.mono {I J : Mem} {x : qC} {v : W_qC} (h : ok_qC I x v) (hl : I.Le J) : ok_qC J x v := ⟨RSl.mono h.Tables hl, RSl.mono h.Roles hl, RSl.mono h.Grants hl⟩
def R_qC (I : Mem) (cs : List Value) (x : qC) : Prop := ∃ v : W_qC, cs = cs_qC x v ∧ ok_qC I x v
instance : Mono R_qC := ⟨fun hl h => (by obtain ⟨v, rfl, h⟩ := h; exact ⟨v, rfl, h.mono hl⟩), fun h c hv => (by obtain ⟨v, rfl, h⟩ := h; exact (by simp only [cs_qC, List.mem_cons, List.not_mem_nil, or_false] at hv; rcases hv with rfl | rfl | rfl | rfl <;> first | rfl | rfl))⟩
def z_qC : qC := ⟨0, [], [], []⟩
def zw_qC : W_qC := ⟨⟨none, 0⟩, ⟨none, 0⟩, ⟨none, 0⟩⟩
theorem zok_qC {I : Mem} : ok_qC I z_qC zw_qC := ⟨SlAt.nil, SlAt.nil, SlAt.nil⟩
structure chain_kept where
  c : qC
  pins : Int
structure W_chain_kept where
  c : W_qC
def cs_chain_kept (x : chain_kept) (v : W_chain_kept) : List Value := [.int .i64 x.c.Version, .slice v.c.Tables.a x.c.Tables.length v.c.Tables.c, .slice v.c.Roles.a x.c.Roles.length v.c.Roles.c, .slice v.c.Grants.a x.c.Grants.length v.c.Grants.c, .int .i64 x.pins]
structure ok_chain_kept (I : Mem) (x : chain_kept) (v : W_chain_kept) : Prop where
  c : ok_qC I x.c v.c
theorem ok_chain_kept.mono {I J : Mem} {x : chain_kept} {v : W_chain_kept} (h : ok_chain_kept I x v) (hl : I.Le J) : ok_chain_kept J x v := ⟨h.c.mono hl⟩
def R_chain_kept (I : Mem) (cs : List Value) (x : chain_kept) : Prop := ∃ v : W_chain_kept, cs = cs_chain_kept x v ∧ ok_chain_kept I x v
instance : Mono R_chain_kept := ⟨fun hl h => (by obtain ⟨v, rfl, h⟩ := h; exact ⟨v, rfl, h.mono hl⟩), fun h c hv => (by obtain ⟨v, rfl, h⟩ := h; exact (by simp only [cs_chain_kept, List.mem_cons, List.not_mem_nil, or_false] at hv; rcases hv with rfl | rfl | rfl | rfl | rfl <;> first | rfl | rfl))⟩
def z_chain_kept : chain_kept := ⟨z_qC, 0⟩
def zw_chain_kept : W_chain_kept := ⟨zw_qC⟩
theorem zok_chain_kept {I : Mem} : ok_chain_kept I z_chain_kept zw_chain_kept := ⟨zok_qC⟩
structure chain_Chain where
  live : List (Int × chain_kept)
  now : Int
  pins : List (Int × Int)
  news : List (Int × (List By8))
structure r22_Chain where
  All : List qC
  Pins : List Int
  Heard : List Int
structure W_chain_Chain where
  live : SM
  pins : SM
  news : SM
def cs_chain_Chain (x : chain_Chain) (v : W_chain_Chain) : List Value := [.map (some v.live.m), .int .i64 x.now, .map (some v.pins.m), .map (some v.news.m)]
structure ok_chain_Chain (I : Mem) (x : chain_Chain) (v : W_chain_Chain) : Prop where
  live : PMap (Value.int .i64) R_chain_kept 83 I v.live.C v.live.m x.live
  pins : OwnMap (Value.int .i64) (val1 (RInt .i64)) I v.pins.C v.pins.m x.pins
  news : SMap (Value.int .i64) 9 1 RStr I v.news.C v.news.m x.news
theorem ok_chain_Chain.mono {I J : Mem} {x : chain_Chain} {v : W_chain_Chain} (h : ok_chain_Chain I x v) (hl : I.Le J) : ok_chain_Chain J x v := ⟨PMap.mono h.live hl, OwnMap.mono h.pins hl, SMap.mono h.news hl⟩
structure W_r22_Chain where
  All : SO
  Pins : SO
  Heard : SO
def cs_r22_Chain (x : r22_Chain) (v : W_r22_Chain) : List Value := [.slice v.All.a x.All.length v.All.c, .slice v.Pins.a x.Pins.length v.Pins.c, .slice v.Heard.a x.Heard.length v.Heard.c]
structure ok_r22_Chain (I : Mem) (x : r22_Chain) (v : W_r22_Chain) : Prop where
  All : OwnSl 29 4 R_qC I v.All.C v.All.a v.All.c x.All
  Pins : OwnSl 3 1 (RInt .i64) I v.Pins.C v.Pins.a v.Pins.c x.Pins
  Heard : OwnSl 3 1 (RInt .i64) I v.Heard.C v.Heard.a v.Heard.c x.Heard
theorem ok_r22_Chain.mono {I J : Mem} {x : r22_Chain} {v : W_r22_Chain} (h : ok_r22_Chain I x v) (hl : I.Le J) : ok_r22_Chain J x v := ⟨OwnSl.mono h.All hl, OwnSl.mono h.Pins hl, OwnSl.mono h.Heard hl⟩
def r10_count_fu : Nat → qE → Int → Option (Int × Bool)
  | 0, _, _ => none
  | fu + 1, p0, p1 => (some ((decide (p1 ≤ 0)) || (decide ((p0.Kids.length : Int) > 12)))).bind (fun (q5 : Bool) => (some ((q5 || (decide ((p0.Name.size : Int) > 100))) || (decide ((p0.V.S.size : Int) > 100)))).bind (fun (q10 : Bool) => (bif q10 then some (0, false) else (forN (fun (i18 : Nat) (s17 : Int) => (idx p0.Kids (i18 : Int)).bind (fun x25 => (r10_count_fu fu x25 s17).bind (fun (r31, r32) => (bif (!r32) then some (.inr ((0 : Int), false)) else some (.inl r31))))) p0.Kids.length 0 (w64 (p1 - 1))).bind (fun (t : Int ⊕ ((Int × Bool))) => match t with | .inl s17 => some (s17, true) | .inr (s34, s35) => some (s34, s35)))))
noncomputable def r10_count (p0 : qE) (p1 : Int) : Option (Int × Bool) := anyFuel (fun fu => r10_count_fu fu p0 p1)
theorem r10_count_fu_ok : ∀ (fu : Nat) {E w : World} {I : Mem} {Os : List Mem} {p0 : qE} {p1 : Int} {w_p0 : W_qE} (h_p0 : ok_qE I p0 w_p0) (hS : St E w I Os) {r : Int × Bool} (G : r10_count_fu fu p0 p1 = some r),
    Calls P 107 #[(vE p0 w_p0), (Iv p1)] w (RT E I Os (.tuple #[(Iv r.1), (.bool r.2)])) := by
 intro fu
 induction fu with
 | zero => intro E w I Os p0 p1 w_p0 h_p0 hS r G; cases G
 | succ fu ih =>
 intro E w I Os p0 p1 w_p0 h_p0 hS r G
 refine calls_W (fn := Tryz.f107) rfl rfl rfl ?_
 unfold r10_count_fu at G
 refine yg nL3 (yab hS (cs_qE p0 w_p0) 41 z fun b1 w4 S3 => ya 1 2 z (yb (W.seq (yg nL21 (ya 0 3 z (bsq G fun q5 Xq5 G => yav [3, 4, 5, 6] 7 10 15 Xq5 (fun _ => yf 3 1 [6] z (yj (S3.rf m0) z (ya 5 3 z yak))) (ya 8 1 z (yav [9, 10, 11, 12] 13 16 21 (.refl (q5 || (decide ((p0.Name.size : Int) > 100)))) (fun _ => yf 9 1 [5] z (yj (S3.rf m0) z (ya 11 3 z yak))) (ya 14 1 z (bsq G fun q10 Xq10 G => yav [15, 16, 17, 18, 19] 20 22 28 Xq10 (fun _ => yf 15 2 [2, 2] z (yj (S3.rf m0) z (ya 18 3 z yak))) (yb (y6 G (fun K G => ?_) (fun K G => ?_)))))))))))))
 exact yg nL2 (ya 0 2 z (yb (yp (yh (sj G ▸ yaz ⟨I, rfl, lr, S3.drop⟩)))))
 refine W.skip (ye (yg nL3 (ya 0 3 z (yb (W.seq (yg [0] (ya 0 1 z (yb (yn (bsk G fun t14 hloop19 G => have hlt23 := (h_p0.Kids).len_lt; W.wk (yap (m := p0.Kids.length) hloop19 (fun (i18 : Nat) (s17 : Int) => JI E I [(1, Iv s17), (2, Pt b1 0), (6, Nv i18)] (bE b1 p0 w_p0 :: Os)) ⟨I, rfl, lr, S3⟩ ?_ ?_)))))))))))
 rintro i18 s17 _ w20 hi24 ⟨I15, rfl, L16, S21⟩ x22 R1 hext14
 refine W.seq (yg nL5 (yf 0 2 [6] z (yj (S21.rf m0) z (ya 3 2 z (yb (yat fun _ => W.skip (ye (W.seq (yn (yg [0] (ya 0 1 z (yac nL12 (yf 0 1 [6] z (yj (S21.rf m0) z (ya 2 1 z ?_)))))))))))))))
 obtain ⟨x25, Xx25, R1⟩ := bsm R1
 obtain ⟨h0_x25, h1_x25, Xx25⟩ := idx_some Xx25
 obtain ⟨ha_x25, cs_x25, hn_x25, hr_x25, Zx25⟩ := ((RSl.mono h_p0.Kids L16)).el _ _ Xx25
 obtain ⟨w_x25, rfl, h_x25⟩ := Q_qE_iff.1 hr_x25
 refine ya4 41 7 ha_x25 h0_x25 h1_x25 ?_
 refine yaq ((cs_qE x25 w_x25)) Zx25 0 S21.rm z (ya 5 1 z ?_)
 obtain ⟨⟨r31, r32⟩, Xr26, R1⟩ := bsm R1
 refine WO.c1 (ih h_x25 S21 Xr26) z fun I28 w27 L29 S30 => ya 7 5 z (yac nL2 (ya 0 2 z (yb (y6 R1 (fun K R1 => ?_) (fun K R1 => ?_)))))
 refine yg nL2 (ya 0 2 z (yb (yp (yk (yh (yr ?_))))))
 obtain rfl := hext14 _ (sj R1).symm
 exact yk (yh (sj G ▸ yaz ⟨I28, rfl, le, S30.drop⟩))
 exact W.skip (yl (ye (yai nL3 (ya 0 1 z (yao i18 z (ya 2 1 z (yt (yv ⟨r31, (sj R1).symm, I28, rfl, le, S30⟩))))))))
 rintro s17 _ w38 ⟨I15, rfl, L16, S39⟩ he
 cases he
 exact W.seq (yg nL5 (yf 0 2 [6] z (yj (S39.rf m0) z (ya 3 2 z (yb (yas fun _ => W.exit (yo (yq (yu (ye (yg nL3 (ya 0 3 z (yb (yp (sj G ▸ yaz ⟨I15, rfl, L16, S39.drop⟩)))))))))))))))
theorem r10_count_ok {p0 : qE} {p1 : Int} {w_p0 : W_qE} (h_p0 : ok_qE I p0 w_p0) (hS : St E w I Os) {r : Int × Bool} (G : r10_count p0 p1 = some r) :
    Calls P 107 #[(vE p0 w_p0), (Iv p1)] w (RT E I Os (.tuple #[(Iv r.1), (.bool r.2)])) := by
 obtain ⟨fu, hf⟩ := anyFuel_some G
 exact r10_count_fu_ok fu h_p0 hS hf
noncomputable def r10_Few (p0 : qE) (p1 : Int) : Option Bool := (r10_count p0 p1).bind (fun (r10, r11) => some r11)
theorem r10_Few_ok {p0 : qE} {p1 : Int} {w_p0 : W_qE} (h_p0 : ok_qE I p0 w_p0) (hS : St E w I Os) {r : Bool} (G : r10_Few p0 p1 = some r) :
    Calls P 77 #[(vE p0 w_p0), (Iv p1)] w (RT E I Os (.bool r)) := by
 refine calls_W (fn := Tryz.f77) rfl rfl rfl ?_
 unfold r10_Few at G
 refine yg nL2 (yab hS (cs_qE p0 w_p0) 41 z fun b1 w4 S3 => ya 1 1 z (yac nL8 (y7 ((cs_qE p0 w_p0)) (S3.rf m0) z (ya 1 1 z ?_))))
 obtain ⟨⟨r10, r11⟩, Xr5, G⟩ := bsm G
 exact WO.c1 (r10_count_ok h_p0 S3 Xr5) z fun I7 w6 L8 S9 => ya 3 5 z (yac nL2 (ya 0 2 z (yb (yp (sj G ▸ yw ⟨I7, rfl, L8, S9.drop⟩)))))
noncomputable def r12_Few_fu : Nat → qS → Option Bool
  | 0, _ => none
  | fu + 1, p0 => (some ((decide ((p0.Cols.length : Int) > 12)) || (decide ((p0.Cons.length : Int) > 12)))).bind (fun (q5 : Bool) => (some ((q5 || (decide ((p0.Names.length : Int) > 12))) || (decide ((p0.Rows.length : Int) > 12)))).bind (fun (q10 : Bool) => (some ((q10 || (decide ((p0.Sets.length : Int) > 12))) || (decide ((p0.Order.length : Int) > 12)))).bind (fun (q15 : Bool) => ((bif (q15 || (decide ((p0.Kids.length : Int) > 1))) then some true else (r10_Few p0.Where 60).bind (fun r29 => some (!r29)))).bind (fun (j20 : Bool) => (bif j20 then some false else (app 16 ([p0.Table, p0.Name, p0.Role] : List By8) p0.Names).bind (fun x40 => (forE (fun (i51 : Nat) (s50 : List By8) => (idx p0.Cols (i51 : Int)).bind (fun x59 => (app 16 s50 ([x59.Name] : List By8)).bind (fun x68 => some x68))) p0.Cols.length 0 x40).bind (fun s50 => (forN (fun (i84 : Nat) (s83 : List By8) => (idx p0.Cons (i84 : Int)).bind (fun x91 => (some ((decide ((x91.Cols.length : Int) > 12)) || (decide ((x91.Refs.length : Int) > 12)))).bind (fun (q98 : Bool) => ((bif q98 then some true else (r10_Few x91.Check 60).bind (fun r112 => some (!r112)))).bind (fun (j101 : Bool) => (bif j101 then some (.inr false) else (app 16 s83 ([x91.Name, x91.Table] : List By8)).bind (fun x132 => (app 16 x132 x91.Cols).bind (fun x141 => (app 16 x141 x91.Refs).bind (fun x148 => some (.inl x148))))))))) p0.Cons.length 0 s50).bind (fun (t : (List By8) ⊕ (Bool)) => match t with | .inl s83 => (forN (fun (i163 : Nat) (_s : Unit) => (idx p0.Rows (i163 : Int)).bind (fun x170 => (bif (decide ((x170.length : Int) > 12)) then some (.inr false) else (loopO (fun (s180 : Int) => (idx p0.Rows (i163 : Int)).bind (fun x185 => (bif (decide (s180 < (x185.length : Int))) then (idx p0.Rows (i163 : Int)).bind (fun x186 => (idx x186 s180).bind (fun x187 => (r10_Few x187 60).bind (fun r193 => (bif (!r193) then some (.inr (.inl false)) else some (.inl (w64 (s180 + 1))))))) else some (.inr (.inr ()))))) 0).bind (fun (t : Bool ⊕ Unit) => match t with | (.inl s195) => some (.inr s195) | (.inr ()) => some (.inl ()))))) p0.Rows.length 0 ()).bind (fun (t : Unit ⊕ (Bool)) => match t with | .inl _ => (forN (fun (i207 : Nat) (s206 : List By8) => (idx p0.Sets (i207 : Int)).bind (fun x214 => (app 16 s206 ([x214.Name] : List By8)).bind (fun x223 => (idx p0.Sets (i207 : Int)).bind (fun x232 => (r10_Few x232.E 60).bind (fun r238 => (bif (!r238) then some (.inr false) else some (.inl x223))))))) p0.Sets.length 0 s83).bind (fun (t : (List By8) ⊕ (Bool)) => match t with | .inl s206 => (forN (fun (i251 : Nat) (_s : Unit) => (idx p0.Order (i251 : Int)).bind (fun x258 => (r10_Few x258.E 60).bind (fun r264 => (bif (!r264) then some (.inr false) else some (.inl ()))))) p0.Order.length 0 ()).bind (fun (t : Unit ⊕ (Bool)) => match t with | .inl _ => (forN (fun (i276 : Nat) (_s : Unit) => (idx s206 (i276 : Int)).bind (fun x283 => (bif (decide ((x283.size : Int) > 100)) then some (.inr false) else some (.inl ())))) s206.length 0 ()).bind (fun (t : Unit ⊕ (Bool)) => match t with | .inl _ => ((bif ((p0.Kids.length : Int) == 0) then some true else (idx p0.Kids 0).bind (fun x298 => ((bif ((x298.Kids.length : Int) == 0) then (idx p0.Kids 0).bind (fun x303 => (r12_Few_fu fu x303).bind (fun r309 => some r309)) else some false)).bind (fun (j299 : Bool) => some j299)))).bind (fun (j292 : Bool) => some j292) | .inr s285 => some s285) | .inr s266 => some s266) | .inr s240 => some s240) | .inr s172 => some s172) | .inr s118 => some s118))))))))
noncomputable def r12_Few (p0 : qS) : Option Bool := anyFuel (fun fu => r12_Few_fu fu p0)
theorem r12_Few_fu_ok : ∀ (fu : Nat) {E w : World} {I : Mem} {Os : List Mem} {p0 : qS} {w_p0 : W_qS} (h_p0 : ok_qS I p0 w_p0) (hS : St E w I Os) {r : Bool} (G : r12_Few_fu fu p0 = some r),
    Calls P 50 #[(vS p0 w_p0)] w (RT E I Os (.bool r)) := by
 intro fu
 induction fu with
 | zero => intro E w I Os p0 w_p0 h_p0 hS r G; cases G
 | succ fu ih =>
 intro E w I Os p0 w_p0 h_p0 hS r G
 refine calls_W (fn := Tryz.f50) rfl rfl rfl ?_
 unfold r12_Few_fu at G
 refine yg nL2 (yab hS (cs_qS p0 w_p0) 46 z fun b1 w4 S3 => ya 1 1 z (yb (W.seq (yg nL46 (yf 0 1 [4] z (yj (S3.rf m0) z (ya 2 3 z (bsq G fun q5 Xq5 G => yav [5, 6, 7, 8] 9 16 21 Xq5 (fun _ => yf 5 1 [5] z (yj (S3.rf m0) z (ya 7 3 z yak))) (ya 10 1 z (yav [11, 12, 13, 14] 15 22 27 (.refl (q5 || (decide ((p0.Names.length : Int) > 12)))) (fun _ => yf 11 1 [6] z (yj (S3.rf m0) z (ya 13 3 z yak))) (ya 16 1 z (bsq G fun q10 Xq10 G => yav [17, 18, 19, 20] 21 28 33 Xq10 (fun _ => yf 17 1 [7] z (yj (S3.rf m0) z (ya 19 3 z yak))) (ya 22 1 z (yav [23, 24, 25, 26] 27 34 39 (.refl (q10 || (decide ((p0.Sets.length : Int) > 12)))) (fun _ => yf 23 1 [15] z (yj (S3.rf m0) z (ya 25 3 z yak))) (ya 28 1 z (bsq G fun q15 Xq15 G => yav [29, 30, 31, 32] 33 40 45 Xq15 (fun _ => yf 29 1 [16] z (yj (S3.rf m0) z (ya 31 3 z yak))) (ya 34 1 z (yav [35, 36, 37, 38] 39 46 51 (.refl (q15 || (decide ((p0.Kids.length : Int) > 1)))) (fun _ => yf 35 1 [20] z (yj (S3.rf m0) z (ya 37 3 z yak))) (ya 40 1 z (bsk G fun j20 R1 G => yam (l1 := [41, 42, 43, 44, 45]) (J := JI E I [(1, Pt b1 0), (57, .bool j20)] (bS b1 p0 w_p0 :: Os)) ?_ ?_))))))))))))))))))))
 refine yal R1 (fun K R1 => ?_) (fun K R1 => ?_)
 refine yz 52 K ?_
 iterate 4 refine WO.ps ?_
 exact ya 45 1 z (sj R1 ▸ yy ⟨I, rfl, lr, S3⟩)
 exact yz 52 K (yf 41 1 [8] z (y7 ((cs_qE p0.Where w_p0.Where)) (S3.rf m0) z (bsk R1 fun r29 Xr24 R1 => WO.c1 (r10_Few_ok h_p0.Where S3 Xr24) z fun I26 w25 L27 S28 => ya 44 2 z (sj R1 ▸ yy ⟨I26, rfl, L27, S28⟩))))
 rintro _ w30 ⟨I22, rfl, L23, S31⟩
 refine yb (y6 G (fun K G => ?_) (fun K G => ?_))
 exact yg [0] (ya 0 1 z (yb (yp (yh (sj G ▸ yw ⟨I22, rfl, L23, S31.drop⟩)))))
 refine W.skip (ye (yg nL8 (yf 0 1 [1] z (yj (S31.rf m0) z (yf 2 1 [2] z (yj (S31.rf m0) z (yf 4 1 [3] z (yj (S31.rf m0) z (yad (rel := RStr) (xs := ([p0.Table, p0.Name, p0.Role] : List By8)) S31 z kr z 9 1 [[(.string p0.Table)], [(.string p0.Name)], [(.string p0.Role)]] kr z ((Elr.cons z (Elr.cons z (Elr.cons z Elr.nil)))) tv ?_)))))))))
 intro a36 C34 w38 S37 ho35
 refine ya 7 1 z (yac nL5 (yf 0 2 [6] z (yj (S37.rf m1) z (apk G fun x40 h0_x40 he_x40 G => yau 9 16 [(.string eB)] S37 ho35 (RSl.mono h_p0.Names L23) S37.im h0_x40 he_x40 z fun a41 c42 w43 C44 S45 ho46 => ya 4 1 z (yb (W.seq (yg [0] (ya 0 1 z (yb (yn (bsk G fun s50 hloop52 G => have hlt57 := ((RSl.mono h_p0.Cols L23)).len_lt; W.wk (ya0 (m := p0.Cols.length) hloop52 (fun (i51 : Nat) (s50 : List By8) fr w => ∃ I48 a_s50 c_s50 C_s50, fr = [(1, Pt b1 0), (3, Sl a_s50 s50 c_s50), (4, Nv i51)] ∧ I22.Le I48 ∧ St E w I48 (bS b1 p0 w_p0 :: (C_s50) :: Os) ∧ OwnSl 9 1 RStr I48 C_s50 a_s50 c_s50 s50) ⟨I22, a41, c42, C44, rfl, lr, S45.front1, ho46⟩ ?_ ?_))))))))))))
 rintro i51 s50 _ w54 hi58 ⟨I48, a_s50, c_s50, C_s50, rfl, L49, S55, h_s50⟩ x56 R1
 refine W.seq (yg nL5 (yf 0 2 [4] z (yj (S55.rf m0) z (ya 3 2 z (yb (yat fun _ => W.skip (ye (W.seq (yn (yai nL10 (yf 0 2 [4] z (yj (S55.rf m0) z (ya 3 1 z ?_)))))))))))))
 obtain ⟨x59, R1, Hx59, _, rfl, Zx59⟩ := sx I48 h_p0.Cols R1
 refine y0 111 3 Hx59 z (yf 5 1 [0] z (yan Zx59 S55.rm z (yad (rel := RStr) (xs := ([x59.Name] : List By8)) S55 z kr z 9 1 [[(.string x59.Name)]] kr z ((Elr.cons z Elr.nil)) tv ?_)))
 intro a63 C61 w65 S64 ho62
 have S67 := S64.front2
 exact apk R1 fun x68 h0_x68 he_x68 R1 => yau 9 16 [(.string eB)] S67 h_s50 ho62.sl (S67.rd m1) h0_x68 he_x68 z fun a69 c70 w71 C72 S73 ho74 => ya 9 1 z (yt (yl (ye (yai nL3 (ya 0 1 z (yao i51 z (ya 2 1 z (yt (sj R1 ▸ yv ⟨I48, a69, c70, C72, rfl, L49, S73.front1.drop.front1, ho74⟩)))))))))
 rintro _ w78 ⟨I48, a_s50, c_s50, C_s50, rfl, L49, S79, h_s50⟩
 refine W.seq (yg nL5 (yf 0 2 [4] z (yj (S79.rf m0) z (ya 3 2 z (yb (yas fun _ => W.exit (yo (yq (yu (ye (W.seq (yg [0] (ya 0 1 z (yb (yn (bsk G fun t80 hloop85 G => have hlt89 := ((RSl.mono h_p0.Cons (L23.trans L49))).len_lt; W.wk (yap (m := p0.Cons.length) hloop85 (fun (i84 : Nat) (s83 : List By8) fr w => ∃ I81 a_s83 c_s83 C_s83, fr = [(1, Pt b1 0), (3, Sl a_s83 s83 c_s83), (5, Nv i84)] ∧ I48.Le I81 ∧ St E w I81 (bS b1 p0 w_p0 :: (C_s83) :: Os) ∧ OwnSl 9 1 RStr I81 C_s83 a_s83 c_s83 s83) ⟨I48, a_s50, c_s50, C_s50, rfl, lr, S79, h_s50⟩ ?_ ?_)))))))))))))))))
 rintro i84 s83 _ w86 hi90 ⟨I81, a_s83, c_s83, C_s83, rfl, L82, S87, h_s83⟩ x88 R1 hext80
 refine W.seq (yg nL5 (yf 0 2 [5] z (yj (S87.rf m0) z (ya 3 2 z (yb (yat fun _ => W.skip (ye (W.seq (yn (yg nL7 (yf 0 1 [5] z (yj (S87.rf m0) z (ya 2 1 z ?_)))))))))))))
 obtain ⟨x91, R1, Hx91, _, ⟨w_x91, rfl, h_x91⟩, Zx91⟩ := sx I81 h_p0.Cons R1
 refine y0 137 12 Hx91 z (yaq ((cs_qK x91 w_x91)) Zx91 0 S87.rm z (yab S87 (cs_qK z_qK zw_qK) 137 z fun b92 w95 S94 => yaa S94 0 (cs_qK x91 w_x91) fun w97 S96 => yb (W.seq (yg nL16 (yf 0 1 [2] z (yj (S96.rf m0) z (ya 2 3 z (bsq R1 fun q98 Xq98 R1 => yav [5, 6, 7, 8] 9 101 106 Xq98 (fun _ => yf 5 1 [11] z (yj (S96.rf m0) z (ya 7 3 z yak))) (ya 10 1 z (bsk R1 fun j101 R2 R1 => yam (l1 := [11, 12, 13, 14, 15]) (J := JI E I81 [(1, Pt b1 0), (3, Sl a_s83 s83 c_s83), (5, Nv i84), (6, Pt b92 0), (112, .bool j101)] (bS b1 p0 w_p0 :: (C_s83) :: (bK b92 x91 w_x91) :: Os)) ?_ ?_))))))))))
 refine yal R2 (fun K R2 => ?_) (fun K R2 => ?_)
 refine yz 107 K ?_
 iterate 4 refine WO.ps ?_
 exact ya 15 1 z (sj R2 ▸ yy ⟨I81, rfl, lr, S96.front2.front2⟩)
 exact yz 107 K (yf 11 1 [3] z (y7 ((cs_qE x91.Check w_x91.Check)) (S96.rf m0) z (bsk R2 fun r112 Xr107 R2 => WO.c1 (r10_Few_ok h_x91.Check S96 Xr107) z fun I109 w108 L110 S111 => ya 14 2 z (sj R2 ▸ yy ⟨I109, rfl, L110, S111.front2.front2⟩))))
 rintro _ w115 ⟨I103, rfl, L104, S116⟩
 refine yb (y6 R1 (fun K R1 => ?_) (fun K R1 => ?_))
 refine yg [0] (ya 0 1 z (yb (yp (yh (yk (yh (yr ?_)))))))
 obtain rfl := hext80 _ (sj R1).symm
 exact yk (yh (sj G ▸ yw ⟨I103, rfl, le, S116.d3⟩))
 refine W.skip (ye (yg nL8 (yf 0 2 [0] z (yj (S116.rf m2) z (yf 3 1 [10] z (yj (S116.rf m2) z (yad (rel := RStr) (xs := ([x91.Name, x91.Table] : List By8)) S116 z kr z 9 1 [[(.string x91.Name)], [(.string x91.Table)]] kr z ((Elr.cons z (Elr.cons z Elr.nil))) tv ?_)))))))
 intro a127 C125 w129 S128 ho126
 have S131 := S128.front2
 exact apk R1 fun x132 h0_x132 he_x132 R1 => yau 9 16 [(.string eB)] S131 (OwnSl.mono h_s83 L104) ho126.sl (S131.rd m1) h0_x132 he_x132 z fun a133 c134 w135 C136 S137 ho138 => have S140 := S137.front1.drop; ya 7 1 z (yac nL5 (yf 0 2 [2] z (yj (S140.rf m2) z (apk R1 fun x141 h0_x141 he_x141 R1 => yau 9 16 [(.string eB)] S140 ho138 (RSl.mono h_x91.Cols L104) S140.im h0_x141 he_x141 z fun a142 c143 w144 C145 S146 ho147 => ya 4 1 z (yb (yai nL5 (yf 0 2 [11] z (yj (S146.rf m2) z (apk R1 fun x148 h0_x148 he_x148 R1 => yau 9 16 [(.string eB)] S146 ho147 (RSl.mono h_x91.Refs L104) S146.im h0_x148 he_x148 z fun a149 c150 w151 C152 S153 ho154 => ya 4 1 z (yt (yl (ye (yai nL3 (ya 0 1 z (yao i84 z (ya 2 1 z (yt (yv ⟨x148, (sj R1).symm, I103, a149, c150, C152, rfl, le, S153.front2.drop.front1, ho154⟩))))))))))))))))))
 rintro s83 _ w158 ⟨I81, a_s83, c_s83, C_s83, rfl, L82, S159, h_s83⟩ he
 cases he
 refine W.seq (yg nL5 (yf 0 2 [5] z (yj (S159.rf m0) z (ya 3 2 z (yb (yas fun _ => W.exit (yo (yq (yu (ye (W.seq (yg [0] (ya 0 1 z (yb (yn (bsk G fun t160 hloop164 G => have hlt168 := ((RSl.mono h_p0.Rows ((L23.trans L49).trans L82))).len_lt; W.wk (yap (m := p0.Rows.length) hloop164 (fun (i163 : Nat) (_s : Unit) => JI E I81 [(1, Pt b1 0), (3, Sl a_s83 s83 c_s83), (7, Nv i163)] (bS b1 p0 w_p0 :: (C_s83) :: Os)) ⟨I81, rfl, lr, S159⟩ ?_ ?_)))))))))))))))))
 rintro i163 _ _ w165 hi169 ⟨I161, rfl, L162, S166⟩ x167 R1 hext160
 refine W.seq (yg nL5 (yf 0 2 [7] z (yj (S166.rf m0) z (ya 3 2 z (yb (yat fun _ => W.skip (ye (W.seq (yn (W.seq (yg nL7 (yf 0 1 [7] z (yj (S166.rf m0) z (ya 2 1 z ?_))))))))))))))
 obtain ⟨x170, Xx170, R1⟩ := bsm R1
 obtain ⟨h0_x170, h1_x170, Xx170⟩ := idx_some Xx170
 obtain ⟨ha_x170, cs_x170, hn_x170, hr_x170, Zx170⟩ := ((RSl.mono h_p0.Rows (((L23.trans L49).trans L82).trans L162))).el _ _ Xx170
 obtain ⟨a_x170, c_x170, rfl, h_x170⟩ := hr_x170
 refine ya4 39 1 ha_x170 h0_x170 h1_x170 ?_
 refine yan Zx170 S166.rm z (ya 5 2 z (yb (y6 R1 (fun K R1 => ?_) (fun K R1 => ?_))))
 refine yg [0] (ya 0 1 z (yb (yp (yh (yk (yh (yr ?_)))))))
 obtain rfl := hext160 _ (sj R1).symm
 exact yk (yh (sj G ▸ yw ⟨I161, rfl, le, S166.d2⟩))
 refine W.skip (ye (yg [0] (ya 0 1 z (yb (yn (bsk R1 fun t177 hloop181 R1 => W.wk (ya7 hloop181 (fun (s180 : Int) => JI E I161 [(1, Pt b1 0), (3, Sl a_s83 s83 c_s83), (7, Nv i163), (8, Iv s180)] (bS b1 p0 w_p0 :: (C_s83) :: Os)) ⟨I161, rfl, lr, S166⟩ ?_)))))))
 rintro s180 _ w182 ⟨I178, rfl, L179, S183⟩ x184 R2 hext177
 refine W.seq (yg nL8 (yf 0 2 [7] z (yj (S183.rf m0) z (ya 3 1 z ?_))))
 obtain ⟨x185, Xx185, R2⟩ := bsm R2
 obtain ⟨h0_x185, h1_x185, Xx185⟩ := idx_some Xx185
 obtain ⟨ha_x185, cs_x185, hn_x185, hr_x185, Zx185⟩ := ((RSl.mono h_p0.Rows ((((L23.trans L49).trans L82).trans L162).trans L179))).el _ _ Xx185
 obtain ⟨a_x185, c_x185, rfl, h_x185⟩ := hr_x185
 refine ya4 39 1 ha_x185 h0_x185 h1_x185 ?_
 refine yan Zx185 S183.rm z (ya 6 2 z (yb (y6 R2 (fun K R2 => ?_) (fun K R2 => ?_))))
 refine W.skip (ye (W.seq (yn (yg nL10 (yf 0 1 [7] z (yj (S183.rf m0) z (ya 2 1 z ?_)))))))
 obtain ⟨x186, Xx186, R2⟩ := bsm R2
 obtain ⟨h0_x186, h1_x186, Xx186⟩ := idx_some Xx186
 obtain ⟨ha_x186, cs_x186, hn_x186, hr_x186, Zx186⟩ := ((RSl.mono h_p0.Rows ((((L23.trans L49).trans L82).trans L162).trans L179))).el _ _ Xx186
 obtain ⟨a_x186, c_x186, rfl, h_x186⟩ := hr_x186
 refine ya4 39 1 ha_x186 h0_x186 h1_x186 ?_
 refine yan Zx186 S183.rm z (ya 5 1 z ?_)
 obtain ⟨x187, Xx187, R2⟩ := bsm R2
 obtain ⟨h0_x187, h1_x187, Xx187⟩ := idx_some Xx187
 obtain ⟨ha_x187, cs_x187, hn_x187, hr_x187, Zx187⟩ := (h_x186).el _ _ Xx187
 obtain ⟨w_x187, rfl, h_x187⟩ := Q_qE_iff.1 hr_x187
 refine ya4 41 7 ha_x187 h0_x187 h1_x187 ?_
 refine yaq ((cs_qE x187 w_x187)) Zx187 0 S183.rm z (bsk R2 fun r193 Xr188 R2 => WO.c1 (r10_Few_ok h_x187 S183 Xr188) z fun I190 w189 L191 S192 => ya 9 1 z (yb (y6 R2 (fun K R2 => ?_) (fun K R2 => ?_))))
 refine yg [0] (ya 0 1 z (yb (yp (yk (yh (yr ?_))))))
 obtain rfl := hext177 _ (sj R2).symm
 refine yk (yk (yh (yr ?_)))
 obtain rfl := hext160 _ (sj R1).symm
 exact yk (yh (sj G ▸ yw ⟨I190, rfl, le, S192.d2⟩))
 exact W.skip (yl (ye (yai nL3 (ya 0 3 z (yt (yv ⟨(w64 (s180 + 1)), (sj R2).symm, I190, rfl, le, S192⟩))))))
 refine W.exit (yo (yq ?_))
 obtain rfl := hext177 _ (sj R2).symm
 exact yu (yl (ye (yai nL3 (ya 0 1 z (yao i163 z (ya 2 1 z (yt (yv ⟨(), (sj R1).symm, I178, rfl, le, S183⟩))))))))
 rintro _ _ w201 ⟨I161, rfl, L162, S202⟩ he
 cases he
 refine W.seq (yg nL5 (yf 0 2 [7] z (yj (S202.rf m0) z (ya 3 2 z (yb (yas fun _ => W.exit (yo (yq (yu (ye (W.seq (yg [0] (ya 0 1 z (yb (yn (bsk G fun t203 hloop208 G => have hlt212 := ((RSl.mono h_p0.Sets (((L23.trans L49).trans L82).trans L162))).len_lt; W.wk (yap (m := p0.Sets.length) hloop208 (fun (i207 : Nat) (s206 : List By8) fr w => ∃ I204 a_s206 c_s206 C_s206, fr = [(1, Pt b1 0), (3, Sl a_s206 s206 c_s206), (9, Nv i207)] ∧ I161.Le I204 ∧ St E w I204 (bS b1 p0 w_p0 :: (C_s206) :: Os) ∧ OwnSl 9 1 RStr I204 C_s206 a_s206 c_s206 s206) ⟨I161, a_s83, c_s83, C_s83, rfl, lr, S202, (OwnSl.mono h_s83 L162)⟩ ?_ ?_)))))))))))))))))
 rintro i207 s206 _ w209 hi213 ⟨I204, a_s206, c_s206, C_s206, rfl, L205, S210, h_s206⟩ x211 R1 hext203
 refine W.seq (yg nL5 (yf 0 2 [15] z (yj (S210.rf m0) z (ya 3 2 z (yb (yat fun _ => W.skip (ye (W.seq (yn (yg nL10 (yf 0 2 [15] z (yj (S210.rf m0) z (ya 3 1 z ?_)))))))))))))
 obtain ⟨x214, R1, Hx214, _, ⟨w_x214, rfl, h_x214⟩, Zx214⟩ := sx I204 h_p0.Sets R1
 refine y0 144 8 Hx214 z (yf 5 1 [0] z (yan Zx214 S210.rm z (yad (rel := RStr) (xs := ([x214.Name] : List By8)) S210 z kr z 9 1 [[(.string x214.Name)]] kr z ((Elr.cons z Elr.nil)) tv ?_)))
 intro a218 C216 w220 S219 ho217
 have S222 := S219.front2
 refine apk R1 fun x223 h0_x223 he_x223 R1 => yau 9 16 [(.string eB)] S222 h_s206 ho217.sl (S222.rd m1) h0_x223 he_x223 z fun a224 c225 w226 C227 S228 ho229 => have S231 := S228.front1.drop; ya 9 1 z (yac nL8 (yf 0 1 [15] z (yj (S231.rf m1) z (ya 2 1 z ?_))))
 obtain ⟨x232, R1, Hx232, _, ⟨w_x232, rfl, h_x232⟩, Zx232⟩ := sx I204 h_p0.Sets R1
 refine y0 144 8 Hx232 z (yf 4 1 [1] z (yaq ((cs_qE x232.E w_x232.E)) Zx232 1 S231.rm z (bsk R1 fun r238 Xr233 R1 => WO.c1 (r10_Few_ok h_x232.E S231 Xr233) z fun I235 w234 L236 S237 => ya 7 1 z (yb (y6 R1 (fun K R1 => ?_) (fun K R1 => ?_))))))
 refine yg [0] (ya 0 1 z (yb (yp (yk (yh (yr ?_))))))
 obtain rfl := hext203 _ (sj R1).symm
 exact yk (yh (sj G ▸ yw ⟨I235, rfl, le, S237.d2⟩))
 exact W.skip (yl (ye (yai nL3 (ya 0 1 z (yao i207 z (ya 2 1 z (yt (yv ⟨x223, (sj R1).symm, I235, a224, c225, C227, rfl, le, S237.front1, (OwnSl.mono ho229 L236)⟩))))))))
 rintro s206 _ w246 ⟨I204, a_s206, c_s206, C_s206, rfl, L205, S247, h_s206⟩ he
 cases he
 refine W.seq (yg nL5 (yf 0 2 [15] z (yj (S247.rf m0) z (ya 3 2 z (yb (yas fun _ => W.exit (yo (yq (yu (ye (W.seq (yg [0] (ya 0 1 z (yb (yn (bsk G fun t248 hloop252 G => have hlt256 := ((RSl.mono h_p0.Order ((((L23.trans L49).trans L82).trans L162).trans L205))).len_lt; W.wk (yap (m := p0.Order.length) hloop252 (fun (i251 : Nat) (_s : Unit) => JI E I204 [(1, Pt b1 0), (3, Sl a_s206 s206 c_s206), (10, Nv i251)] (bS b1 p0 w_p0 :: (C_s206) :: Os)) ⟨I204, rfl, lr, S247⟩ ?_ ?_)))))))))))))))))
 rintro i251 _ _ w253 hi257 ⟨I249, rfl, L250, S254⟩ x255 R1 hext248
 refine W.seq (yg nL5 (yf 0 2 [16] z (yj (S254.rf m0) z (ya 3 2 z (yb (yat fun _ => W.skip (ye (W.seq (yn (yg nL8 (yf 0 1 [16] z (yj (S254.rf m0) z (ya 2 1 z ?_)))))))))))))
 obtain ⟨x258, R1, Hx258, _, ⟨w_x258, rfl, h_x258⟩, Zx258⟩ := sx I249 h_p0.Order R1
 refine y0 146 8 Hx258 z (yf 4 1 [0] z (yaq ((cs_qE x258.E w_x258.E)) Zx258 0 S254.rm z (bsk R1 fun r264 Xr259 R1 => WO.c1 (r10_Few_ok h_x258.E S254 Xr259) z fun I261 w260 L262 S263 => ya 7 1 z (yb (y6 R1 (fun K R1 => ?_) (fun K R1 => ?_))))))
 refine yg [0] (ya 0 1 z (yb (yp (yk (yh (yr ?_))))))
 obtain rfl := hext248 _ (sj R1).symm
 exact yk (yh (sj G ▸ yw ⟨I261, rfl, le, S263.d2⟩))
 exact W.skip (yl (ye (yai nL3 (ya 0 1 z (yao i251 z (ya 2 1 z (yt (yv ⟨(), (sj R1).symm, I261, rfl, le, S263⟩))))))))
 rintro _ _ w271 ⟨I249, rfl, L250, S272⟩ he
 cases he
 refine W.seq (yg nL5 (yf 0 2 [16] z (yj (S272.rf m0) z (ya 3 2 z (yb (yas fun _ => W.exit (yo (yq (yu (ye (W.seq (yg [0] (ya 0 1 z (yb (yn (bsk G fun t273 hloop277 G => have hlt281 := ((h_s206.mono L250).sl).len_lt; W.wk (yap (m := s206.length) hloop277 (fun (i276 : Nat) (_s : Unit) => JI E I249 [(1, Pt b1 0), (3, Sl a_s206 s206 c_s206), (11, Nv i276)] (bS b1 p0 w_p0 :: (C_s206) :: Os)) ⟨I249, rfl, lr, S272⟩ ?_ ?_)))))))))))))))))
 rintro i276 _ _ w278 hi282 ⟨I274, rfl, L275, S279⟩ x280 R1 hext273
 refine W.seq (yg nL4 (ya 0 4 z (yb (yat fun _ => W.skip (ye (W.seq (yn (yg nL6 (ya 0 2 z ?_)))))))))
 obtain ⟨x283, R1, Hx283, _, rfl, Zx283⟩ := sl_ix ((h_s206.mono (L250.trans L275)).sl) R1
 refine y0 9 1 Hx283 z (yan Zx283 (S279.rf m1) z (ya 4 2 z (yb (y6 R1 (fun K R1 => ?_) (fun K R1 => ?_)))))
 refine yg [0] (ya 0 1 z (yb (yp (yk (yh (yr ?_))))))
 obtain rfl := hext273 _ (sj R1).symm
 exact yk (yh (sj G ▸ yw ⟨I274, rfl, le, S279.d2⟩))
 exact W.skip (yl (ye (yai nL3 (ya 0 1 z (yao i276 z (ya 2 1 z (yt (yv ⟨(), (sj R1).symm, I274, rfl, L275, S279⟩))))))))
 rintro _ _ w290 ⟨I274, rfl, L275, S291⟩ he
 cases he
 refine W.seq (yg nL4 (ya 0 4 z (yb (yas fun _ => W.exit (yo (yq (yu (ye (yg nL21 (yf 0 1 [20] z (yj (S291.rf m0) z (ya 2 3 z (bsk G fun j292 R1 G => yam (l1 := [5, 6, 7, 8, 9, 10, 11, 12, 13, 14, 15, 16, 17, 18, 19]) (J := JI E I274 [(232, .bool j292)] Os) ?_ ?_)))))))))))))
 refine yal R1 (fun K R1 => ?_) (fun K R1 => ?_)
 refine yz 217 K ?_
 iterate 14 refine WO.ps ?_
 exact ya 19 1 z (sj R1 ▸ yy ⟨I274, rfl, lr, S291.d2⟩)
 refine yz 217 K (yf 5 1 [20] z (yj (S291.rf m0) z ?_))
 obtain ⟨x298, Xx298, R1⟩ := bsm R1
 obtain ⟨h0_x298, h1_x298, Xx298⟩ := idx_some Xx298
 obtain ⟨ha_x298, cs_x298, hn_x298, hr_x298, Zx298⟩ := ((RSl.mono h_p0.Kids ((((((L23.trans L49).trans L82).trans L162).trans L205).trans L250).trans L275))).el _ _ Xx298
 obtain ⟨w_x298, rfl, h_x298⟩ := Q_qS_iff.1 hr_x298
 refine ya4 46 21 ha_x298 h0_x298 h1_x298 ?_
 refine yf 8 1 [20] z (yar Zx298 20 S291.rm z (ya 10 3 z (bsk R1 fun j299 R2 R1 => yam (l1 := [13, 14, 15, 16, 17, 18]) (J := JI E I274 [(217, .bool false), (231, .bool j299)] Os) ?_ ?_)))
 refine yal R2 (fun K R2 => ?_) (fun K R2 => ?_)
 refine yz 225 K (yf 13 1 [20] z (yj (S291.rf m0) z ?_))
 obtain ⟨x303, Xx303, R2⟩ := bsm R2
 obtain ⟨h0_x303, h1_x303, Xx303⟩ := idx_some Xx303
 obtain ⟨ha_x303, cs_x303, hn_x303, hr_x303, Zx303⟩ := ((RSl.mono h_p0.Kids ((((((L23.trans L49).trans L82).trans L162).trans L205).trans L250).trans L275))).el _ _ Xx303
 obtain ⟨w_x303, rfl, h_x303⟩ := Q_qS_iff.1 hr_x303
 refine ya4 46 21 ha_x303 h0_x303 h1_x303 ?_
 exact yaq ((cs_qS x303 w_x303)) Zx303 0 S291.rm z (bsk R2 fun r309 Xr304 R2 => WO.c1 (ih h_x303 S291 Xr304) z fun I306 w305 L307 S308 => ya 18 1 z (sj R2 ▸ yy ⟨I306, rfl, L307, S308.d2⟩))
 refine yz 225 K ?_
 iterate 5 refine WO.ps ?_
 exact ya 18 1 z (sj R2 ▸ yy ⟨I274, rfl, lr, S291.d2⟩)
 rintro _ w314 ⟨I301, rfl, L302, S315⟩
 exact ya 19 1 z (sj R1 ▸ yy ⟨I301, rfl, L302, S315⟩)
 rintro _ w316 ⟨I294, rfl, L295, S317⟩
 exact ya 20 1 z (yb (yp (sj G ▸ yw ⟨I294, rfl, le, S317⟩)))
theorem r12_Few_ok {p0 : qS} {w_p0 : W_qS} (h_p0 : ok_qS I p0 w_p0) (hS : St E w I Os) {r : Bool} (G : r12_Few p0 = some r) :
    Calls P 50 #[(vS p0 w_p0)] w (RT E I Os (.bool r)) := by
 obtain ⟨fu, hf⟩ := anyFuel_some G
 exact r12_Few_fu_ok fu h_p0 hS hf
noncomputable def law19_Few (p0 : List law19_Act) : Option Bool := (forN (fun (i4 : Nat) (_s : Unit) => ((bif (decide ((i4 : Int) ≥ 40)) then some true else (idx p0 (i4 : Int)).bind (fun x15 => (r12_Few x15.S).bind (fun r21 => some (!r21))))).bind (fun (j11 : Bool) => ((bif j11 then some true else (idx p0 (i4 : Int)).bind (fun x28 => some (decide ((x28.By.size : Int) > 100))))).bind (fun (j24 : Bool) => (bif j24 then some (.inr false) else some (.inl ()))))) p0.length 0 ()).bind (fun (t : Unit ⊕ (Bool)) => match t with | .inl _ => some true | .inr s32 => some s32)
theorem law19_Few_ok {p0 : List law19_Act} {a_p0 : Option Addr} {c_p0 : Nat} (h_p0 : RSl 22 R_law19_Act I a_p0 c_p0 p0) (hS : St E w I Os) {r : Bool} (G : law19_Few p0 = some r) :
    Calls P 27 #[(Sl a_p0 p0 c_p0)] w (RT E I Os (.bool r)) := by
 refine calls_W (fn := Tryz.f27) rfl rfl rfl ?_
 unfold law19_Few at G
 refine yg [0] (ya 0 1 z (yb (W.seq (yg [0] (ya 0 1 z (yb (yn (bsk G fun t1 hloop5 G => have hlt9 := (h_p0).len_lt; W.wk (yap (m := p0.length) hloop5 (fun (i4 : Nat) (_s : Unit) => JI E I [(0, Sl a_p0 p0 c_p0), (3, Nv i4)] Os) ⟨I, rfl, lr, hS⟩ ?_ ?_)))))))))
 rintro i4 _ _ w6 hi10 ⟨I2, rfl, L3, S7⟩ x8 R1 hext1
 refine W.seq (yg nL4 (ya 0 4 z (yb (yat fun _ => W.skip (ye (W.seq (yn (yg nL20 (ya 0 3 z (bsk R1 fun j11 R2 R1 => yam (l1 := [3, 4, 5, 6, 7, 8, 9, 10]) (J := JI E I2 [(0, Sl a_p0 p0 c_p0), (3, Nv i4), (20, .bool j11)] Os) ?_ ?_))))))))))
 refine yal R2 (fun K R2 => ?_) (fun K R2 => ?_)
 refine yz 12 K ?_
 iterate 7 refine WO.ps ?_
 exact ya 10 1 z (sj R2 ▸ yy ⟨I2, rfl, lr, S7⟩)
 refine yz 12 K (ya 3 2 z ?_)
 obtain ⟨x15, R2, Hx15, _, ⟨w_x15, rfl, h_x15⟩, Zx15⟩ := sx I2 h_p0 R2
 exact y0 48 22 Hx15 z (yf 6 1 [0] z (yaq ((cs_qS x15.S w_x15.S)) Zx15 0 S7.rm z (bsk R2 fun r21 Xr16 R2 => WO.c1 (r12_Few_ok h_x15.S S7 Xr16) z fun I18 w17 L19 S20 => ya 9 2 z (sj R2 ▸ yy ⟨I18, rfl, L19, S20⟩))))
 rintro _ w22 ⟨I13, rfl, L14, S23⟩
 refine ya 11 1 z (bsk R1 fun j24 R2 R1 => yam (l1 := [12, 13, 14, 15, 16, 17, 18, 19]) (J := JI E I13 [(0, Sl a_p0 p0 c_p0), (3, Nv i4), (29, .bool j24)] Os) ?_ ?_)
 refine yal R2 (fun K R2 => ?_) (fun K R2 => ?_)
 refine yz 21 K ?_
 iterate 7 refine WO.ps ?_
 exact ya 19 1 z (sj R2 ▸ yy ⟨I13, rfl, lr, S23⟩)
 refine yz 21 K (ya 12 2 z ?_)
 obtain ⟨x28, R2, Hx28, _, ⟨w_x28, rfl, h_x28⟩, Zx28⟩ := sx I13 h_p0 R2
 exact y0 48 22 Hx28 z (yf 15 1 [21] z (yar Zx28 21 S23.rm z (ya 17 3 z (sj R2 ▸ yy ⟨I13, rfl, lr, S23⟩))))
 rintro _ w29 ⟨I26, rfl, L27, S30⟩
 refine yb (y6 R1 (fun K R1 => ?_) (fun K R1 => ?_))
 refine yg [0] (ya 0 1 z (yb (yp (yk (yh (yr ?_))))))
 obtain rfl := hext1 _ (sj R1).symm
 exact yk (yh (sj G ▸ yw ⟨I26, rfl, le, S30⟩))
 exact W.skip (yl (ye (yai nL3 (ya 0 1 z (yao i4 z (ya 2 1 z (yt (yv ⟨(), (sj R1).symm, I26, rfl, le, S30⟩))))))))
 rintro _ _ w33 ⟨I2, rfl, L3, S34⟩ he
 cases he
 exact W.seq (yg nL4 (ya 0 4 z (yb (yas fun _ => W.exit (yo (yq (yu (ye (yg [0] (ya 0 1 z (yb (yp (sj G ▸ yw ⟨I2, rfl, L3, S34⟩)))))))))))))
noncomputable def law22_few (p0 : List law22_Act) : Option Bool := (forN (fun (i4 : Nat) (_s : Unit) => ((bif (decide ((i4 : Int) ≥ 40)) then some true else (idx p0 (i4 : Int)).bind (fun x15 => (law19_Few ([x15.A] : List law19_Act)).bind (fun r30 => some (!r30))))).bind (fun (j11 : Bool) => (bif j11 then some (.inr false) else some (.inl ())))) p0.length 0 ()).bind (fun (t : Unit ⊕ (Bool)) => match t with | .inl _ => some true | .inr s36 => some s36)
theorem law22_few_ok {p0 : List law22_Act} {a_p0 : Option Addr} {c_p0 : Nat} (h_p0 : RSl 24 R_law22_Act I a_p0 c_p0 p0) (hS : St E w I Os) {r : Bool} (G : law22_few p0 = some r) :
    Calls P 6 #[(Sl a_p0 p0 c_p0)] w (RT E I Os (.bool r)) := by
 refine calls_W (fn := Tryz.f6) rfl rfl rfl ?_
 unfold law22_few at G
 refine yg [0] (ya 0 1 z (yb (W.seq (yg [0] (ya 0 1 z (yb (yn (bsk G fun t1 hloop5 G => have hlt9 := (h_p0).len_lt; W.wk (yap (m := p0.length) hloop5 (fun (i4 : Nat) (_s : Unit) => JI E I [(0, Sl a_p0 p0 c_p0), (3, Nv i4)] Os) ⟨I, rfl, lr, hS⟩ ?_ ?_)))))))))
 rintro i4 _ _ w6 hi10 ⟨I2, rfl, L3, S7⟩ x8 R1 hext1
 refine W.seq (yg nL4 (ya 0 4 z (yb (yat fun _ => W.skip (ye (W.seq (yn (yg nL12 (ya 0 3 z (bsk R1 fun j11 R2 R1 => yam (l1 := [3, 4, 5, 6, 7, 8, 9, 10, 11]) (J := JI E I2 [(0, Sl a_p0 p0 c_p0), (3, Nv i4), (21, .bool j11)] Os) ?_ ?_))))))))))
 refine yal R2 (fun K R2 => ?_) (fun K R2 => ?_)
 refine yz 12 K ?_
 iterate 8 refine WO.ps ?_
 exact ya 11 1 z (sj R2 ▸ yy ⟨I2, rfl, lr, S7⟩)
 refine yz 12 K (ya 3 2 z ?_)
 obtain ⟨x15, R2, Hx15, _, ⟨w_x15, rfl, h_x15⟩, Zx15⟩ := sx I2 h_p0 R2
 refine y0 50 24 Hx15 z (yf 6 1 [2] z (yaq ((cs_law19_Act x15.A w_x15.A)) Zx15 2 S7.rm z (yad (rel := R_law19_Act) (xs := ([x15.A] : List law19_Act)) S7 z kr z 48 22 [(cs_law19_Act x15.A w_x15.A)] kr z ((Elr.cons ⟨w_x15.A, rfl, h_x15.A⟩ Elr.nil)) tv ?_)))
 intro a19 C17 w21 S20 ho18
 have hp24 := (ho18).publish S20
 refine bsk R2 fun r30 Xr25 R2 => yae (law19_Few_ok hp24 S20.publish Xr25) ?_
 rintro _ w26 ⟨I27, rfl, L28, S29⟩
 have S31 := St.back S20 L28 S29
 exact cv (ya 10 2 z (sj R2 ▸ yy ⟨I2, rfl, lr, S31.drop⟩))
 rintro _ w33 ⟨I13, rfl, L14, S34⟩
 refine yb (y6 R1 (fun K R1 => ?_) (fun K R1 => ?_))
 refine yg [0] (ya 0 1 z (yb (yp (yk (yh (yr ?_))))))
 obtain rfl := hext1 _ (sj R1).symm
 exact yk (yh (sj G ▸ yw ⟨I13, rfl, le, S34⟩))
 exact W.skip (yl (ye (yai nL3 (ya 0 1 z (yao i4 z (ya 2 1 z (yt (yv ⟨(), (sj R1).symm, I13, rfl, le, S34⟩))))))))
 rintro _ _ w37 ⟨I2, rfl, L3, S38⟩ he
 cases he
 exact W.seq (yg nL4 (ya 0 4 z (yb (yas fun _ => W.exit (yo (yq (yu (ye (yg [0] (ya 0 1 z (yb (yp (sj G ▸ yw ⟨I2, rfl, L3, S38⟩)))))))))))))
def chain_New (c : qC) : Option chain_Chain := some ⟨[(c.Version, ⟨c, 0⟩)], c.Version, [], []⟩
theorem chain_New_ok {p0 : qC} {w_p0 : W_qC} (h_p0 : ok_qC I p0 w_p0) (hS : St E w I Os) {r : chain_Chain} (G : chain_New p0 = some r) :
    Calls P 10 #[(vC p0 w_p0)] w (fun e w' => ∃ (I' : Mem) (rb0 : Nat) (w_ro0 : W_chain_Chain), e = .returned (Pt rb0 0) ∧ I.Le I' ∧ St E w' I' (Bx rb0 (cs_chain_Chain r w_ro0) 88 :: w_ro0.live.C :: w_ro0.pins.C :: w_ro0.news.C :: Os) ∧ ok_chain_Chain I' r w_ro0) := by
  refine calls_W (args := [(vC p0 w_p0)]) (fn := Tryz.f10) rfl rfl rfl ?_
  unfold chain_New at G
  obtain rfl := Option.some.inj G
  refine yg nL2 (yab hS (cs_qC p0 w_p0) 29 z fun b1 w1 S1 => yaf 1 2 (.pointer none) (yb (yg nL15 ?_)))
  refine ybb S1 z kr z (.map #[] 0) (fun b => .map (some b)) kr tv ?_
  intro bm w2 S2
  refine yf 1 1 [0] z (yj (S2.rf m1) z (y7 (cs_qC p0 w_p0) (S2.rf m1) z (yaf 4 7 (.agg (cs_chain_kept ⟨p0, 0⟩ ⟨w_p0⟩).toArray) (yab S2 (cs_chain_kept ⟨p0, 0⟩ ⟨w_p0⟩) 83 z fun kb w3 S3 => ?_))))
  refine WO.updP ieqP (PMap.nil1 (rel := R_chain_kept) (T := 83)) S3 (x := ⟨p0, 0⟩) ⟨⟨w_p0⟩, rfl, ⟨h_p0⟩⟩ (t := 84) (kt := 3) (et := 81) kr (keyLaw_int (kt := 3) kr) z kr (.inr z) z p0.Version z z ?_
  intro w4 C4 S4 hP4
  refine ya 7 1 z (yf 8 1 [0] z (yj (S4.rf m1) z ?_))
  refine ybb S4 z kr z (.map #[] 0) (fun b => .map (some b)) kr tv ?_
  intro b5 w5 S5
  refine ybb S5 z kr z (.map #[] 0) (fun b => .map (some b)) kr tv ?_
  intro b6 w6 S6
  refine yaf 12 14 (.agg #[.map (some bm), Iv p0.Version, .map (some b5), .map (some b6)]) (yab S6 [.map (some bm), Iv p0.Version, .map (some b5), .map (some b6)] 88 z fun b7 w7 S7 => ya 14 1 z (yb (yp (yw ⟨I, b7, ⟨⟨bm, C4⟩, ⟨b5, _⟩, ⟨b6, _⟩⟩, rfl, Mem.Le.refl _, S7.front4.drop.front1.front2.front3.front3, ⟨hP4, OwnMap.nil, SMap.nil1⟩⟩))))
def chain_Chain_dead (p0 : chain_Chain) : Option Bool := some false
theorem chain_Chain_dead_ok {p0 : chain_Chain} {b_p0 : Nat} {w_p0 : W_chain_Chain} (h_p0 : ok_chain_Chain I p0 w_p0) (hS : St E w I ((Bx b_p0 (cs_chain_Chain p0 w_p0) 88) :: (w_p0.live.C) :: (w_p0.pins.C) :: (w_p0.news.C) :: Os)) {r : Bool} (G : chain_Chain_dead p0 = some r) :
    Calls P 44 #[(Pt b_p0 0)] w (fun e w' => ∃ I', e = .returned (.bool r) ∧ I.Le I' ∧ St E w' I' ((Bx b_p0 (cs_chain_Chain p0 w_p0) 88) :: w_p0.live.C :: w_p0.pins.C :: w_p0.news.C :: Os)) := by
 refine calls_W (fn := Tryz.f44) rfl rfl rfl ?_
 unfold chain_Chain_dead at G
 exact yg [0] (ya 0 1 z (yac nL10 (ya 0 1 z (yaf 1 4 (.bool false) (yf 2 4 [0] z (yj (hS.rf m0) z (yaf 7 10 (.bool false) (ya 8 2 z (yb (yp (sj G ▸ yw ⟨I, rfl, lr, hS⟩)))))))))))
def chain_Chain_check (p0 : chain_Chain) (p1 : Int) : Option Int := (chain_Chain_dead p0).bind (fun r10 => (bif ((decide (p1 < 1)) || (decide (p1 > 8))) then some 2 else some 0))
theorem chain_Chain_check_ok {p0 : chain_Chain} {p1 : Int} {b_p0 : Nat} {w_p0 : W_chain_Chain} (h_p0 : ok_chain_Chain I p0 w_p0) (hS : St E w I ((Bx b_p0 (cs_chain_Chain p0 w_p0) 88) :: (w_p0.live.C) :: (w_p0.pins.C) :: (w_p0.news.C) :: Os)) {r : Int} (G : chain_Chain_check p0 p1 = some r) :
    Calls P 48 #[(Pt b_p0 0), (Iv p1)] w (fun e w' => ∃ I', e = .returned (Iv r) ∧ I.Le I' ∧ St E w' I' ((Bx b_p0 (cs_chain_Chain p0 w_p0) 88) :: w_p0.live.C :: w_p0.pins.C :: w_p0.news.C :: Os)) := by
 refine calls_W (fn := Tryz.f48) rfl rfl rfl ?_
 unfold chain_Chain_check at G
 refine yg [0] (ya 0 1 z (yb (W.seq (yn (yg nL3 (ya 0 1 z ?_))))))
 obtain ⟨r10, Xr5, G⟩ := bsm G
 obtain rfl : false = r10 := sj Xr5
 refine WO.c1 (chain_Chain_dead_ok h_p0 hS.front3.front3.front3.front3 Xr5) z fun I7 w6 L8 S9 => ya 2 1 z (yb (W.cd (fun K => ?_) (fun K => ?_)))
 cases K
 clear K
 refine yg nL7 (ya 0 3 z (yav [3, 4] 5 11 14 (.refl ((decide (p1 < 1)) || (decide (p1 > 8)))) (fun _ => ya 3 3 z yak) (ya 6 1 z (yb (y6 G (fun K G => ?_) (fun K G => ?_))))))
 exact yg [0] (ya 0 1 z (yb (yp (yk (yh (sj G ▸ yw ⟨I7, rfl, L8, S9⟩))))))
 exact W.skip (yl (ye (yg [0] (ya 0 1 z (yb (yp (sj G ▸ yw ⟨I7, rfl, L8, S9⟩)))))))
def chain_Chain_Pin (h : chain_Chain) (who : Int) : Option (Int × Int × chain_Chain) :=
  (chain_Chain_check h who).bind fun e => bif e != 0 then some (0, e, h) else bif mhas iEq h.pins who then some (0, 19, h) else
    (mget iEq h.live h.now).bind fun k => some (h.now, 0, { h with pins := mset iEq h.pins who h.now, live := mset iEq h.live h.now { k with pins := w64 (k.pins + 1) } })
theorem chain_Chain_Pin_ok {p0 : chain_Chain} {p1 : Int} {b_p0 : Nat} {w_p0 : W_chain_Chain} (h_p0 : ok_chain_Chain I p0 w_p0) (hS : St E w I (Bx b_p0 (cs_chain_Chain p0 w_p0) 88 :: w_p0.live.C :: w_p0.pins.C :: w_p0.news.C :: Os)) {r : Int × Int × chain_Chain} (G : chain_Chain_Pin p0 p1 = some r) :
    Calls P 24 #[Pt b_p0 0, Iv p1] w (fun e w' => ∃ (I' : Mem) (w_rp0 : W_chain_Chain), e = .returned (.tuple #[Iv r.1, Iv r.2.1]) ∧ I.Le I' ∧ St E w' I' (Bx b_p0 (cs_chain_Chain r.2.2 w_rp0) 88 :: w_rp0.live.C :: w_rp0.pins.C :: w_rp0.news.C :: Os) ∧ ok_chain_Chain I' r.2.2 w_rp0) := by
  refine calls_W (args := [Pt b_p0 0, Iv p1]) (fn := Tryz.f24) rfl rfl rfl ?_
  unfold chain_Chain_Pin at G
  obtain ⟨e, he, G⟩ := bind_some G
  obtain ⟨v1, hv1, hq1⟩ := h_p0.pins.lookup (P := P) (t := 85) (kt := 3) (et := 3) kr (keyLaw_int (kt := 3) kr) p1 (zv := Iv 0) (z0 := (0 : Int)) kr rfl
  obtain rfl : v1 = Iv ((mget iEq p0.pins p1).getD 0) := (List.cons.inj (show [v1] = [Iv _] from hv1)).1
  refine yg nL2 (ya 0 2 z (yb (W.seq (yg nL4 (ya 0 2 z (WO.c1 (chain_Chain_check_ok h_p0 hS he) z fun I2 w2 L2 S2 => ya 3 1 z (yb (yg nL2 (ya 0 2 z (yb (y6 G (fun K G => ?_) (fun K G => ?_))))))))))))
  · exact yg nL3 (ya 0 3 rfl (yb (yp (yh (sj G ▸ yaz ⟨I2, w_p0, rfl, L2, S2, h_p0.mono L2⟩)))))
  refine W.skip (ye (W.seq (yg nL11 (yf 0 3 [2] z (yj (S2.rf m0) z (ya 4 1 z ?_))))))
  refine WO.lookup z kr z z hq1 (rd_f (S2.rd m2)) (.tuple #[Iv ((mget iEq p0.pins p1).getD 0), .bool (mhas iEq p0.pins p1)]) z ?_
  refine ya 6 5 z (yb (yg [0] (ya 0 1 z (yb (y6 G (fun K G => ?_) (fun K G => ?_))))))
  · exact yg nL2 (ya 0 2 rfl (yb (yp (yh (sj G ▸ yaz ⟨I2, w_p0, rfl, L2, S2, h_p0.mono L2⟩)))))
  obtain ⟨k, hk, G⟩ := bind_some G
  obtain rfl := Option.some.inj G
  refine W.skip (ye (W.seq (have S3 := S2.drew; ya1 nL10 9 (ym (S3.rd m0) (yx S3.im)) ?_)))
  generalize World.drew _ = w3 at *
  refine yf 0 3 [2] z (yj (rd_c m0 (S3.rd m0)) z (yf 4 4 [1] z (yj (rd_c m0 (S3.rd m0)) z (WO.tail z ?_))))
  refine WO.update (OwnMap.mono h_p0.pins L2) S3.front2 (t := 85) (kt := 3) (et := 3) kr (keyLaw_int (kt := 3) kr) z kr z (.inl z) z p1 z z (xv := p0.now) z tv ?_
  intro w4 C4 S4 hm4
  refine yb (W.seq (have S5 := S4.drew; ya1 nL16 15 (ym (S5.rd m1) (ym (S5.rd m2) (yx S5.im))) ?_))
  generalize World.drew _ = w5 at *
  obtain ⟨Cm, lm, b, cs, hcm, hm, hg, hh, hC, K, ⟨wk, rfl, hok⟩, hput⟩ := (h_p0.live.mono L2).look ieqP hk
  obtain ⟨v, hv, hq⟩ := hm.lookup (P := P) (t := 84) (kt := 3) (et := 81) kr (keyLaw_int (kt := 3) kr) p0.now (zv := .pointer none) (z0 := (none : Option Nat)) kr rfl
  rw [hg] at hv
  obtain rfl : v = Pt b 0 := hv
  refine yf 0 3 [0] z (yj (rd_c m0 (S5.rd m1)) z (yf 4 3 [1] z (yj (rd_c m0 (S5.rd m1)) z ?_)))
  refine WO.lookup z kr z z hq (fun w' hw => hcm w' (rd_c m1 (S5.rd m2) w' hw)) (Pt b 0) z ?_
  refine yf 9 2 [4] z (yar K 4 (rd_c m1 (S5.rd m2)) z (yf 12 3 [4] z (WO.tail z ?_)))
  refine ybr S5.front2 z kr z (v := Iv (w64 (k.pins + 1))) z z kr (by intro u hu; simp [Value.cells] at hu; subst hu; rfl) hC (by show 4 + 1 ≤ 5; omega) tv ?_
  intro w6 S6
  have S7 : St E w6 I2 (w_p0.live.C.set b (.cells (cs_chain_kept { k with pins := w64 (k.pins + 1) } wk).toArray 83 (0, 0)) :: C4 :: Bx b_p0 (cs_chain_Chain p0 w_p0) 88 :: w_p0.news.C :: Os) := S6
  exact yb (yg nL6 (yf 0 3 [1] z (yj (S7.rf m2) z (ya 4 2 z (yb (yp (yaz ⟨I2, ⟨⟨w_p0.live.m, w_p0.live.C.set b (.cells (cs_chain_kept { k with pins := w64 (k.pins + 1) } wk).toArray 83 (0, 0))⟩, ⟨w_p0.pins.m, C4⟩, w_p0.news⟩, rfl, L2, S7.front2, ⟨hput I2 _ _ (Mem.Le.refl _) ⟨wk, rfl, ⟨hok.c⟩⟩, hm4, SMap.mono h_p0.news L2⟩⟩)))))))
def chain_Chain_Now (h : chain_Chain) : Option qC := (mget iEq h.live h.now).map (·.c)
theorem chain_Chain_Now_ok {p0 : chain_Chain} {b_p0 : Nat} {w_p0 : W_chain_Chain} (h_p0 : ok_chain_Chain I p0 w_p0) (hS : St E w I (Bx b_p0 (cs_chain_Chain p0 w_p0) 88 :: w_p0.live.C :: w_p0.pins.C :: w_p0.news.C :: Os)) {r : qC} (G : chain_Chain_Now p0 = some r) :
    Calls P 20 #[Pt b_p0 0] w (fun e w' => ∃ (I' : Mem) (w_rw0 : W_qC), e = .returned (vC r w_rw0) ∧ I.Le I' ∧ St E w' I' (Bx b_p0 (cs_chain_Chain p0 w_p0) 88 :: w_p0.live.C :: w_p0.pins.C :: w_p0.news.C :: Os) ∧ ok_qC I' r w_rw0) := by
  refine calls_W (args := [Pt b_p0 0]) (fn := Tryz.f20) rfl rfl rfl ?_
  unfold chain_Chain_Now at G
  obtain ⟨k, hk, rfl⟩ := Option.map_eq_some_iff.1 G
  refine yg [0] (yab hS (cs_qC z_qC zw_qC) 29 z fun b1 w1 S1 => yb (W.seq (yg nL2 (ya 0 1 z (WO.c1 (chain_Chain_dead_ok h_p0 S1.front4.front4.front4.front4 z) z fun I2 w2 L2 S2 => yb (yas fun _ => W.skip (ye (W.seq (have S3 := S2.drew; ya1 nL13 12 (ym (S3.rd m0) (ym (S3.rd m1) (yx S3.im))) ?_)))))))))
  generalize World.drew _ = w3 at *
  obtain ⟨Cm, lm, b, cs, hcm, hm, hg, hh, hC, K, ⟨wk, rfl, hok⟩, _⟩ := (h_p0.live.mono L2).look ieqP hk
  obtain ⟨v, hv, hq⟩ := hm.lookup (P := P) (t := 84) (kt := 3) (et := 81) kr (keyLaw_int (kt := 3) kr) p0.now (zv := .pointer none) (z0 := (none : Option Nat)) kr rfl
  rw [hg] at hv
  obtain rfl : v = Pt b 0 := hv
  refine yf 0 3 [0] z (yj (rd_c m0 (S3.rd m0)) z (yf 4 3 [1] z (yj (rd_c m0 (S3.rd m0)) z ?_)))
  refine WO.lookup z kr z z hq (fun w' hw => hcm w' (rd_c m1 (S3.rd m1) w' hw)) (Pt b 0) z ?_
  refine yf 9 2 [0] z (yaq (cs_qC k.c wk.c) K 0 (rd_c m1 (S3.rd m1)) z (WO.tail z ?_))
  exact yaa S3.front4 0 (cs_qC k.c wk.c) fun w7 S7 => yb (yp (En.c1 _ (S7.rd m0) ⟨I2, wk.c, rfl, L2, S7.drop, hok.c⟩))
def slices_IndexFunc_qT (p0 : List qT) (p1 : qT → Option Bool) : Option Int := (forN (fun (i4 : Nat) (_s : Unit) => (idx p0 (i4 : Int)).bind (fun x11 => (p1 x11).bind (fun (r17 : Bool) => (bif r17 then some (.inr (i4 : Int)) else some (.inl ()))))) p0.length 0 ()).bind (fun (t : Unit ⊕ (Int)) => match t with | .inl _ => some (-1) | .inr s19 => some s19)
theorem slices_IndexFunc_qT_ok {p0 : List qT} {p1 : qT → Option Bool} {a_p0 : Option Addr} {c_p0 : Nat} {g_p1 : FuncId} {k_p1 : List Value} (h_p0 : RSl 6 R_qT I a_p0 c_p0 p0) (h_p1 : ∀ {F : List Mem} {I' : Mem} {w : World} {u0 : qT} {w_u0 : W_qT}, I.Le I' → St E w I' (F ++ Os) → ok_qT I' u0 w_u0 → ∀ {r : Bool}, p1 u0 = some r → Calls P g_p1 (([(vT u0 w_u0)] : List Value) ++ k_p1).toArray w (fun e w' => ∃ (I'' : Mem), e = .returned (.bool r) ∧ I'.Le I'' ∧ St E w' I'' (F ++ Os))) (hcall_p1 : Callable P g_p1) (hS : St E w I Os) {r : Int} (G : slices_IndexFunc_qT p0 p1 = some r) :
    Calls P 99 #[(Sl a_p0 p0 c_p0), (.func (.func g_p1) #[] k_p1.toArray)] w (RT E I Os (Iv r)) := by
 refine calls_W (fn := Tryz.f99) rfl rfl rfl ?_
 unfold slices_IndexFunc_qT at G
 refine yg [0] (ya 0 1 z (yb (W.seq (yg nL3 (ya 0 3 z (yb (yn (bsk G fun t1 hloop5 G => have hlt9 := (h_p0).len_lt; W.wk (yap (m := p0.length) hloop5 (fun (i4 : Nat) (_s : Unit) => JI E I [(0, Sl a_p0 p0 c_p0), (1, .func (.func g_p1) #[] k_p1.toArray), (7, Nv p0.length), (8, Nv i4)] Os) ⟨I, rfl, lr, hS⟩ ?_ ?_)))))))))
 rintro i4 _ _ w6 hi10 ⟨I2, rfl, L3, S7⟩ x8 R1 hext1
 refine yg [0] (ya 0 1 z (yb (W.seq (yat fun _ => W.skip (ye (W.seq (yn (yg nL2 (ya 0 2 z (yac nL6 (yaf 0 11 (.func (.func g_p1) #[] k_p1.toArray) (ya 1 2 z ?_))))))))))))
 obtain ⟨x11, R1, Hx11, _, ⟨w_x11, rfl, h_x11⟩, Zx11⟩ := sx I2 h_p0 R1
 refine y0 78 6 Hx11 z (yaq ((cs_qT x11 w_x11)) Zx11 0 S7.rm z (bsk R1 fun r17 Xr12 R1 => WO.callv z kr z (g := g_p1) (kk := k_p1) (args := [(vT x11 w_x11)]) z kr hcall_p1 (h_p1 (F := []) L3 S7 h_x11 Xr12) ?_))
 rintro _ w13 ⟨I14, rfl, L15, S16⟩
 refine cv (yb (y6 R1 (fun K R1 => ?_) (fun K R1 => ?_)))
 refine yg nL2 (ya 0 2 z (yb (yp (yk (yh (yr ?_))))))
 obtain rfl := hext1 _ (sj R1).symm
 exact yk (yh (sj G ▸ yw ⟨I14, rfl, le, S16⟩))
 exact W.skip (yl (ye (yai nL2 (yao i4 z (ya 1 1 z (yt (yv ⟨(), (sj R1).symm, I14, rfl, le, S16⟩)))))))
 rintro _ _ w20 ⟨I2, rfl, L3, S21⟩ he
 cases he
 exact yg [0] (ya 0 1 z (yb (W.seq (yas fun _ => W.exit (yo (yq (yu (ye (yg [0] (ya 0 1 z (yb (yp (sj G ▸ yw ⟨I2, rfl, L3, S21⟩)))))))))))))
def slices_Clone_qL (p0 : List qL) : Option (List qL) := (app 32 ([] : List qL) p0).bind (fun x10 => some x10)
theorem slices_Clone_qL_ok {p0 : List qL} {a_p0 : Option Addr} {c_p0 : Nat} (h_p0 : RSl 3 R_qL I a_p0 c_p0 p0) (hS : St E w I Os) {r : (List qL)} (G : slices_Clone_qL p0 = some r) :
    Calls P 124 #[(Sl a_p0 p0 c_p0)] w (fun e w' => ∃ (I' : Mem) (ra0 : Option Addr) (rc0 : Nat) (rC0 : Mem), e = .returned (Sl ra0 r rc0) ∧ I.Le I' ∧ St E w' I' (rC0 :: Os) ∧ OwnSl 111 3 R_qL I' rC0 ra0 rc0 r) := by
 refine calls_W (fn := Tryz.f124) rfl rfl rfl ?_
 unfold slices_Clone_qL at G
 refine yg [0] (yaf 0 2 (.slice none 0 0) (yb (W.seq (yg nL2 (ya 0 1 z (ybk (e := 111) z kr kr z z ?_))))))
 refine yb (W.cd (fun K => ?_) (fun K => ?_))
 have ha0 := Option.isNone_iff_eq_none.1 K
 subst ha0
 have hx0 := (h_p0).none_nil
 subst hx0
 replace G : some ([] : List qL) = some r := by simpa [app] using G
 exact yg [0] (yaf 0 2 (.slice none 0 0) (yb (yp (yh (sj G ▸ yw ⟨I, none, 0, Mem.no, rfl, lr, hS.no, OwnSl.nil⟩)))))
 clear K
 refine W.skip (ye (yg nL4 (yad (rel := R_qL) (xs := ([] : List qL)) hS z kr z 111 3 [] kr z (Elr.nil) tv ?_)))
 intro a6 C4 w8 S7 ho5
 exact ya 1 1 z (apk G fun x10 h0_x10 he_x10 G => yau 111 32 (cs_qL z_qL) S7 ho5 h_p0 S7.im h0_x10 he_x10 z fun a11 c12 w13 C14 S15 ho16 => ya 3 1 z (yb (yp (sj G ▸ yw ⟨I, a11, c12, C14, rfl, lr, S15, ho16⟩))))
def slices_Clone_qK (p0 : List qK) : Option (List qK) := (app 176 ([] : List qK) p0).bind (fun x10 => some x10)
theorem slices_Clone_qK_ok {p0 : List qK} {a_p0 : Option Addr} {c_p0 : Nat} (h_p0 : RSl 12 R_qK I a_p0 c_p0 p0) (hS : St E w I Os) {r : (List qK)} (G : slices_Clone_qK p0 = some r) :
    Calls P 125 #[(Sl a_p0 p0 c_p0)] w (fun e w' => ∃ (I' : Mem) (ra0 : Option Addr) (rc0 : Nat) (rC0 : Mem), e = .returned (Sl ra0 r rc0) ∧ I.Le I' ∧ St E w' I' (rC0 :: Os) ∧ OwnSl 137 12 R_qK I' rC0 ra0 rc0 r) := by
 refine calls_W (fn := Tryz.f125) rfl rfl rfl ?_
 unfold slices_Clone_qK at G
 refine yg [0] (yaf 0 2 (.slice none 0 0) (yb (W.seq (yg nL2 (ya 0 1 z (ybk (e := 137) z kr kr z z ?_))))))
 refine yb (W.cd (fun K => ?_) (fun K => ?_))
 have ha0 := Option.isNone_iff_eq_none.1 K
 subst ha0
 have hx0 := (h_p0).none_nil
 subst hx0
 replace G : some ([] : List qK) = some r := by simpa [app] using G
 exact yg [0] (yaf 0 2 (.slice none 0 0) (yb (yp (yh (sj G ▸ yw ⟨I, none, 0, Mem.no, rfl, lr, hS.no, OwnSl.nil⟩)))))
 clear K
 refine W.skip (ye (yg nL4 (yad (rel := R_qK) (xs := ([] : List qK)) hS z kr z 137 12 [] kr z (Elr.nil) tv ?_)))
 intro a6 C4 w8 S7 ho5
 exact ya 1 1 z (apk G fun x10 h0_x10 he_x10 G => yau 137 176 (cs_qK z_qK zw_qK) S7 ho5 h_p0 S7.im h0_x10 he_x10 z fun a11 c12 w13 C14 S15 ho16 => ya 3 1 z (yb (yp (sj G ▸ yw ⟨I, a11, c12, C14, rfl, lr, S15, ho16⟩))))
def slices_Clone_string (p0 : List By8) : Option (List By8) := (app 16 ([] : List By8) p0).bind (fun x10 => some x10)
theorem slices_Clone_string_ok {p0 : List By8} {a_p0 : Option Addr} {c_p0 : Nat} (h_p0 : RSl 1 RStr I a_p0 c_p0 p0) (hS : St E w I Os) {r : (List By8)} (G : slices_Clone_string p0 = some r) :
    Calls P 68 #[(Sl a_p0 p0 c_p0)] w (fun e w' => ∃ (I' : Mem) (ra0 : Option Addr) (rc0 : Nat) (rC0 : Mem), e = .returned (Sl ra0 r rc0) ∧ I.Le I' ∧ St E w' I' (rC0 :: Os) ∧ OwnSl 9 1 RStr I' rC0 ra0 rc0 r) := by
 refine calls_W (fn := Tryz.f68) rfl rfl rfl ?_
 unfold slices_Clone_string at G
 refine yg [0] (yaf 0 2 (.slice none 0 0) (yb (W.seq (yg nL2 (ya 0 1 z (ybk (e := 9) z kr kr z z ?_))))))
 refine yb (W.cd (fun K => ?_) (fun K => ?_))
 have ha0 := Option.isNone_iff_eq_none.1 K
 subst ha0
 have hx0 := (h_p0).none_nil
 subst hx0
 replace G : some ([] : List By8) = some r := by simpa [app] using G
 exact yg [0] (yaf 0 2 (.slice none 0 0) (yb (yp (yh (sj G ▸ yw ⟨I, none, 0, Mem.no, rfl, lr, hS.no, OwnSl.nil⟩)))))
 clear K
 refine W.skip (ye (yg nL4 (yad (rel := RStr) (xs := ([] : List By8)) hS z kr z 9 1 [] kr z (Elr.nil) tv ?_)))
 intro a6 C4 w8 S7 ho5
 exact ya 1 1 z (apk G fun x10 h0_x10 he_x10 G => yau 9 16 [(.string eB)] S7 ho5 h_p0 S7.im h0_x10 he_x10 z fun a11 c12 w13 C14 S15 ho16 => ya 3 1 z (yb (yp (sj G ▸ yw ⟨I, a11, c12, C14, rfl, lr, S15, ho16⟩))))
def expr_Clone_fu : Nat → qE → Option qE
  | 0, _ => none
  | fu + 1, p0 => (forE (fun (i13 : Nat) (s12 : List qE) => (idx p0.Kids (i13 : Int)).bind (fun x24 => (expr_Clone_fu fu x24).bind (fun r36 => (app 88 s12 ([r36] : List qE)).bind (fun x45 => some x45)))) p0.Kids.length 0 ([] : List qE)).bind (fun s12 => some { p0 with Kids := s12 })
noncomputable def expr_Clone (p0 : qE) : Option qE := anyFuel (fun fu => expr_Clone_fu fu p0)
theorem expr_Clone_fu_ok : ∀ (fu : Nat) {E w : World} {I : Mem} {Os : List Mem} {p0 : qE} {w_p0 : W_qE} (h_p0 : ok_qE I p0 w_p0) (hS : St E w I Os) {r : qE} (G : expr_Clone_fu fu p0 = some r),
    Calls P 126 #[(vE p0 w_p0)] w (fun e w' => ∃ I' w_rw0, e = .returned (vE r w_rw0) ∧ I.Le I' ∧ St E w' I' Os ∧ ok_qE I' r w_rw0) := by
 intro fu
 induction fu with
 | zero => intro E w I Os p0 w_p0 h_p0 hS r G; cases G
 | succ fu ih =>
 intro E w I Os p0 w_p0 h_p0 hS r G
 refine calls_W (fn := Tryz.f126) rfl rfl rfl ?_
 unfold expr_Clone_fu at G
 refine yg nL2 (yab hS (cs_qE p0 w_p0) 41 z fun b1 w4 S3 => yab S3 (cs_qE z_qE zw_qE) 41 z fun b5 w8 S7 => yac [0] (yaf 0 3 (.slice none 0 0) (yb (W.seq (yg nL4 (yf 0 1 [6] z (yj (S7.rf m1) z (ya 2 2 z (yb (yn (bsk G fun s12 hloop14 G => have hlt22 := (h_p0.Kids).len_lt; W.wk (ya0 (m := p0.Kids.length) hloop14 (fun (i13 : Nat) (s12 : List qE) fr w => ∃ I10 a_s12 c_s12 C_s12, fr = [(1, Pt b1 0), (2, Pt b5 0), (3, Sl a_s12 s12 c_s12), (7, Sl w_p0.Kids.a p0.Kids w_p0.Kids.c), (8, Nv p0.Kids.length), (9, Nv i13)] ∧ I.Le I10 ∧ St E w I10 (bE b1 p0 w_p0 :: (bE b5 z_qE zw_qE) :: (C_s12) :: Os) ∧ OwnSl 41 7 Q_qE I10 C_s12 a_s12 c_s12 s12) ⟨I, none, 0, Mem.no, rfl, lr, S7.no.front1.front2, OwnSl.nil⟩ ?_ ?_))))))))))))
 rintro i13 s12 _ w19 hi23 ⟨I10, a_s12, c_s12, C_s12, rfl, L11, S20, h_s12⟩ x21 R1
 refine yg [0] (ya 0 1 z (yb (W.seq (yat fun _ => W.skip (ye (W.seq (yn (yg nL4 ?_))))))))
 obtain ⟨x24, Xx24, R1⟩ := bsm R1
 obtain ⟨h0_x24, h1_x24, Xx24⟩ := idx_some Xx24
 obtain ⟨ha_x24, cs_x24, hn_x24, hr_x24, Zx24⟩ := ((RSl.mono h_p0.Kids L11)).el _ _ Xx24
 obtain ⟨w_x24, rfl, h_x24⟩ := Q_qE_iff.1 hr_x24
 refine ya4 41 7 ha_x24 h0_x24 h1_x24 ?_
 refine yaq ((cs_qE x24 w_x24)) Zx24 0 S20.rm z (yab S20 (cs_qE z_qE zw_qE) 41 z fun b25 w28 S27 => yaa S27 0 (cs_qE x24 w_x24) fun w30 S29 => yb (yai nL6 (ya 0 1 z (y7 ((cs_qE x24 w_x24)) (S29.rf m0) z (bsk R1 fun r36 Xr31 R1 => yae (ih h_x24 S29 Xr31) ?_)))))
 rintro _ w32 ⟨I33, w_r36, rfl, L34, S35, h_r36⟩
 refine cv (yad (rel := Q_qE) (xs := ([r36] : List qE)) S35 z kr z 41 7 [(cs_qE r36 w_r36)] kr z ((Elr.cons (Q_qE_iff.2 ⟨w_r36, rfl, h_r36⟩) Elr.nil)) tv ?_)
 intro a40 C38 w42 S41 ho39
 have S44 := S41.front4
 exact apk R1 fun x45 h0_x45 he_x45 R1 => yau 41 88 (cs_qE z_qE zw_qE) S44 (OwnSl.mono h_s12 L34) ho39.sl (S44.rd m1) h0_x45 he_x45 z fun a46 c47 w48 C49 S50 ho51 => ya 5 1 z (yt (yl (ye (yai nL2 (yao i13 z (ya 1 1 z (yt (sj R1 ▸ yv ⟨I33, a46, c47, C49, rfl, le, S50.front1.drop.front1.drop.front2.front2, ho51⟩))))))))
 rintro _ w58 ⟨I10, a_s12, c_s12, C_s12, rfl, L11, S59, h_s12⟩
 refine yg [0] (ya 0 1 z (yb (W.seq (yas fun _ => W.exit (yo (yq (yu (ye (yg nL3 (yf 0 2 [6] z ?_))))))))))
 obtain ⟨I61, L62, S64, hp63⟩ := yag h_s12 S59.front2
 refine yaa S64 6 (cs_qE ({ p0 with Kids := s12 }) (⟨⟨a_s12, c_s12⟩⟩ : W_qE)) fun w66 S65 => yac nL2 (y7 ((cs_qE ({ p0 with Kids := s12 }) (⟨⟨a_s12, c_s12⟩⟩ : W_qE))) (S65.rf m0) z (yaa S65.front1 0 (cs_qE ({ p0 with Kids := s12 }) (⟨⟨a_s12, c_s12⟩⟩ : W_qE)) fun w69 S68 => yb (yp ?_)))
 have hk72 : ok_qE I61 ({ p0 with Kids := s12 }) (⟨⟨a_s12, c_s12⟩⟩ : W_qE) := ⟨hp63⟩
 exact sj G ▸ En.c1 _ (S68.rd m0) ⟨I61, (⟨⟨a_s12, c_s12⟩⟩ : W_qE), rfl, le, S68.d2, hk72⟩
theorem expr_Clone_ok {p0 : qE} {w_p0 : W_qE} (h_p0 : ok_qE I p0 w_p0) (hS : St E w I Os) {r : qE} (G : expr_Clone p0 = some r) :
    Calls P 126 #[(vE p0 w_p0)] w (fun e w' => ∃ I' w_rw0, e = .returned (vE r w_rw0) ∧ I.Le I' ∧ St E w' I' Os ∧ ok_qE I' r w_rw0) := by
 obtain ⟨fu, hf⟩ := anyFuel_some G
 exact expr_Clone_fu_ok fu h_p0 hS hf
def slices_Clone_qI (p0 : List qI) : Option (List qI) := (app 40 ([] : List qI) p0).bind (fun x10 => some x10)
theorem slices_Clone_qI_ok {p0 : List qI} {a_p0 : Option Addr} {c_p0 : Nat} (h_p0 : RSl 2 R_qI I a_p0 c_p0 p0) (hS : St E w I Os) {r : (List qI)} (G : slices_Clone_qI p0 = some r) :
    Calls P 127 #[(Sl a_p0 p0 c_p0)] w (fun e w' => ∃ (I' : Mem) (ra0 : Option Addr) (rc0 : Nat) (rC0 : Mem), e = .returned (Sl ra0 r rc0) ∧ I.Le I' ∧ St E w' I' (rC0 :: Os) ∧ OwnSl 139 2 R_qI I' rC0 ra0 rc0 r) := by
 refine calls_W (fn := Tryz.f127) rfl rfl rfl ?_
 unfold slices_Clone_qI at G
 refine yg [0] (yaf 0 2 (.slice none 0 0) (yb (W.seq (yg nL2 (ya 0 1 z (ybk (e := 139) z kr kr z z ?_))))))
 refine yb (W.cd (fun K => ?_) (fun K => ?_))
 have ha0 := Option.isNone_iff_eq_none.1 K
 subst ha0
 have hx0 := (h_p0).none_nil
 subst hx0
 replace G : some ([] : List qI) = some r := by simpa [app] using G
 exact yg [0] (yaf 0 2 (.slice none 0 0) (yb (yp (yh (sj G ▸ yw ⟨I, none, 0, Mem.no, rfl, lr, hS.no, OwnSl.nil⟩)))))
 clear K
 refine W.skip (ye (yg nL4 (yad (rel := R_qI) (xs := ([] : List qI)) hS z kr z 139 2 [] kr z (Elr.nil) tv ?_)))
 intro a6 C4 w8 S7 ho5
 exact ya 1 1 z (apk G fun x10 h0_x10 he_x10 G => yau 139 40 (cs_qI z_qI zw_qI) S7 ho5 h_p0 S7.im h0_x10 he_x10 z fun a11 c12 w13 C14 S15 ho16 => ya 3 1 z (yb (yp (sj G ▸ yw ⟨I, a11, c12, C14, rfl, lr, S15, ho16⟩))))
noncomputable def table_Clone (p0 : qT) : Option qT := (slices_Clone_qL p0.Cols).bind (fun r14 => (slices_Clone_qK p0.Cons).bind (fun r27 => (forE (fun (i35 : Nat) (s34 : List qK) => (idx s34 (i35 : Int)).bind (fun x45 => (slices_Clone_string x45.Cols).bind (fun r59 => (slices_Clone_string x45.Refs).bind (fun r65 => (expr_Clone x45.Check).bind (fun r71 => (idx s34 (i35 : Int)).bind (fun x72 => (idx (s34.set ((i35 : Int)).toNat ({ x72 with Cols := r59 })) (i35 : Int)).bind (fun x85 => (idx ((s34.set ((i35 : Int)).toNat ({ x72 with Cols := r59 })).set ((i35 : Int)).toNat ({ x85 with Refs := r65 })) (i35 : Int)).bind (fun x97 => some (((s34.set ((i35 : Int)).toNat ({ x72 with Cols := r59 })).set ((i35 : Int)).toNat ({ x85 with Refs := r65 })).set ((i35 : Int)).toNat ({ x97 with Check := r71 })))))))))) r27.length 0 r27).bind (fun s34 => (slices_Clone_qI p0.Idx).bind (fun r115 => (forE (fun (i123 : Nat) (s122 : List qI) => (idx s122 (i123 : Int)).bind (fun x134 => (slices_Clone_string x134.Cols).bind (fun r148 => (idx s122 (i123 : Int)).bind (fun x149 => some (s122.set ((i123 : Int)).toNat ({ x149 with Cols := r148 })))))) r115.length 0 r115).bind (fun s122 => some { p0 with Cols := r14, Cons := s34, Idx := s122 })))))
theorem table_Clone_ok {p0 : qT} {w_p0 : W_qT} (h_p0 : ok_qT I p0 w_p0) (hS : St E w I Os) {r : qT} (G : table_Clone p0 = some r) :
    Calls P 101 #[(vT p0 w_p0)] w (fun e w' => ∃ I' w_rw0, e = .returned (vT r w_rw0) ∧ I.Le I' ∧ St E w' I' Os ∧ ok_qT I' r w_rw0) := by
 refine calls_W (fn := Tryz.f101) rfl rfl rfl ?_
 unfold table_Clone at G
 refine yg nL2 (yab hS (cs_qT p0 w_p0) 78 z fun b1 w4 S3 => yab S3 (cs_qT z_qT zw_qT) 78 z fun b5 w8 S7 => yac nL5 (yf 0 1 [3] z (yj (S7.rf m1) z (bsk G fun r14 Xr9 G => yae (slices_Clone_qL_ok h_p0.Cols S7 Xr9) ?_))))
 rintro _ w10 ⟨I11, a_r14, c_r14, C_r14, rfl, L12, S13, h_r14⟩
 refine cv (yf 3 1 [3] z ?_)
 obtain ⟨I15, L16, S18, hp17⟩ := yag h_r14 S13
 refine yaa S18.front1 3 (cs_qT ({ p0 with Cols := r14 }) ({ w_p0 with Cols := ⟨a_r14, c_r14⟩ })) fun w21 S20 => yac nL5 (yf 0 1 [4] z (yj (S20.rf m0) z (bsk G fun r27 Xr22 G => yae (slices_Clone_qK_ok (up h_p0.Cons) S20 Xr22) ?_)))
 rintro _ w23 ⟨I24, a_r27, c_r27, C_r27, rfl, L25, S26, h_r27⟩
 refine cv (yf 3 1 [4] z (yaa S26.front1 4 (cs_qT ({ p0 with Cols := r14, Cons := r27 }) ({ w_p0 with Cols := ⟨a_r14, c_r14⟩, Cons := ⟨a_r27, c_r27⟩ })) fun w30 S29 => yb (W.seq (yg nL4 (yf 0 1 [4] z (yj (S29.rf m0) z (ya 2 2 z (yb (yn (bsk G fun s34 hloop36 G => have hlt43 := (h_r27.sl).len_lt; W.wk (ya0 (m := r27.length) hloop36 (fun (i35 : Nat) (s34 : List qK) fr w => ∃ I32 C_s34, fr = [(1, Pt b1 0), (2, Pt b5 0), (16, Sl a_r27 s34 c_r27), (17, Nv r27.length), (18, Nv i35)] ∧ I24.Le I32 ∧ St E w I32 ((Bx b1 (cs_qT ({ p0 with Cols := r14, Cons := s34 }) ({ w_p0 with Cols := ⟨a_r14, c_r14⟩, Cons := ⟨a_r27, c_r27⟩ })) 78) :: (bT b5 z_qT zw_qT) :: (C_s34) :: Os) ∧ OwnSl 137 12 R_qK I32 C_s34 a_r27 c_r27 s34) ⟨I24, C_r27, rfl, lr, S29.front1.front2.front2, h_r27⟩ ?_ ?_)))))))))))
 rintro i35 s34 _ w40 hi44 ⟨I32, C_s34, rfl, L33, S41, h_s34⟩ x42 R1
 refine yg [0] (ya 0 1 z (yb (W.seq (yat fun _ => W.skip (ye (W.seq (yn (yg nL6 (ya 0 1 z ?_)))))))))
 obtain ⟨x45, R1, Hx45, _, ⟨w_x45, rfl, h_x45⟩, Zx45⟩ := sl_ix (h_s34.sl) R1
 refine y0 137 12 Hx45 z (yaq ((cs_qK x45 w_x45)) Zx45 0 (S41.rf m2) z (yab S41 (cs_qK z_qK zw_qK) 137 z fun b46 w49 S48 => ya 4 1 z (yaa S48 0 (cs_qK x45 w_x45) fun w51 S50 => yb (have S52 := S50.drew; ybl (l := nL27) kr 24 (KR I32 [bK b46 x45 w_x45, Bx b1 (cs_qT ({ p0 with Cols := r14, Cons := s34 }) ({ w_p0 with Cols := ⟨a_r14, c_r14⟩, Cons := ⟨a_r27, c_r27⟩ })) 78]) qR (.ords nL27 [0, 1, 2, 9, 10, 11, 12, 13, 14, 15, 16, 17, 18, 19, 20, 3, 4, 5, 21, 22, 23, 6, 7, 8, 24, 25, 26] kr kr kr kr kr) kr (ym (S52.rd m0) (ym (S52.rd m1) (yx S52.im))) ?_))))
 generalize World.drew _ = w53 at *
 refine yf 0 1 [4] z (yj (rd_c m1 (S52.rd m1)) z (yf 2 2 [4] z (yj (rd_c m1 (S52.rd m1)) z (yf 5 2 [4] z (yj (rd_c m1 (S52.rd m1)) z (yf 8 2 [2] z (yj (rd_c m0 (S52.rd m0)) z (bsk R1 fun r59 Xr54 R1 => yae (slices_Clone_string_ok h_x45.Cols S52 Xr54) ?_))))))))
 rintro _ w55 ⟨I56, a_r59, c_r59, C_r59, rfl, L57, S58, h_r59⟩
 refine ⟨_, rfl, (ym (S58.rd m1) (ym (S58.rd m2) (yx (S58.im.of_le L57)))), ?_⟩
 refine yf 12 1 [11] z (yj (rd_c m0 (S58.rd m1)) z (bsk R1 fun r65 Xr60 R1 => yae (slices_Clone_string_ok (RSl.mono h_x45.Refs L57) S58 Xr60) ?_))
 rintro _ w61 ⟨I62, a_r65, c_r65, C_r65, rfl, L63, S64, h_r65⟩
 refine ⟨_, rfl, (ym (S64.rd m2) (ym (S64.rd m3) (yx (S64.im.of_le le)))), ?_⟩
 refine yf 15 1 [3] z (y7 ((cs_qE x45.Check w_x45.Check)) (rd_c m0 (S64.rd m2)) z (bsk R1 fun r71 Xr66 R1 => yae (expr_Clone_ok (h_x45.Check.mono le) S64 Xr66) ?_))
 rintro _ w67 ⟨I68, w_r71, rfl, L69, S70, h_r71⟩
 refine ⟨_, rfl, (ym (S70.rd m2) (ym (S70.rd m3) (yx (S70.im.of_le le)))), ?_⟩
 obtain ⟨x72, R1, h0_x72, h1_x72, Xx72, ha_x72, _, _, ⟨w_x72, rfl, h_x72⟩, Zx72⟩ := sl_at (h_s34.sl) R1
 refine ya4 137 12 ha_x72 h0_x72 h1_x72 ?_
 refine yf 19 1 [2] z ?_
 obtain ⟨I74, L75, S77, hp76⟩ := yag (h_r59.mono (L63.trans L69)) S70.front1
 have hk83 : ok_qK I74 ({ x72 with Cols := r59 }) ({ w_x72 with Cols := ⟨a_r59, c_r59⟩ }) := ⟨hp76, (h_x72.Check.mono (((L57.trans L63).trans L69).trans L75)), (RSl.mono h_x72.Refs (((L57.trans L63).trans L69).trans L75))⟩
 refine ya2 S77.front4 (OwnSl.mono h_s34 le) z kr z Xx72 (u' := { x72 with Cols := r59 }) 2 z z kr z z (fun cs hrel => (by obtain ⟨w_zz, rfl, h_zz⟩ := hrel; exact ⟨{ w_zz with Cols := ⟨a_r59, c_r59⟩ }, rfl, { h_zz with Cols := hp76 }⟩)) (fun w80 C81 S79 => (ym (S79.rd m2) (ym (S79.rd m3) (yx (S79.im.of_le le))))) ?_
 intro w80 C81 S79 ho82
 refine y8 16 z (show Value.slice a_r27 s34.length c_r27 = Value.slice a_r27 (s34.set ((i35 : Int)).toNat ({ x72 with Cols := r59 })).length c_r27 by simp only [List.length_set]) ?_
 refine y8 24 z (show Value.slice a_r27 s34.length c_r27 = Value.slice a_r27 (s34.set ((i35 : Int)).toNat ({ x72 with Cols := r59 })).length c_r27 by simp only [List.length_set]) ?_
 refine y8 27 z (show Value.slice a_r27 s34.length c_r27 = Value.slice a_r27 (s34.set ((i35 : Int)).toNat ({ x72 with Cols := r59 })).length c_r27 by simp only [List.length_set]) ?_
 refine y8 30 z (show Value.slice a_r27 s34.length c_r27 = Value.slice a_r27 (s34.set ((i35 : Int)).toNat ({ x72 with Cols := r59 })).length c_r27 by simp only [List.length_set]) ?_
 have S84 : St E w80 I74 ((C81) :: (C_r65) :: (bK b46 x45 w_x45) :: (Bx b1 (cs_qT ({ p0 with Cols := r14, Cons := (s34.set ((i35 : Int)).toNat ({ x72 with Cols := r59 })) }) ({ w_p0 with Cols := ⟨a_r14, c_r14⟩, Cons := ⟨a_r27, c_r27⟩ })) 78) :: (bT b5 z_qT zw_qT) :: Os) := by have hq := S79; simp only [cs_qT, List.length_set] at hq ⊢; exact hq
 obtain ⟨x85, R1, h0_x85, h1_x85, Xx85, ha_x85, _, _, ⟨w_x85, rfl, h_x85⟩, Zx85⟩ := sl_at (ho82.sl) R1
 refine ya4 137 12 ha_x85 h0_x85 h1_x85 ?_
 refine yf 22 1 [11] z ?_
 obtain ⟨I87, L88, S90, hp89⟩ := yag (h_r65.mono (L69.trans L75)) S84.front1
 have hk95 : ok_qK I87 ({ x85 with Refs := r65 }) ({ w_x85 with Refs := ⟨a_r65, c_r65⟩ }) := ⟨(RSl.mono h_x85.Cols L88), (h_x85.Check.mono L88), hp89⟩
 refine ya2 S90 (OwnSl.mono ho82 L88) z kr z Xx85 (u' := { x85 with Refs := r65 }) 11 z z kr z z (fun cs hrel => (by obtain ⟨w_zz, rfl, h_zz⟩ := hrel; exact ⟨{ w_zz with Refs := ⟨a_r65, c_r65⟩ }, rfl, { h_zz with Refs := hp89 }⟩)) (fun w92 C93 S91 => (ym (S91.rd m1) (ym (Rdb.eq (by simp only [cs_qT, List.length_set]) (S91.rd m2)) (yx (S91.im.of_le le))))) ?_
 intro w92 C93 S91 ho94
 refine y8 16 z (show Value.slice a_r27 (s34.set ((i35 : Int)).toNat ({ x72 with Cols := r59 })).length c_r27 = Value.slice a_r27 ((s34.set ((i35 : Int)).toNat ({ x72 with Cols := r59 })).set ((i35 : Int)).toNat ({ x85 with Refs := r65 })).length c_r27 by simp only [List.length_set]) ?_
 refine y8 24 z (show Value.slice a_r27 (s34.set ((i35 : Int)).toNat ({ x72 with Cols := r59 })).length c_r27 = Value.slice a_r27 ((s34.set ((i35 : Int)).toNat ({ x72 with Cols := r59 })).set ((i35 : Int)).toNat ({ x85 with Refs := r65 })).length c_r27 by simp only [List.length_set]) ?_
 refine y8 27 z (show Value.slice a_r27 (s34.set ((i35 : Int)).toNat ({ x72 with Cols := r59 })).length c_r27 = Value.slice a_r27 ((s34.set ((i35 : Int)).toNat ({ x72 with Cols := r59 })).set ((i35 : Int)).toNat ({ x85 with Refs := r65 })).length c_r27 by simp only [List.length_set]) ?_
 refine y8 30 z (show Value.slice a_r27 (s34.set ((i35 : Int)).toNat ({ x72 with Cols := r59 })).length c_r27 = Value.slice a_r27 ((s34.set ((i35 : Int)).toNat ({ x72 with Cols := r59 })).set ((i35 : Int)).toNat ({ x85 with Refs := r65 })).length c_r27 by simp only [List.length_set]) ?_
 have S96 : St E w92 I87 ((C93) :: (bK b46 x45 w_x45) :: (Bx b1 (cs_qT ({ p0 with Cols := r14, Cons := ((s34.set ((i35 : Int)).toNat ({ x72 with Cols := r59 })).set ((i35 : Int)).toNat ({ x85 with Refs := r65 })) }) ({ w_p0 with Cols := ⟨a_r14, c_r14⟩, Cons := ⟨a_r27, c_r27⟩ })) 78) :: (bT b5 z_qT zw_qT) :: Os) := by have hq := S91; simp only [cs_qT, List.length_set] at hq ⊢; exact hq
 refine WO.tail z ?_
 obtain ⟨x97, R1, h0_x97, h1_x97, Xx97, ha_x97, _, _, ⟨w_x97, rfl, h_x97⟩, Zx97⟩ := sl_at (ho94.sl) R1
 refine ya4 137 12 ha_x97 h0_x97 h1_x97 ?_
 refine yf 25 1 [3] z ?_
 have hk102 : ok_qK I87 ({ x97 with Check := r71 }) ({ w_x97 with Check := w_r71 }) := ⟨h_x97.Cols, (h_r71.mono (L75.trans L88)), h_x97.Refs⟩
 refine ya2 S96 ho94 z kr z Xx97 (u' := { x97 with Check := r71 }) 3 z z kr z z (fun cs hrel => (by obtain ⟨w_zz, rfl, h_zz⟩ := hrel; exact ⟨{ w_zz with Check := w_r71 }, rfl, { h_zz with Check := (h_r71.mono le) }⟩)) tv ?_
 intro w99 C100 S98 ho101
 refine y8 16 z (show Value.slice a_r27 ((s34.set ((i35 : Int)).toNat ({ x72 with Cols := r59 })).set ((i35 : Int)).toNat ({ x85 with Refs := r65 })).length c_r27 = Value.slice a_r27 (((s34.set ((i35 : Int)).toNat ({ x72 with Cols := r59 })).set ((i35 : Int)).toNat ({ x85 with Refs := r65 })).set ((i35 : Int)).toNat ({ x97 with Check := r71 })).length c_r27 by simp only [List.length_set]) ?_
 refine y8 24 z (show Value.slice a_r27 ((s34.set ((i35 : Int)).toNat ({ x72 with Cols := r59 })).set ((i35 : Int)).toNat ({ x85 with Refs := r65 })).length c_r27 = Value.slice a_r27 (((s34.set ((i35 : Int)).toNat ({ x72 with Cols := r59 })).set ((i35 : Int)).toNat ({ x85 with Refs := r65 })).set ((i35 : Int)).toNat ({ x97 with Check := r71 })).length c_r27 by simp only [List.length_set]) ?_
 refine y8 27 z (show Value.slice a_r27 ((s34.set ((i35 : Int)).toNat ({ x72 with Cols := r59 })).set ((i35 : Int)).toNat ({ x85 with Refs := r65 })).length c_r27 = Value.slice a_r27 (((s34.set ((i35 : Int)).toNat ({ x72 with Cols := r59 })).set ((i35 : Int)).toNat ({ x85 with Refs := r65 })).set ((i35 : Int)).toNat ({ x97 with Check := r71 })).length c_r27 by simp only [List.length_set]) ?_
 refine y8 30 z (show Value.slice a_r27 ((s34.set ((i35 : Int)).toNat ({ x72 with Cols := r59 })).set ((i35 : Int)).toNat ({ x85 with Refs := r65 })).length c_r27 = Value.slice a_r27 (((s34.set ((i35 : Int)).toNat ({ x72 with Cols := r59 })).set ((i35 : Int)).toNat ({ x85 with Refs := r65 })).set ((i35 : Int)).toNat ({ x97 with Check := r71 })).length c_r27 by simp only [List.length_set]) ?_
 have S103 : St E w99 I87 ((C100) :: (bK b46 x45 w_x45) :: (Bx b1 (cs_qT ({ p0 with Cols := r14, Cons := (((s34.set ((i35 : Int)).toNat ({ x72 with Cols := r59 })).set ((i35 : Int)).toNat ({ x85 with Refs := r65 })).set ((i35 : Int)).toNat ({ x97 with Check := r71 })) }) ({ w_p0 with Cols := ⟨a_r14, c_r14⟩, Cons := ⟨a_r27, c_r27⟩ })) 78) :: (bT b5 z_qT zw_qT) :: Os) := by have hq := S98; simp only [cs_qT, List.length_set] at hq ⊢; exact hq
 exact yt (yl (ye (yai nL2 (yao i35 z (ya 1 1 z (yt (sj R1 ▸ yv ⟨I87, C100, rfl, le, S103.front1.drop.front2.front2, ho101⟩)))))))
 rintro _ w108 ⟨I32, C_s34, rfl, L33, S109, h_s34⟩
 refine yg [0] (ya 0 1 z (yb (W.seq (yas fun _ => W.exit (yo (yq (yu (ye (yg nL5 (yf 0 1 [5] z (yj (S109.rf m0) z (bsk G fun r115 Xr110 G => yae (slices_Clone_qI_ok (up h_p0.Idx) S109 Xr110) ?_))))))))))))
 rintro _ w111 ⟨I112, a_r115, c_r115, C_r115, rfl, L113, S114, h_r115⟩
 refine cv (yf 3 1 [5] z (yaa S114.front1 5 (cs_qT ({ p0 with Cols := r14, Cons := s34, Idx := r115 }) (⟨⟨a_r14, c_r14⟩, ⟨a_r27, c_r27⟩, ⟨a_r115, c_r115⟩⟩ : W_qT)) fun w118 S117 => yb (W.seq (yg nL4 (yf 0 1 [5] z (yj (S117.rf m0) z (ya 2 2 z (yb (yn (bsk G fun s122 hloop124 G => have hlt132 := (h_r115.sl).len_lt; W.wk (ya0 (m := r115.length) hloop124 (fun (i123 : Nat) (s122 : List qI) fr w => ∃ I120 C_s122, fr = [(1, Pt b1 0), (2, Pt b5 0), (53, Sl a_r115 s122 c_r115), (54, Nv r115.length), (55, Nv i123)] ∧ I112.Le I120 ∧ St E w I120 ((Bx b1 (cs_qT ({ p0 with Cols := r14, Cons := s34, Idx := s122 }) (⟨⟨a_r14, c_r14⟩, ⟨a_r27, c_r27⟩, ⟨a_r115, c_r115⟩⟩ : W_qT)) 78) :: (bT b5 z_qT zw_qT) :: (C_s122) :: (C_s34) :: Os) ∧ OwnSl 139 2 R_qI I120 C_s122 a_r115 c_r115 s122) ⟨I112, C_r115, rfl, lr, S117.front3.front2.front3.front3, h_r115⟩ ?_ ?_)))))))))))
 rintro i123 s122 _ w129 hi133 ⟨I120, C_s122, rfl, L121, S130, h_s122⟩ x131 R1
 refine yg [0] (ya 0 1 z (yb (W.seq (yat fun _ => W.skip (ye (W.seq (yn (yg nL6 (ya 0 1 z ?_)))))))))
 obtain ⟨x134, R1, Hx134, _, ⟨w_x134, rfl, h_x134⟩, Zx134⟩ := sl_ix (h_s122.sl) R1
 refine y0 139 2 Hx134 z (yaq ((cs_qI x134 w_x134)) Zx134 0 (S130.rf m2) z (yab S130 (cs_qI z_qI zw_qI) 139 z fun b135 w138 S137 => ya 4 1 z (yaa S137 0 (cs_qI x134 w_x134) fun w140 S139 => yb (have S141 := S139.drew; ya1 nL9 6 (ym (S141.rd m0) (ym (S141.rd m1) (yx S141.im))) ?_))))
 generalize World.drew _ = w142 at *
 refine yf 0 1 [5] z (yj (rd_c m1 (S141.rd m1)) z (yf 2 2 [1] z (yj (rd_c m0 (S141.rd m0)) z (bsk R1 fun r148 Xr143 R1 => yae (slices_Clone_string_ok h_x134.Cols S141 Xr143) ?_))))
 rintro _ w144 ⟨I145, a_r148, c_r148, C_r148, rfl, L146, S147, h_r148⟩
 refine ⟨_, rfl, (ym (S147.rd m1) (ym (S147.rd m2) (yx (S147.im.of_le L146)))), ?_⟩
 refine WO.tail z ?_
 obtain ⟨x149, R1, h0_x149, h1_x149, Xx149, ha_x149, _, _, ⟨w_x149, rfl, h_x149⟩, Zx149⟩ := sl_at ((h_s122.mono L146).sl) R1
 refine ya4 139 2 ha_x149 h0_x149 h1_x149 ?_
 refine yf 7 1 [1] z ?_
 obtain ⟨I150, L151, S153, hp152⟩ := yag h_r148 S147
 have hk159 : ok_qI I150 ({ x149 with Cols := r148 }) (⟨⟨a_r148, c_r148⟩⟩ : W_qI) := ⟨hp152⟩
 refine ya2 S153.front3 (OwnSl.mono h_s122 le) z kr z Xx149 (u' := { x149 with Cols := r148 }) 1 z z kr z z (fun cs hrel => (by obtain ⟨w_zz, rfl, h_zz⟩ := hrel; exact ⟨{ w_zz with Cols := ⟨a_r148, c_r148⟩ }, rfl, { h_zz with Cols := hp152 }⟩)) tv ?_
 intro w156 C157 S155 ho158
 refine y8 53 z (show Value.slice a_r115 s122.length c_r115 = Value.slice a_r115 (s122.set ((i123 : Int)).toNat ({ x149 with Cols := r148 })).length c_r115 by simp only [List.length_set]) ?_
 refine y8 61 z (show Value.slice a_r115 s122.length c_r115 = Value.slice a_r115 (s122.set ((i123 : Int)).toNat ({ x149 with Cols := r148 })).length c_r115 by simp only [List.length_set]) ?_
 have S160 : St E w156 I150 ((C157) :: (bI b135 x134 w_x134) :: (Bx b1 (cs_qT ({ p0 with Cols := r14, Cons := s34, Idx := (s122.set ((i123 : Int)).toNat ({ x149 with Cols := r148 })) }) (⟨⟨a_r14, c_r14⟩, ⟨a_r27, c_r27⟩, ⟨a_r115, c_r115⟩⟩ : W_qT)) 78) :: (bT b5 z_qT zw_qT) :: (C_s34) :: Os) := by have hq := S155; simp only [cs_qT, List.length_set] at hq ⊢; exact hq
 exact yt (yl (ye (yai nL2 (yao i123 z (ya 1 1 z (yt (sj R1 ▸ yv ⟨I150, C157, rfl, le, S160.front1.drop.front3.front1.front3.front3, ho158⟩)))))))
 rintro _ w167 ⟨I120, C_s122, rfl, L121, S168, h_s122⟩
 refine yg [0] (ya 0 1 z (yb (W.seq (yas fun _ => W.exit (yo (yq (yu (ye (yg nL2 (y7 ((cs_qT ({ p0 with Cols := r14, Cons := s34, Idx := s122 }) (⟨⟨a_r14, c_r14⟩, ⟨a_r27, c_r27⟩, ⟨a_r115, c_r115⟩⟩ : W_qT))) (S168.rf m0) z ?_))))))))))
 obtain ⟨I170, L171, S173, hp172⟩ := yag (h_s34.mono (L113.trans L121)) S168.front3
 obtain ⟨I175, L176, S178, hp177⟩ := yag (h_s122.mono L171) S173.front2
 refine yaa S178.front1 0 (cs_qT ({ p0 with Cols := r14, Cons := s34, Idx := s122 }) (⟨⟨a_r14, c_r14⟩, ⟨a_r27, c_r27⟩, ⟨a_r115, c_r115⟩⟩ : W_qT)) fun w181 S180 => yb (yp ?_)
 have hk184 : ok_qT I175 ({ p0 with Cols := r14, Cons := s34, Idx := s122 }) (⟨⟨a_r14, c_r14⟩, ⟨a_r27, c_r27⟩, ⟨a_r115, c_r115⟩⟩ : W_qT) := ⟨(RSl.mono hp17 (((((L25.trans L33).trans L113).trans L121).trans L171).trans L176)), (RSl.mono hp172 L176), hp177⟩
 exact sj G ▸ En.c1 _ (S180.rd m0) ⟨I175, (⟨⟨a_r14, c_r14⟩, ⟨a_r27, c_r27⟩, ⟨a_r115, c_r115⟩⟩ : W_qT), rfl, le, S180.d2, hk184⟩
def catalog_Find_1 (p0 : qT) (q1 : By8) : Option Bool := some (sEq p0.Name q1)
theorem catalog_Find_1_ok {p0 : qT} {q1 : By8} {w_p0 : W_qT} {kb1 : Nat} (h_p0 : ok_qT I p0 w_p0) (hm1 : (Bx kb1 [(.string q1)] 9) ∈ Os) (hS : St E w I Os) {r : Bool} (G : catalog_Find_1 p0 q1 = some r) :
    Calls P 100 #[(vT p0 w_p0), (Pt kb1 0)] w (RT E I Os (.bool r)) := by
 refine calls_W (fn := Tryz.f100) rfl rfl rfl ?_
 unfold catalog_Find_1 at G
 exact yg nL2 (yab hS (cs_qT p0 w_p0) 78 z fun b1 w4 S3 => ya 1 1 z (yac nL5 (yf 0 1 [0] z (yj (S3.rf m0) z (yj (rd_f (S3.rd (List.Mem.tail _ hm1))) z (ya 3 2 z (yb (yp (sj G ▸ yw ⟨I, rfl, lr, S3.drop⟩)))))))))
noncomputable def catalog_Find (p0 : qC) (p1 : By8) : Option (qT × Bool) := (slices_IndexFunc_qT p0.Tables (fun (u0 : qT) => catalog_Find_1 u0 p1)).bind (fun r18 => (bif (decide (r18 ≥ 0)) then (idx p0.Tables r18).bind (fun x19 => (table_Clone x19).bind (fun r25 => some (r25, true))) else some (z_qT, false)))
theorem catalog_Find_ok {p0 : qC} {p1 : By8} {w_p0 : W_qC} (h_p0 : ok_qC I p0 w_p0) (hS : St E w I Os) {r : qT × Bool} (G : catalog_Find p0 p1 = some r) :
    Calls P 64 #[(vC p0 w_p0), (.string p1)] w (fun e w' => ∃ I' w_rw0, e = .returned (.tuple #[(vT r.1 w_rw0), (.bool r.2)]) ∧ I.Le I' ∧ St E w' I' Os ∧ ok_qT I' r.1 w_rw0) := by
 refine calls_W (fn := Tryz.f64) rfl rfl rfl ?_
 unfold catalog_Find at G
 refine yg nL4 (yab hS (cs_qC p0 w_p0) 29 z fun b1 w4 S3 => yab S3 [(.string p1)] 9 z fun b5 w8 S7 => yab S7 (cs_qT z_qT zw_qT) 78 z fun b9 w12 S11 => ya 3 1 z (yb (W.seq (yg nL5 (yf 0 1 [1] z (yj (S11.rf m2) z (yaf 2 9 (.func (.func 100) #[] #[(Pt b5 0)]) (bsk G fun r18 Xr13 G => WO.c1 (slices_IndexFunc_qT_ok h_p0.Tables (fun {F Ic wc} {_} {_} hlc hSc h_u0 {rc} hrc => catalog_Find_1_ok h_u0 (List.mem_append_right _ m1) hSc hrc) (fun _ _ => by kernel_rfl) S11 Xr13) z fun I15 w14 L16 S17 => ya 4 1 z (yac nL2 (ya 0 2 z (yb (y6 G (fun K G => ?_) (fun K G => ?_)))))))))))))
 refine yg nL8 (yf 0 1 [1] z (yj (S17.rf m2) z (ya 2 1 z ?_)))
 obtain ⟨x19, G, Hx19, _, ⟨w_x19, rfl, h_x19⟩, Zx19⟩ := sx I15 h_p0.Tables G
 refine y0 78 6 Hx19 z (yaq ((cs_qT x19 w_x19)) Zx19 0 S17.rm z (bsk G fun r25 Xr20 G => yae (table_Clone_ok h_x19 S17 Xr20) ?_))
 rintro _ w21 ⟨I22, w_r25, rfl, L23, S24, h_r25⟩
 exact cv (yaa S24 0 (cs_qT r25 w_r25) fun w27 S26 => ya 7 1 z (yb (yp (yh (sj G ▸ ya5 _ (S26.rd m0) ⟨I22, w_r25, rfl, le, S26.d3, h_r25⟩)))))
 exact W.skip (ye (yg nL3 (yaf 0 19 (vT z_qT zw_qT) (yaa S17 0 (cs_qT z_qT zw_qT) fun w32 S31 => ya 2 1 z (yb (yp (sj G ▸ ya5 _ (S31.rd m0) ⟨I15, zw_qT, rfl, L16, S31.d3, zok_qT⟩)))))))
noncomputable def chain_missing (p0 : qC) (p1 : qC) : Option (List By8) := (forE (fun (i13 : Nat) (s12 : List By8) => (idx p0.Tables (i13 : Int)).bind (fun x25 => (catalog_Find p1 x25.Name).bind (fun (r37, r38) => (some (((!r38) || (r37.Version != x25.Version)) || (!sEq r37.Owner x25.Owner))).bind (fun (q47 : Bool) => ((bif q47 then (app 16 s12 ([x25.Name] : List By8)).bind (fun x62 => some x62) else some s12)).bind (fun (j50 : List By8) => some j50))))) p0.Tables.length 0 ([] : List By8)).bind (fun s12 => some s12)
theorem chain_missing_ok {p0 : qC} {p1 : qC} {w_p0 : W_qC} {w_p1 : W_qC} (h_p0 : ok_qC I p0 w_p0) (h_p1 : ok_qC I p1 w_p1) (hS : St E w I Os) {r : (List By8)} (G : chain_missing p0 p1 = some r) :
    Calls P 33 #[(vC p0 w_p0), (vC p1 w_p1)] w (fun e w' => ∃ (I' : Mem) (ra0 : Option Addr) (rc0 : Nat) (rC0 : Mem), e = .returned (Sl ra0 r rc0) ∧ I.Le I' ∧ St E w' I' (rC0 :: Os) ∧ OwnSl 9 1 RStr I' rC0 ra0 rc0 r) := by
 refine calls_W (fn := Tryz.f33) rfl rfl rfl ?_
 unfold chain_missing at G
 refine yg nL3 (yab hS (cs_qC p0 w_p0) 29 z fun b1 w4 S3 => yab S3 (cs_qC p1 w_p1) 29 z fun b5 w8 S7 => yaf 2 4 (.slice none 0 0) (yac [0] (yaf 0 5 (.slice none 0 0) (yb (W.seq (yg nL4 (yf 0 1 [1] z (yj (S7.rf m1) z (ya 2 2 z (yb (yn (bsk G fun s12 hloop14 G => have hlt23 := (h_p0.Tables).len_lt; W.wk (ya0 (m := p0.Tables.length) hloop14 (fun (i13 : Nat) (s12 : List By8) fr w => ∃ I10 a_s12 c_s12 C_s12, fr = [(3, Pt b5 0), (5, Sl a_s12 s12 c_s12), (11, Sl w_p0.Tables.a p0.Tables w_p0.Tables.c), (12, Nv p0.Tables.length), (13, Nv i13)] ∧ I.Le I10 ∧ St E w I10 (bC b5 p1 w_p1 :: (C_s12) :: Os) ∧ OwnSl 9 1 RStr I10 C_s12 a_s12 c_s12 s12) ⟨I, none, 0, Mem.no, rfl, lr, S7.no.front2.drop.front1, OwnSl.nil⟩ ?_ ?_)))))))))))))
 rintro i13 s12 _ w20 hi24 ⟨I10, a_s12, c_s12, C_s12, rfl, L11, S21, h_s12⟩ x22 R1
 refine yg [0] (ya 0 1 z (yb (W.seq (yat fun _ => W.skip (ye (W.seq (yn (yg nL4 ?_))))))))
 obtain ⟨x25, R1, Hx25, _, ⟨w_x25, rfl, h_x25⟩, Zx25⟩ := sx I10 h_p0.Tables R1
 refine y0 78 6 Hx25 z (yaq ((cs_qT x25 w_x25)) Zx25 0 S21.rm z (yab S21 (cs_qT z_qT zw_qT) 78 z fun b26 w29 S28 => yaa S28 0 (cs_qT x25 w_x25) fun w31 S30 => yac nL10 (y7 ((cs_qC p1 w_p1)) (S30.rf m1) z (yf 1 1 [0] z (yj (S30.rf m0) z ?_)))))
 obtain ⟨⟨r37, r38⟩, Xr32, R1⟩ := bsm R1
 refine yae (catalog_Find_ok (h_p1.mono L11) S30 Xr32) ?_
 rintro _ w33 ⟨I34, w_r37, rfl, L35, S36, h_r37⟩
 refine cv (ya 4 3 z (yab S36 (cs_qT z_qT zw_qT) 78 z fun b39 w42 S41 => yaa S41 0 (cs_qT r37 w_r37) fun w44 S43 => ya 9 1 z (yac nL16 (ya 0 3 z (yav [3, 4, 5, 6, 7] 8 26 32 (.refl ((!r38) || (r37.Version != x25.Version))) (fun _ => yf 3 1 [2] z (yj (S43.rf m0) z (yf 5 1 [2] z (yj (S43.rf m1) z (ya 7 2 z yak))))) (ya 9 1 z (bsq R1 fun q47 Xq47 R1 => yav [10, 11, 12, 13, 14] 15 33 39 Xq47 (fun _ => yf 10 1 [1] z (yj (S43.rf m0) z (yf 12 1 [1] z (yj (S43.rf m1) z (ya 14 2 z yak))))) (yb (bsk R1 fun j50 R2 R1 => yay (J := (fun fr w => ∃ I52 a_j50 c_j50 C_j50, fr = [(3, Pt b5 0), (5, Sl a_j50 j50 c_j50), (11, Sl w_p0.Tables.a p0.Tables w_p0.Tables.c), (12, Nv p0.Tables.length), (13, Nv i13)] ∧ I34.Le I52 ∧ St E w I52 (bC b5 p1 w_p1 :: (C_j50) :: Os) ∧ OwnSl 9 1 RStr I52 C_j50 a_j50 c_j50 j50)) ?_ ?_)))))))))
 refine y6 R2 (fun K R2 => ?_) (fun K R2 => ?_)
 refine yai nL6 (yf 0 2 [0] z (yj (S43.rf m1) z (yad (rel := RStr) (xs := ([x25.Name] : List By8)) S43 z kr z 9 1 [[(.string x25.Name)]] kr z ((Elr.cons z Elr.nil)) tv ?_)))
 intro a57 C55 w59 S58 ho56
 have S61 := S58.front4
 exact apk R2 fun x62 h0_x62 he_x62 R2 => yau 9 16 [(.string eB)] S61 (OwnSl.mono h_s12 L35) ho56.sl (S61.rd m1) h0_x62 he_x62 z fun a63 c64 w65 C66 S67 ho68 => ya 5 1 z (yt (sj R2 ▸ yv ⟨I34, a63, c64, C66, rfl, lr, S67.front1.drop.front1.drop.front1.drop.front1, ho68⟩))
 exact W.skip (sj R2 ▸ yv ⟨I34, a_s12, c_s12, C_s12, rfl, lr, S43.d2, (OwnSl.mono h_s12 L35)⟩)
 rintro _ w78 ⟨I52, a_j50, c_j50, C_j50, rfl, L53, S79, h_j50⟩
 exact yl (ye (yai nL2 (yao i13 z (ya 1 1 z (yt (sj R1 ▸ yv ⟨I52, a_j50, c_j50, C_j50, rfl, le, S79, h_j50⟩))))))
 rintro _ w80 ⟨I10, a_s12, c_s12, C_s12, rfl, L11, S81, h_s12⟩
 exact yg [0] (ya 0 1 z (yb (W.seq (yas fun _ => W.exit (yo (yq (yu (ye (yg nL2 (ya 0 2 z (yb (yp (sj G ▸ yw ⟨I10, a_s12, c_s12, C_s12, rfl, L11, S81.drop, h_s12⟩)))))))))))))
def slices_EqualFunc_qJ_l (p0 : List qJ) (p1 : List qJ) (p2 : qJ → qJ → Option Bool) : Option Bool := (bif ((p0.length : Int) != (p1.length : Int)) then some false else (forN (fun (i4 : Nat) (_s : Unit) => (idx p0 (i4 : Int)).bind (fun x11 => (idx p1 (i4 : Int)).bind (fun x18 => (p2 x11 x18).bind (fun (r30 : Bool) => (bif (!r30) then some (.inr false) else some (.inl ())))))) p0.length 0 ()).bind (fun (t : Unit ⊕ (Bool)) => match t with | .inl _ => some true | .inr s32 => some s32))
theorem slices_EqualFunc_qJ_l_ok {p0 : List qJ} {p1 : List qJ} {p2 : qJ → qJ → Option Bool} {a_p0 : Option Addr} {c_p0 : Nat} {a_p1 : Option Addr} {c_p1 : Nat} {g_p2 : FuncId} {k_p2 : List Value} (h_p0 : RSl 2 R_qJ I a_p0 c_p0 p0) (h_p1 : RSl 2 R_qJ I a_p1 c_p1 p1) (h_p2 : ∀ {F : List Mem} {I' : Mem} {w : World} {u0 : qJ} {w_u0 : W_qJ} {u1 : qJ} {w_u1 : W_qJ}, I.Le I' → St E w I' (F ++ Os) → ok_qJ I' u0 w_u0 → ok_qJ I' u1 w_u1 → ∀ {r : Bool}, p2 u0 u1 = some r → Calls P g_p2 (([(vJ u0 w_u0), (vJ u1 w_u1)] : List Value) ++ k_p2).toArray w (fun e w' => ∃ (I'' : Mem), e = .returned (.bool r) ∧ I'.Le I'' ∧ St E w' I'' (F ++ Os))) (hcall_p2 : Callable P g_p2) (hS : St E w I Os) {r : Bool} (G : slices_EqualFunc_qJ_l p0 p1 p2 = some r) :
    Calls P 65 #[(Sl a_p0 p0 c_p0), (Sl a_p1 p1 c_p1), (.func (.func g_p2) #[] k_p2.toArray)] w (RT E I Os (.bool r)) := by
 refine calls_W (fn := Tryz.f65) rfl rfl rfl ?_
 unfold slices_EqualFunc_qJ_l at G
 refine yg [0] (ya 0 1 z (yb (W.seq (yg nL5 (ya 0 5 z (yb (y6 G (fun K G => ?_) (fun K G => ?_))))))))
 exact yg [0] (ya 0 1 z (yb (yp (yh (sj G ▸ yw ⟨I, rfl, lr, hS⟩)))))
 refine W.skip (ye (W.seq (yg nL3 (ya 0 3 z (yb (yn (bsk G fun t1 hloop5 G => have hlt9 := (h_p0).len_lt; W.wk (yap (m := p0.length) hloop5 (fun (i4 : Nat) (_s : Unit) => JI E I [(1, Sl a_p1 p1 c_p1), (2, .func (.func g_p2) #[] k_p2.toArray), (15, Sl a_p0 p0 c_p0), (16, Nv p0.length), (17, Nv i4)] Os) ⟨I, rfl, lr, hS⟩ ?_ ?_))))))))
 rintro i4 _ _ w6 hi10 ⟨I2, rfl, L3, S7⟩ x8 R1 hext1
 refine yg [0] (ya 0 1 z (yb (W.seq (yat fun _ => W.skip (ye (W.seq (yn (yg nL6 (ya 0 1 z ?_)))))))))
 obtain ⟨x11, R1, Hx11, _, ⟨w_x11, rfl, h_x11⟩, Zx11⟩ := sx I2 h_p0 R1
 refine y0 107 2 Hx11 z (yaq ((cs_qJ x11 w_x11)) Zx11 0 S7.rm z (yab S7 (cs_qJ z_qJ zw_qJ) 107 z fun b12 w15 S14 => ya 4 1 z (yaa S14 0 (cs_qJ x11 w_x11) fun w17 S16 => yac nL6 (ya 0 2 z ?_))))
 obtain ⟨x18, R1, Hx18, _, ⟨w_x18, rfl, h_x18⟩, Zx18⟩ := sx I2 h_p1 R1
 refine y0 107 2 Hx18 z (yaq ((cs_qJ x18 w_x18)) Zx18 0 S16.rm z (yab S16 (cs_qJ z_qJ zw_qJ) 107 z fun b19 w22 S21 => yaa S21 0 (cs_qJ x18 w_x18) fun w24 S23 => yac nL5 (yaf 0 26 (.func (.func g_p2) #[] k_p2.toArray) (y7 ((cs_qJ x11 w_x11)) (S23.rf m1) z (y7 ((cs_qJ x18 w_x18)) (S23.rf m0) z (bsk R1 fun r30 Xr25 R1 => WO.callv z kr z (g := g_p2) (kk := k_p2) (args := [(vJ x11 w_x11), (vJ x18 w_x18)]) z kr hcall_p2 (h_p2 (F := [bJ b19 x18 w_x18, bJ b12 x11 w_x11]) L3 S23 h_x11 h_x18 Xr25) ?_))))))
 rintro _ w26 ⟨I27, rfl, L28, S29⟩
 refine cv (ya 4 1 z (yb (y6 R1 (fun K R1 => ?_) (fun K R1 => ?_))))
 refine yg [0] (ya 0 1 z (yb (yp (yk (yh (yr ?_))))))
 obtain rfl := hext1 _ (sj R1).symm
 exact yk (yh (sj G ▸ yw ⟨I27, rfl, le, S29.d2⟩))
 exact W.skip (yl (ye (yai nL2 (yao i4 z (ya 1 1 z (yt (yv ⟨(), (sj R1).symm, I27, rfl, le, S29.d2⟩)))))))
 rintro _ _ w37 ⟨I2, rfl, L3, S38⟩ he
 cases he
 exact yg [0] (ya 0 1 z (yb (W.seq (yas fun _ => W.exit (yo (yq (yu (ye (yg [0] (ya 0 1 z (yb (yp (sj G ▸ yw ⟨I2, rfl, L3, S38⟩)))))))))))))
def slices_Equal_string (p0 : List By8) (p1 : List By8) : Option Bool := (bif ((p0.length : Int) != (p1.length : Int)) then some false else (forN (fun (i4 : Nat) (_s : Unit) => (idx p0 (i4 : Int)).bind (fun x13 => (idx p1 (i4 : Int)).bind (fun x14 => (bif (!sEq x13 x14) then some (.inr false) else some (.inl ()))))) p0.length 0 ()).bind (fun (t : Unit ⊕ (Bool)) => match t with | .inl _ => some true | .inr s16 => some s16))
theorem slices_Equal_string_ok {p0 : List By8} {p1 : List By8} {a_p0 : Option Addr} {c_p0 : Nat} {a_p1 : Option Addr} {c_p1 : Nat} (h_p0 : RSl 1 RStr I a_p0 c_p0 p0) (h_p1 : RSl 1 RStr I a_p1 c_p1 p1) (hS : St E w I Os) {r : Bool} (G : slices_Equal_string p0 p1 = some r) :
    Calls P 67 #[(Sl a_p0 p0 c_p0), (Sl a_p1 p1 c_p1)] w (RT E I Os (.bool r)) := by
 refine calls_W (fn := Tryz.f67) rfl rfl rfl ?_
 unfold slices_Equal_string at G
 refine yg [0] (ya 0 1 z (yb (W.seq (yg nL5 (ya 0 5 z (yb (y6 G (fun K G => ?_) (fun K G => ?_))))))))
 exact yg [0] (ya 0 1 z (yb (yp (yh (sj G ▸ yw ⟨I, rfl, lr, hS⟩)))))
 refine W.skip (ye (W.seq (yg nL3 (ya 0 3 z (yb (yn (bsk G fun t1 hloop5 G => have hlt9 := (h_p0).len_lt; W.wk (yap (m := p0.length) hloop5 (fun (i4 : Nat) (_s : Unit) => JI E I [(0, Sl a_p0 p0 c_p0), (1, Sl a_p1 p1 c_p1), (12, Nv p0.length), (13, Nv i4)] Os) ⟨I, rfl, lr, hS⟩ ?_ ?_))))))))
 rintro i4 _ _ w6 hi10 ⟨I2, rfl, L3, S7⟩ x8 R1 hext1
 refine yg [0] (ya 0 1 z (yb (W.seq (yat fun _ => W.skip (ye (W.seq (yn (yg nL2 (ya 0 2 z (yb (W.seq (have S11 := S7.drew; ya1 nL9 8 (yx S11.im) ?_))))))))))))
 generalize World.drew _ = w12 at *
 refine ya 0 2 z ?_
 obtain ⟨x13, R1, Hx13, _, rfl, Zx13⟩ := sx I2 h_p0 R1
 refine y0 9 1 Hx13 z (yan Zx13 (rd_i S11.im) z (ya 4 2 z ?_))
 obtain ⟨x14, R1, Hx14, _, rfl, Zx14⟩ := sx I2 h_p1 R1
 refine y0 9 1 Hx14 z (yan Zx14 (rd_i S11.im) z (WO.tail z (ya 8 1 z (yb (y6 R1 (fun K R1 => ?_) (fun K R1 => ?_))))))
 refine yg [0] (ya 0 1 z (yb (yp (yk (yh (yr ?_))))))
 obtain rfl := hext1 _ (sj R1).symm
 exact yk (yh (sj G ▸ yw ⟨I2, rfl, L3, S11⟩))
 exact W.skip (yl (ye (yai nL2 (yao i4 z (ya 1 1 z (yt (yv ⟨(), (sj R1).symm, I2, rfl, L3, S11⟩)))))))
 rintro _ _ w17 ⟨I2, rfl, L3, S18⟩ he
 cases he
 exact yg [0] (ya 0 1 z (yb (W.seq (yas fun _ => W.exit (yo (yq (yu (ye (yg [0] (ya 0 1 z (yb (yp (sj G ▸ yw ⟨I2, rfl, L3, S18⟩)))))))))))))
def chain_sameRoles_1 (p0 : qJ) (p1 : qJ) : Option Bool := ((bif (sEq p0.Name p1.Name) then (slices_Equal_string p0.In p1.In).bind (fun r18 => some r18) else some false)).bind (fun (j9 : Bool) => some j9)
theorem chain_sameRoles_1_ok {p0 : qJ} {p1 : qJ} {w_p0 : W_qJ} {w_p1 : W_qJ} (h_p0 : ok_qJ I p0 w_p0) (h_p1 : ok_qJ I p1 w_p1) (hS : St E w I Os) {r : Bool} (G : chain_sameRoles_1 p0 p1 = some r) :
    Calls P 66 #[(vJ p0 w_p0), (vJ p1 w_p1)] w (RT E I Os (.bool r)) := by
 refine calls_W (fn := Tryz.f66) rfl rfl rfl ?_
 unfold chain_sameRoles_1 at G
 refine yg nL3 (yab hS (cs_qJ p0 w_p0) 107 z fun b1 w4 S3 => yab S3 (cs_qJ p1 w_p1) 107 z fun b5 w8 S7 => ya 2 1 z (yac nL13 (yf 0 1 [0] z (yj (S7.rf m1) z (yf 2 1 [0] z (yj (S7.rf m0) z (ya 4 2 z (bsk G fun j9 R1 G => yam (l1 := [6, 7, 8, 9, 10, 11]) (J := JI E I [(16, .bool j9)] Os) ?_ ?_))))))))
 refine yal R1 (fun K R1 => ?_) (fun K R1 => ?_)
 exact yz 10 K (yf 6 1 [1] z (yj (S7.rf m1) z (yf 8 1 [1] z (yj (S7.rf m0) z (bsk R1 fun r18 Xr13 R1 => WO.c1 (slices_Equal_string_ok h_p0.In h_p1.In S7 Xr13) z fun I15 w14 L16 S17 => ya 11 1 z (sj R1 ▸ yy ⟨I15, rfl, L16, S17.d2⟩))))))
 refine yz 10 K ?_
 iterate 5 refine WO.ps ?_
 exact ya 11 1 z (sj R1 ▸ yy ⟨I, rfl, lr, S7.d2⟩)
 rintro _ w23 ⟨I11, rfl, L12, S24⟩
 exact ya 12 1 z (yb (yp (sj G ▸ yw ⟨I11, rfl, L12, S24⟩)))
def chain_sameRoles (p0 : List qJ) (p1 : List qJ) : Option Bool := (slices_EqualFunc_qJ_l p0 p1 (fun (u0 : qJ) (u1 : qJ) => chain_sameRoles_1 u0 u1)).bind (fun r6 => some r6)
theorem chain_sameRoles_ok {p0 : List qJ} {p1 : List qJ} {a_p0 : Option Addr} {c_p0 : Nat} {a_p1 : Option Addr} {c_p1 : Nat} (h_p0 : RSl 2 R_qJ I a_p0 c_p0 p0) (h_p1 : RSl 2 R_qJ I a_p1 c_p1 p1) (hS : St E w I Os) {r : Bool} (G : chain_sameRoles p0 p1 = some r) :
    Calls P 34 #[(Sl a_p0 p0 c_p0), (Sl a_p1 p1 c_p1)] w (RT E I Os (.bool r)) := by
 refine calls_W (fn := Tryz.f34) rfl rfl rfl ?_
 unfold chain_sameRoles at G
 exact yg [0] (ya 0 1 z (yac nL4 (ya 0 2 z (bsk G fun r6 Xr1 G => WO.c1 (slices_EqualFunc_qJ_l_ok h_p0 h_p1 (fun {F Ic wc} {_} {_} {_} {_} hlc hSc h_u0 h_u1 {rc} hrc => chain_sameRoles_1_ok h_u0 h_u1  hSc hrc) (fun _ _ => by kernel_rfl) hS Xr1) z fun I3 w2 L4 S5 => ya 3 1 z (yb (yp (sj G ▸ yw ⟨I3, rfl, L4, S5⟩)))))))
def slices_Equal_qG (p0 : List qG) (p1 : List qG) : Option Bool := (bif ((p0.length : Int) != (p1.length : Int)) then some false else (forN (fun (i4 : Nat) (_s : Unit) => (idx p0 (i4 : Int)).bind (fun x13 => (idx p1 (i4 : Int)).bind (fun x14 => (bif (!(sEq x13.To x14.To && (sEq x13.By x14.By && (sEq x13.Table x14.Table && ((x13.Priv == x14.Priv) && (x13.Option == x14.Option)))))) then some (.inr false) else some (.inl ()))))) p0.length 0 ()).bind (fun (t : Unit ⊕ (Bool)) => match t with | .inl _ => some true | .inr s16 => some s16))
theorem slices_Equal_qG_ok {p0 : List qG} {p1 : List qG} {a_p0 : Option Addr} {c_p0 : Nat} {a_p1 : Option Addr} {c_p1 : Nat} (h_p0 : RSl 5 R_qG I a_p0 c_p0 p0) (h_p1 : RSl 5 R_qG I a_p1 c_p1 p1) (hS : St E w I Os) {r : Bool} (G : slices_Equal_qG p0 p1 = some r) :
    Calls P 35 #[(Sl a_p0 p0 c_p0), (Sl a_p1 p1 c_p1)] w (RT E I Os (.bool r)) := by
 refine calls_W (fn := Tryz.f35) rfl rfl rfl ?_
 unfold slices_Equal_qG at G
 refine yg [0] (ya 0 1 z (yb (W.seq (yg nL5 (ya 0 5 z (yb (y6 G (fun K G => ?_) (fun K G => ?_))))))))
 exact yg [0] (ya 0 1 z (yb (yp (yh (sj G ▸ yw ⟨I, rfl, lr, hS⟩)))))
 refine W.skip (ye (W.seq (yg nL3 (ya 0 3 z (yb (yn (bsk G fun t1 hloop5 G => have hlt9 := (h_p0).len_lt; W.wk (yap (m := p0.length) hloop5 (fun (i4 : Nat) (_s : Unit) => JI E I [(0, Sl a_p0 p0 c_p0), (1, Sl a_p1 p1 c_p1), (12, Nv p0.length), (13, Nv i4)] Os) ⟨I, rfl, lr, hS⟩ ?_ ?_))))))))
 rintro i4 _ _ w6 hi10 ⟨I2, rfl, L3, S7⟩ x8 R1 hext1
 refine yg [0] (ya 0 1 z (yb (W.seq (yat fun _ => W.skip (ye (W.seq (yn (yg nL2 (ya 0 2 z (yb (W.seq (have S11 := S7.drew; ya1 nL9 8 (yx S11.im) ?_))))))))))))
 generalize World.drew _ = w12 at *
 refine ya 0 2 z ?_
 obtain ⟨x13, R1, Hx13, _, rfl, Zx13⟩ := sx I2 h_p0 R1
 refine y0 92 5 Hx13 z (yaq ((cs_qG x13)) Zx13 0 (rd_i S11.im) z (ya 4 2 z ?_))
 obtain ⟨x14, R1, Hx14, _, rfl, Zx14⟩ := sx I2 h_p1 R1
 refine y0 92 5 Hx14 z (yaq ((cs_qG x14)) Zx14 0 (rd_i S11.im) z (WO.tail z (ybe z kr z z kr 50 z (b := (sEq x13.To x14.To && (sEq x13.By x14.By && (sEq x13.Table x14.Table && ((x13.Priv == x14.Priv) && ((x13.Option == x14.Option) && true)))))) kr (!(sEq x13.To x14.To && (sEq x13.By x14.By && (sEq x13.Table x14.Table && ((x13.Priv == x14.Priv) && (x13.Option == x14.Option)))))) (.inr ⟨rfl, by simp only [Bool.and_true]⟩) ?_)))
 refine yb (y6 R1 (fun K R1 => ?_) (fun K R1 => ?_))
 refine yg [0] (ya 0 1 z (yb (yp (yk (yh (yr ?_))))))
 obtain rfl := hext1 _ (sj R1).symm
 exact yk (yh (sj G ▸ yw ⟨I2, rfl, L3, S11⟩))
 exact W.skip (yl (ye (yai nL2 (yao i4 z (ya 1 1 z (yt (yv ⟨(), (sj R1).symm, I2, rfl, L3, S11⟩)))))))
 rintro _ _ w17 ⟨I2, rfl, L3, S18⟩ he
 cases he
 exact yg [0] (ya 0 1 z (yb (W.seq (yas fun _ => W.exit (yo (yq (yu (ye (yg [0] (ya 0 1 z (yb (yp (sj G ▸ yw ⟨I2, rfl, L3, S18⟩)))))))))))))
theorem sort69_ok {p0 : List By8} {a_p0 : Option Addr} {c_p0 : Nat} {C_p0 : Mem} (h_p0 : OwnSl 9 1 RStr I C_p0 a_p0 c_p0 p0) (hS : St E w I (C_p0 :: Os)) {r : List By8} (G : sortSO p0 = some r) :
    Calls P 69 #[.slice a_p0 p0.length c_p0] w (fun e w' => ∃ (I' : Mem) (rD0 : Mem), e = .returned (.tuple #[]) ∧ I.Le I' ∧ St E w' I' (rD0 :: Os) ∧ OwnSl 9 1 RStr I' rD0 a_p0 c_p0 r ∧ r.length = p0.length) := by
  unfold sortSO at G
  split at G
  · rename_i hlen
    injection G with G
    subst G
    refine (sort_own (P := P) (f := 69) (enc := Go.Proofs.encStr) (g := bs) (gi := ub) (rel := RStr) (fun zs => zs.mergeSort fun x y => decide (x ≤ y)) (fun zs => by simp) (fun I cs x => by cases x; simp [RStr, Go.Proofs.encStr, bs]) (fun z => by rw [bs_ub]) (fun blk off cap zs w h1 h2 h3 => AnyM.slices_Sort_string Tryz.sort69 blk off cap zs w h1 h2 h3) (fun p cap w => AnyM.slices_Sort_string_none Tryz.sort69 p cap w) h_p0 hS hlen).mono ?_
    rintro e w' ⟨C', rfl, hS', ho⟩
    exact ⟨I, C', rfl, Mem.Le.refl _, hS', ho, sortS_len _⟩
  · cases G
noncomputable def slices_Compact_string (p0 : List By8) : Option (List By8) := (bif (decide ((p0.length : Int) < 2)) then some p0 else (loopO (fun (s : Int × (List By8)) => match s with | (s4, s5) => (bif (decide (s4 < (s5.length : Int))) then (idx s5 s4).bind (fun x12 => (idx s5 (w64 (s4 - 1))).bind (fun x13 => (bif (sEq x12 x13) then (sub s5 s4 (s5.length : Int)).bind (fun x14 => (loopO (fun (s : Int × Int × (List By8)) => match s with | (s18, s19, s20) => (bif (decide (s19 < ((s20.length - (s4).toNat : Nat) : Int))) then (vidx s20 (s4).toNat s19).bind (fun (x27 : By8) => (vidx s20 (s4).toNat (w64 (s19 - 1))).bind (fun (x28 : By8) => ((bif (!sEq x27 x28) then (vidx s20 (s4).toNat s19).bind (fun (x33 : By8) => (idx s20 s18).bind (fun x34 => some ((w64 (s18 + 1)), (s20.set (s18).toNat x33)))) else some (s18, s20))).bind (fun ((s39, s40) : Int × (List By8)) => some (.inl (s39, (w64 (s19 + 1)), s40))))) else some (.inr (s18, s20)))) (s4, 1, s5)).bind (fun ((s44, s45) : Int × (List By8)) => (sub s45 s44 (s45.length : Int)).bind (fun x46 => (sub (s45.take (s44).toNat ++ List.replicate (s45.length - (s44).toNat) eB) 0 s44).bind (fun x51 => some (.inr (.inl x51)))))) else some (.inl ((w64 (s4 + 1)), s5))))) else some (.inr (.inr s5)))) (1, p0)).bind (fun (t : (List By8) ⊕ (List By8)) => match t with | (.inl s54) => some s54 | (.inr s64) => some s64))
theorem slices_Compact_string_ok {p0 : List By8} {a_p0 : Option Addr} {c_p0 : Nat} {C_p0 : Mem} (h_p0 : OwnSl 9 1 RStr I C_p0 a_p0 c_p0 p0) (hS : St E w I ((C_p0) :: Os)) {r : (List By8)} (G : slices_Compact_string p0 = some r) :
    Calls P 70 #[(Sl a_p0 p0 c_p0)] w (fun e w' => ∃ (I' : Mem) (ra0 : Option Addr) (rc0 : Nat) (rC0 : Mem), e = .returned (Sl ra0 r rc0) ∧ I.Le I' ∧ St E w' I' (rC0 :: Os) ∧ OwnSl 9 1 RStr I' rC0 ra0 rc0 r) := by
 refine calls_W (fn := Tryz.f70) rfl rfl rfl ?_
 unfold slices_Compact_string at G
 refine yg [0] (yaf 0 2 (.slice none 0 0) (yb (W.seq (yg nL3 (ya 0 3 z (yb (y6 G (fun K G => ?_) (fun K G => ?_))))))))
 exact yg nL2 (ya 0 2 z (yb (yp (yh (sj G ▸ yw ⟨I, a_p0, c_p0, C_p0, rfl, lr, hS, h_p0⟩)))))
 refine W.skip (ye (W.seq (yg [0] (ya 0 1 z (yb (yn (bsk G fun t1 hloop6 G => W.wk (ya7 hloop6 (fun (s : Int × (List By8)) fr w => match s with | (s4, s5) => ∃ I2 C_s5, fr = [(0, Sl a_p0 s5 c_p0), (3, Iv s4)] ∧ I.Le I2 ∧ St E w I2 ((C_s5) :: Os) ∧ OwnSl 9 1 RStr I2 C_s5 a_p0 c_p0 s5) ⟨I, C_p0, rfl, lr, hS, h_p0⟩ ?_))))))))
 rintro ⟨s4, s5⟩ _ w7 ⟨I2, C_s5, rfl, L3, S8, h_s5⟩ x9 R1 hext1
 refine W.seq (yg nL4 (ya 0 4 z (yb (y6 R1 (fun K R1 => ?_) (fun K R1 => ?_)))))
 refine W.skip (ye (W.seq (yn (W.seq (have S10 := S8.drew; ya1 nL10 9 (ym (S10.rd m0) (yx S10.im)) ?_)))))
 generalize World.drew _ = w11 at *
 refine ya 0 2 z ?_
 obtain ⟨x12, R1, Hx12, _, rfl, Zx12⟩ := sl_ix (h_s5.sl) R1
 refine y0 9 1 Hx12 z (yan Zx12 (rd_c m0 (S10.rd m0)) z (ya 4 3 z ?_))
 obtain ⟨x13, R1, Hx13, _, rfl, Zx13⟩ := sl_ix (h_s5.sl) R1
 refine y0 9 1 Hx13 z (yan Zx13 (rd_c m0 (S10.rd m0)) z (WO.tail z (ya 9 1 z (yb (y6 R1 (fun K R1 => ?_) (fun K R1 => ?_))))))
 refine yg nL4 (ya 0 2 z ?_)
 obtain ⟨x14, Xx14, R1⟩ := bsm R1
 obtain ⟨h0_x14, h1_x14, h2_x14, he_x14⟩ := sub_some Xx14
 have hl_x14 : ((s5.length : Int) : Int) ≤ (c_p0 : Int) := Int.le_trans h2_x14 (Int.ofNat_le.2 (h_s5).sl.le)
 refine ya3 (e := 9) (sz := 1) z kr kr kr z (s4 : Int) ((s5.length : Int) : Int) h0_x14 (.inr ⟨_, _, rfl, rfl⟩) (.inl ⟨rfl, rfl⟩) h1_x14 hl_x14 ?_
 refine y8 28 z (show _ = Value.slice (subA a_p0 c_p0 (s4).toNat 1) (s5.length - (s4).toNat) (c_p0 - (s4).toNat) from z) ?_
 refine ya 3 1 z (yb (W.seq (yg [0] (ya 0 1 z (yb (yn (bsk R1 fun t15 hloop21 R1 => W.wk (ya7 hloop21 (fun (s : Int × Int × (List By8)) fr w => match s with | (s18, s19, s20) => ∃ I16 C_s20, fr = [(0, Sl a_p0 s20 c_p0), (3, Iv s18), (4, .slice (subA a_p0 c_p0 (s4).toNat 1) (s20.length - (s4).toNat) (c_p0 - (s4).toNat)), (5, Iv s19)] ∧ I2.Le I16 ∧ St E w I16 ((C_s20) :: Os) ∧ OwnSl 9 1 RStr I16 C_s20 a_p0 c_p0 s20) ⟨I2, C_s5, rfl, lr, S10, h_s5⟩ ?_))))))))
 rintro ⟨s18, s19, s20⟩ _ w22 ⟨I16, C_s20, rfl, L17, S23, h_s20⟩ x24 R2 hext15
 refine W.seq (yg nL4 (ya 0 2 z (yaf 2 31 (Iv ((s20.length - (s4).toNat : Nat) : Int)) (ya 3 1 z (yb (y6 R2 (fun K R2 => ?_) (fun K R2 => ?_)))))))
 refine W.skip (ye (W.seq (yn (W.seq (have S25 := S23.drew; ya1 nL10 9 (ym (S25.rd m0) (yx S25.im)) ?_)))))
 generalize World.drew _ = w26 at *
 refine ya 0 2 z ?_
 obtain ⟨x27, Xx27, R2⟩ := bsm R2
 obtain ⟨hg_x27, Xx27⟩ := vidx_some Xx27
 have hw_x27 := ybo h_s20 hg_x27 Xx27
 obtain ⟨h0_x27, h1_x27, Xx27⟩ := idx_some Xx27
 obtain ⟨ha_x27, cs_x27, hn_x27, hr_x27, Zx27⟩ := (h_s20.sl).el _ _ Xx27
 obtain rfl := hr_x27
 refine ya4 9 1 hw_x27.1 hg_x27 hw_x27.2.1 ?_
 refine y8 37 z hw_x27.2.2 ?_
 refine yan Zx27 (rd_c m0 (S25.rd m0)) z (ya 4 3 z ?_)
 obtain ⟨x28, Xx28, R2⟩ := bsm R2
 obtain ⟨hg_x28, Xx28⟩ := vidx_some Xx28
 have hw_x28 := ybo h_s20 hg_x28 Xx28
 obtain ⟨h0_x28, h1_x28, Xx28⟩ := idx_some Xx28
 obtain ⟨ha_x28, cs_x28, hn_x28, hr_x28, Zx28⟩ := (h_s20.sl).el _ _ Xx28
 obtain rfl := hr_x28
 refine ya4 9 1 hw_x28.1 hg_x28 hw_x28.2.1 ?_
 refine y8 42 z hw_x28.2.2 ?_
 refine yan Zx28 (rd_c m0 (S25.rd m0)) z (WO.tail z (ya 9 1 z (yb (bsk R2 fun j29 R3 R2 => yay (J := (fun fr w => ∃ (s39 : Int) (s40 : List By8), ∃ I31 C_s40, (s39, s40) = j29 ∧ fr = [(0, Sl a_p0 s40 c_p0), (3, Iv s39), (4, .slice (subA a_p0 c_p0 (s4).toNat 1) (s40.length - (s4).toNat) (c_p0 - (s4).toNat)), (5, Iv s19)] ∧ I16.Le I31 ∧ St E w I31 ((C_s40) :: Os) ∧ OwnSl 9 1 RStr I31 C_s40 a_p0 c_p0 s40)) ?_ ?_))))
 refine y6 R3 (fun K R3 => ?_) (fun K R3 => ?_)
 refine yg nL8 (ya 0 4 z ?_)
 obtain ⟨x33, Xx33, R3⟩ := bsm R3
 obtain ⟨hg_x33, Xx33⟩ := vidx_some Xx33
 have hw_x33 := ybo h_s20 hg_x33 Xx33
 obtain ⟨h0_x33, h1_x33, Xx33⟩ := idx_some Xx33
 obtain ⟨ha_x33, cs_x33, hn_x33, hr_x33, Zx33⟩ := (h_s20.sl).el _ _ Xx33
 obtain rfl := hr_x33
 refine ya4 9 1 hw_x33.1 hg_x33 hw_x33.2.1 ?_
 refine y8 49 z hw_x33.2.2 ?_
 refine yan Zx33 (S25.rf m0) z ?_
 obtain ⟨x34, R3, h0_x34, h1_x34, Xx34, ha_x34, _, _, rfl, Zx34⟩ := sl_at (h_s20.sl) R3
 refine ya4 9 1 ha_x34 h0_x34 h1_x34 ?_
 refine ya2 S25 h_s20 z kr z Xx34 (u' := x33) 0 z z kr z z (fun cs hrel => (by obtain rfl := hrel; exact z)) tv ?_
 intro w36 C37 S35 ho38
 refine y8 0 z (show Value.slice a_p0 s20.length c_p0 = Value.slice a_p0 (s20.set (s18).toNat x33).length c_p0 by simp only [List.length_set]) ?_
 refine y8 4 z (show Value.slice (subA a_p0 c_p0 (s4).toNat 1) (s20.length - (s4).toNat) (c_p0 - (s4).toNat) = Value.slice (subA a_p0 c_p0 (s4).toNat 1) ((s20.set (s18).toNat x33).length - (s4).toNat) (c_p0 - (s4).toNat) by simp only [List.length_set]) ?_
 refine y8 30 z (show Value.slice (subA a_p0 c_p0 (s4).toNat 1) (s20.length - (s4).toNat) (c_p0 - (s4).toNat) = Value.slice (subA a_p0 c_p0 (s4).toNat 1) ((s20.set (s18).toNat x33).length - (s4).toNat) (c_p0 - (s4).toNat) by simp only [List.length_set]) ?_
 refine y8 35 z (show Value.slice (subA a_p0 c_p0 (s4).toNat 1) (s20.length - (s4).toNat) (c_p0 - (s4).toNat) = Value.slice (subA a_p0 c_p0 (s4).toNat 1) ((s20.set (s18).toNat x33).length - (s4).toNat) (c_p0 - (s4).toNat) by simp only [List.length_set]) ?_
 refine y8 39 z (show Value.slice (subA a_p0 c_p0 (s4).toNat 1) (s20.length - (s4).toNat) (c_p0 - (s4).toNat) = Value.slice (subA a_p0 c_p0 (s4).toNat 1) ((s20.set (s18).toNat x33).length - (s4).toNat) (c_p0 - (s4).toNat) by simp only [List.length_set]) ?_
 refine y8 47 z (show Value.slice (subA a_p0 c_p0 (s4).toNat 1) (s20.length - (s4).toNat) (c_p0 - (s4).toNat) = Value.slice (subA a_p0 c_p0 (s4).toNat 1) ((s20.set (s18).toNat x33).length - (s4).toNat) (c_p0 - (s4).toNat) by simp only [List.length_set]) ?_
 exact yb (yai nL3 (ya 0 3 z (yt (yv ⟨(w64 (s18 + 1)), (s20.set (s18).toNat x33), I16, C37, sj R3, rfl, lr, S35, ho38⟩))))
 exact W.skip (yv ⟨s18, s20, I16, C_s20, sj R3, rfl, lr, S25, h_s20⟩)
 rintro _ w41 ⟨s39, s40, I31, C_s40, rfl, rfl, L32, S42, h_s40⟩
 exact yl (ye (yai nL3 (ya 0 3 z (yt (yv ⟨(s39, (w64 (s19 + 1)), s40), (sj R2).symm, I31, C_s40, rfl, le, S42, h_s40⟩)))))
 refine W.exit (yo (yq ?_))
 obtain rfl := hext15 _ (sj R2).symm
 refine yu (ye (yg nL4 (ya 0 2 z ?_)))
 obtain ⟨x56, Xx56, R1⟩ := bsm R1
 obtain ⟨h0_x56, h1_x56, h2_x56, he_x56⟩ := sub_some Xx56
 have hl_x56 : ((s20.length : Int) : Int) ≤ (c_p0 : Int) := Int.le_trans h2_x56 (Int.ofNat_le.2 (h_s20).sl.le)
 refine ya3 (e := 9) (sz := 1) z kr kr kr z (s18 : Int) ((s20.length : Int) : Int) h0_x56 (.inr ⟨_, _, rfl, rfl⟩) (.inl ⟨rfl, rfl⟩) h1_x56 hl_x56 ?_
 refine y8 56 z (show _ = Value.slice (subA a_p0 c_p0 (s18).toNat 1) (s20.length - (s18).toNat) (c_p0 - (s18).toNat) from z) ?_
 have hlo_C57 : (s18).toNat ≤ s20.length := by first | omega | (simp only [List.length_set]; omega)
 refine WO.clear S23 h_s20 (t := 35) (e := 9) kr (zs := [(.string eB)]) kr (z0 := eB) z kr kr kr z kr z (lo := (s18).toNat) hlo_C57 z tv ?_
 intro w59 C57 S58 ho60
 refine y8 0 z (show Value.slice a_p0 s20.length c_p0 = Value.slice a_p0 (s20.take (s18).toNat ++ List.replicate (s20.length - (s18).toNat) eB).length c_p0 by congr 1; simp only [List.length_append, List.length_take, List.length_replicate]; omega) ?_
 refine y8 54 z (show Value.slice a_p0 s20.length c_p0 = Value.slice a_p0 (s20.take (s18).toNat ++ List.replicate (s20.length - (s18).toNat) eB).length c_p0 by congr 1; simp only [List.length_append, List.length_take, List.length_replicate]; omega) ?_
 refine yac nL4 (ya 0 2 z ?_)
 obtain ⟨x61, Xx61, R1⟩ := bsm R1
 obtain ⟨h0_x61, h1_x61, h2_x61, he_x61⟩ := sub_some Xx61
 have hl_x61 : (s18 : Int) ≤ (c_p0 : Int) := Int.le_trans h2_x61 (Int.ofNat_le.2 (ho60).sl.le)
 refine ya3 (e := 9) (sz := 1) z kr kr kr z (0 : Int) (s18 : Int) h0_x61 (.inl ⟨rfl, rfl⟩) (.inr ⟨_, _, rfl, rfl⟩) h1_x61 hl_x61 ?_
 obtain ⟨ho62, ev_x61⟩ := OwnSl.pre ho60 (Int.le_trans h0_x61 h1_x61) h2_x61 he_x61
 refine y8 59 z ev_x61 ?_
 refine ya 3 1 z (yb (yp (yk (yh (yr ?_)))))
 obtain rfl := hext1 _ (sj R1).symm
 exact yk (yh (sj G ▸ yw ⟨I16, a_p0, c_p0, C57, rfl, le, S58, ho62⟩))
 exact W.skip (yl (ye (yai nL3 (ya 0 3 z (yt (yv ⟨((w64 (s4 + 1)), s5), (sj R1).symm, I2, C_s5, rfl, L3, S10, h_s5⟩))))))
 refine W.exit (yo (yq ?_))
 obtain rfl := hext1 _ (sj R1).symm
 exact yu (ye (yg nL2 (ya 0 2 z (yb (yp (sj G ▸ yw ⟨I2, a_p0, c_p0, C_s5, rfl, L3, S8, h_s5⟩))))))
noncomputable def chain_sorted (p0 : List By8) : Option (List By8) := (slices_Clone_string p0).bind (fun r6 => (sortSO r6).bind (fun (r12 : List By8) => (slices_Compact_string r12).bind (fun r18 => some r18)))
theorem chain_sorted_ok {p0 : List By8} {a_p0 : Option Addr} {c_p0 : Nat} (h_p0 : RSl 1 RStr I a_p0 c_p0 p0) (hS : St E w I Os) {r : (List By8)} (G : chain_sorted p0 = some r) :
    Calls P 36 #[(Sl a_p0 p0 c_p0)] w (fun e w' => ∃ (I' : Mem) (ra0 : Option Addr) (rc0 : Nat) (rC0 : Mem), e = .returned (Sl ra0 r rc0) ∧ I.Le I' ∧ St E w' I' (rC0 :: Os) ∧ OwnSl 9 1 RStr I' rC0 ra0 rc0 r) := by
 refine calls_W (fn := Tryz.f36) rfl rfl rfl ?_
 unfold chain_sorted at G
 refine yg [0] (yaf 0 2 (.slice none 0 0) (yac nL3 (ya 0 1 z (bsk G fun r6 Xr1 G => yae (slices_Clone_string_ok h_p0 hS Xr1) ?_))))
 rintro _ w2 ⟨I3, a_r6, c_r6, C_r6, rfl, L4, S5, h_r6⟩
 refine cv (ya 2 1 z (yac nL2 (ya 0 1 z (bsk G fun r12 Xr7 G => yae (sort69_ok h_r6 S5 Xr7) ?_))))
 rintro _ w8 ⟨I9, C_r12, rfl, L10, S11, h_r12, hn_r12⟩
 refine cv (y8 3 z (show Value.slice a_r6 r6.length c_r6 = Value.slice a_r6 r12.length c_r6 by rw [hn_r12]) ?_)
 refine y8 5 z (show Value.slice a_r6 r6.length c_r6 = Value.slice a_r6 r12.length c_r6 by rw [hn_r12]) ?_
 refine y8 6 z (show Value.slice a_r6 r6.length c_r6 = Value.slice a_r6 r12.length c_r6 by rw [hn_r12]) ?_
 refine yac nL3 (ya 0 1 z (bsk G fun r18 Xr13 G => yae (slices_Compact_string_ok h_r12 S11 Xr13) ?_))
 rintro _ w14 ⟨I15, a_r18, c_r18, C_r18, rfl, L16, S17, h_r18⟩
 exact cv (ya 2 1 z (yb (yp (sj G ▸ yw ⟨I15, a_r18, c_r18, C_r18, rfl, le, S17, h_r18⟩))))
noncomputable def chain_Chain_Changed (p0 : chain_Chain) (p1 : qC) (p2 : qC) : Option (List By8) := (chain_missing p1 p2).bind (fun r16 => (chain_missing p2 p1).bind (fun r22 => (app 16 r16 r22).bind (fun x24 => (chain_sameRoles p1.Roles p2.Roles).bind (fun r38 => ((bif (!r38) then some true else (slices_Equal_qG p1.Grants p2.Grants).bind (fun r56 => some (!r56)))).bind (fun (j39 : Bool) => ((bif j39 then (app 16 x24 ([(⟨#[36]⟩ : By8)] : List By8)).bind (fun x79 => some x79) else some x24)).bind (fun (j67 : List By8) => (chain_sorted j67).bind (fun r102 => some r102)))))))
theorem chain_Chain_Changed_ok {p0 : chain_Chain} {p1 : qC} {p2 : qC} {b_p0 : Nat} {w_p0 : W_chain_Chain} {w_p1 : W_qC} {w_p2 : W_qC} (h_p0 : ok_chain_Chain I p0 w_p0) (h_p1 : ok_qC I p1 w_p1) (h_p2 : ok_qC I p2 w_p2) (hS : St E w I ((Bx b_p0 (cs_chain_Chain p0 w_p0) 88) :: (w_p0.live.C) :: (w_p0.pins.C) :: (w_p0.news.C) :: Os)) {r : (List By8)} (G : chain_Chain_Changed p0 p1 p2 = some r) :
    Calls P 11 #[(Pt b_p0 0), (vC p1 w_p1), (vC p2 w_p2)] w (fun e w' => ∃ (I' : Mem) (ra0 : Option Addr) (rc0 : Nat), e = .returned (Sl ra0 r rc0) ∧ I.Le I' ∧ St E w' I' ((Bx b_p0 (cs_chain_Chain p0 w_p0) 88) :: w_p0.live.C :: w_p0.pins.C :: w_p0.news.C :: Os) ∧ RSl 1 RStr I' ra0 rc0 r) := by
 refine calls_W (fn := Tryz.f11) rfl rfl rfl ?_
 unfold chain_Chain_Changed at G
 refine yg nL3 (yab hS (cs_qC p1 w_p1) 29 z fun b1 w4 S3 => yab S3 (cs_qC p2 w_p2) 29 z fun b5 w8 S7 => yaf 2 6 (.slice none 0 0) (yb (W.seq (have S9 := S7.drew; ya1 nL8 5 (ym (S9.rd m0) (ym (S9.rd m1) (yx S9.im))) ?_))))
 generalize World.drew _ = w10 at *
 refine y7 ((cs_qC p1 w_p1)) (rd_c m1 (S9.rd m1)) z (y7 ((cs_qC p2 w_p2)) (rd_c m0 (S9.rd m0)) z (bsk G fun r16 Xr11 G => yae (chain_missing_ok h_p1 h_p2 S9 Xr11) ?_))
 rintro _ w12 ⟨I13, a_r16, c_r16, C_r16, rfl, L14, S15, h_r16⟩
 refine ⟨_, rfl, (ym (S15.rd m1) (ym (S15.rd m2) (yx (S15.im.of_le L14)))), ?_⟩
 refine y7 ((cs_qC p2 w_p2)) (rd_c m0 (S15.rd m1)) z (y7 ((cs_qC p1 w_p1)) (rd_c m1 (S15.rd m2)) z (WO.tail z (bsk G fun r22 Xr17 G => yae (chain_missing_ok (h_p2.mono L14) (h_p1.mono L14) S15 Xr17) ?_)))
 rintro _ w18 ⟨I19, a_r22, c_r22, C_r22, rfl, L20, S21, h_r22⟩
 refine cv (have S23 := S21.front1; apk G fun x24 h0_x24 he_x24 G => yau 9 16 [(.string eB)] S23 (OwnSl.mono h_r16 L20) h_r22.sl (S23.rd m1) h0_x24 he_x24 z fun a25 c26 w27 C28 S29 ho30 => have S32 := S29.front1.drop; ya 7 1 z (yb (W.seq (yg nL14 (yf 0 1 [2] z (yj (S32.rf m2) z (yf 2 1 [2] z (yj (S32.rf m1) z (bsk G fun r38 Xr33 G => WO.c1 (chain_sameRoles_ok (up h_p1.Roles) (up h_p2.Roles) S32 Xr33) z fun I35 w34 L36 S37 => ya 5 2 z (bsk G fun j39 R1 G => yam (l1 := [7, 8, 9, 10, 11, 12, 13]) (J := JI E I35 [(7, Sl a25 x24 c26), (28, .bool j39)] ((Bx b_p0 (cs_chain_Chain p0 w_p0) 88) :: (w_p0.live.C) :: (w_p0.pins.C) :: (w_p0.news.C) :: (C28) :: Os)) ?_ ?_))))))))))
 refine yal R1 (fun K R1 => ?_) (fun K R1 => ?_)
 refine yz 21 K ?_
 iterate 6 refine WO.ps ?_
 exact ya 13 1 z (sj R1 ▸ yy ⟨I35, rfl, lr, S37.front1.drop.front1.drop.front4.front4.front4.front4⟩)
 exact yz 21 K (yf 7 1 [3] z (yj (S37.rf m2) z (yf 9 1 [3] z (yj (S37.rf m1) z (bsk R1 fun r56 Xr51 R1 => WO.c1 (slices_Equal_qG_ok (up h_p1.Grants) (up h_p2.Grants) S37 Xr51) z fun I53 w52 L54 S55 => ya 12 2 z (sj R1 ▸ yy ⟨I53, rfl, L54, S55.front1.drop.front1.drop.front4.front4.front4.front4⟩))))))
 rintro _ w65 ⟨I41, rfl, L42, S66⟩
 refine yb (bsk G fun j67 R1 G => yay (J := (fun fr w => ∃ I69 a_j67 c_j67 C_j67, fr = [(7, Sl a_j67 j67 c_j67)] ∧ I41.Le I69 ∧ St E w I69 ((Bx b_p0 (cs_chain_Chain p0 w_p0) 88) :: (w_p0.live.C) :: (w_p0.pins.C) :: (w_p0.news.C) :: (C_j67) :: Os) ∧ OwnSl 9 1 RStr I69 C_j67 a_j67 c_j67 j67)) ?_ ?_)
 refine y6 R1 (fun K R1 => ?_) (fun K R1 => ?_)
 refine yai nL4 (ya 0 1 z (yad (rel := RStr) (xs := ([(⟨#[36]⟩ : By8)] : List By8)) S66 z kr z 9 1 [[(.string (⟨#[36]⟩ : By8))]] kr z ((Elr.cons z Elr.nil)) tv ?_))
 intro a74 C72 w76 S75 ho73
 have S78 := S75.front5
 exact apk R1 fun x79 h0_x79 he_x79 R1 => yau 9 16 [(.string eB)] S78 (OwnSl.mono ho30 le) ho73.sl (S78.rd m1) h0_x79 he_x79 z fun a80 c81 w82 C83 S84 ho85 => ya 3 1 z (yt (sj R1 ▸ yv ⟨I41, a80, c81, C83, rfl, lr, S84.front1.drop.front4.front4.front4.front4, ho85⟩))
 exact W.skip (sj R1 ▸ yv ⟨I41, a25, c26, C28, rfl, lr, S66, (OwnSl.mono ho30 le)⟩)
 rintro _ w92 ⟨I69, a_j67, c_j67, C_j67, rfl, L70, S93, h_j67⟩
 refine ye (yg nL3 (ya 0 1 z (have S94 := S93.front4; have hp96 := (h_j67).publish S94; bsk G fun r102 Xr97 G => yae (chain_sorted_ok hp96 S94.publish Xr97) ?_)))
 rintro _ w98 ⟨I99, a_r102, c_r102, C_r102, rfl, L100, S101, h_r102⟩
 have S103 := St.lentBack S94 L100 S101
 have ho104 := OwnSl.flat h_r102 I69 (fun hq => hq)
 refine cv ?_
 obtain ⟨I105, L106, S108, hp107⟩ := yag ho104 S103
 exact ya 2 1 z (yb (yp (sj G ▸ yw ⟨I105, a_r102, c_r102, rfl, le, S108.drop, hp107⟩)))
def chain_Chain_trim (h : chain_Chain) : Option chain_Chain := if (h.live.map (·.1)).Nodup then some { h with live := h.live.filter fun p => !((p.1 != h.now) && (p.2.pins == 0)) } else none
theorem trim1_ok {E w : World} {I C : Mem} {Os : List Mem} {v now : Int} {kb bb hb : Nat} {m1 m2 m3 : Value} {x : chain_kept} {wx : W_chain_kept} (hbox : Bx bb [Pt hb 0] 51 ∈ Os) (hobj : Bx hb [m1, Iv now, m2, m3] 88 ∈ Os) (hC : C ∈ Os) (hk : CellsAt C kb 0 (cs_chain_kept x wx)) (hS : St E w I Os) :
    Calls P 76 #[Iv v, Pt kb 0, Pt bb 0] w (fun e w' => e = .returned (.bool ((v != now) && (x.pins == 0))) ∧ St E w' I Os) := by
  refine calls_W (args := [Iv v, Pt kb 0, Pt bb 0]) (fn := Tryz.f76) rfl rfl rfl ?_
  exact yg [0] (ya 0 1 z (yac nL14 (ya 0 1 z (yj (hS.rf hbox) z (yf 2 2 [1] z (yj (hS.rf hobj) z (ya 5 2 z (yaw [7, 8, 9, 10, 11] 12 12 18 (.refl ((v != now) && (x.pins == 0))) (fun _ => yf 7 3 [4] z (yar hk 4 (hS.rf hC) z (ya 11 2 z yak))) (ya 13 1 z (yb (yp (yw ⟨rfl, hS⟩))))))))))))
theorem delf_ok {E w : World} {I Cm : Mem} {Os : List Mem} {m g : Nat} {ks : List Value} {lm : List (Int × Option Nat)} {q : Int × Option Nat → Bool} (h : OwnMap (Value.int .i64) valP I Cm m lm) (hn : (lm.map (·.1)).Nodup) (hS : St E w I (Cm :: Os)) (hcall : Callable P g)
    (hg : ∀ {w : World} {D C' : Mem} (p : Int × Option Nat), p ∈ lm → St E w I (D :: C' :: Os) → Calls P g (([Iv p.1, ptr p.2] : List Value) ++ ks).toArray w (fun e w' => e = .returned (.bool (q p)) ∧ St E w' I (D :: C' :: Os))) :
    Calls P 75 #[.map (some m), .func (.func g) #[] ks.toArray] w (fun e w' => ∃ Cm', e = .returned (.tuple #[]) ∧ St E w' I (Cm' :: Os) ∧ OwnMap (Value.int .i64) valP I Cm' m (lm.filter fun p => !q p)) := by
  refine calls_W (args := [.map (some m), .func (.func g) #[] ks.toArray]) (fn := Tryz.f75) rfl rfl rfl ?_
  refine W.seq ?_
  refine W.region (l := [0, 1]) kr ?_
  refine yba [(0, 6, (.map (some m)))] kr (fun _ => by kernel_rfl) ?_
  refine WO.rangeMap h hS (t := 84) (kt := 3) (et := 81) kr z kr z z tv ?_
  intro ib w2 D2 S2 hit2
  refine yt ?_
  refine ye ?_
  refine yn ?_
  refine W.weaken (fr' := [(0, (.map (some m))), (1, (.func (.func g) #[] ks.toArray)), (7, Pt ib 0)]) (W.loopG (fun k fr w => ∃ (D' C' : Mem) (cur rem : List (Int × Option Nat)) (last : Option (Value × Value)), fr = [(0, (.map (some m))), (1, (.func (.func g) #[] ks.toArray)), (7, Pt ib 0)] ∧ k = rem.length ∧ St E w I (D' :: C' :: Os) ∧ IterSt (Value.int .i64) valP I C' m cur D' ib rem last ∧ Sift q lm cur rem) ⟨D2, Cm, lm, lm, none, rfl, rfl, S2, hit2, Sift.start⟩ ?_) (Sub.cons z (Sub.cons z (Sub.cons z Sub.nil)))
  rintro _ _ w3 ⟨D3, C3, cur3, rem3, last3, rfl, rfl, S3, hit3, hf3⟩
  refine W.seq ?_
  refine W.region (l := [0, 1]) kr ?_
  refine WO.next hit3 S3 z kr z z tv (fun he => ?_) ?_
  · subst he
    refine yba [(1, 9, (.bool false))] kr (fun _ => by kernel_rfl) ?_
    refine yb (W.seq (yas (fun _ => W.exit (yo (yq (yu (En.toRet (En.ret0 z ⟨C3, rfl, S3.drop, ?_⟩))))))))
    have := hit3.own
    rwa [hf3.done hn] at this
  · intro k x rem4 v w4 D4 hp4 hv4 S4 hit4
    obtain rfl : v = ptr x := hv4
    have hm4 : (k, x) ∈ lm := hf3.sub.subset (hf3.mem _ (hp4.mem_iff.2 (List.mem_cons_self ..)))
    refine yba [(1, 9, (.bool true))] kr (fun _ => by kernel_rfl) ?_
    refine yb (W.seq (yat (fun _ => W.skip (ye (yn (W.seq (W.region (l := [0, 1, 2, 3, 4]) kr (WO.entry hit4 S4 z kr z z trivial ?_))))))))
    refine yba [(1, 11, Iv k), (2, 12, ptr x), (3, 4, Iv k), (4, 5, ptr x)] kr (fun _ => by kernel_rfl) ?_
    refine yb (W.seq (W.region (l := [0, 1, 2, 3]) kr ?_))
    refine yba [(0, 13, (.func (.func g) #[] ks.toArray)), (1, 14, Iv k), (2, 15, ptr x)] kr (fun _ => by kernel_rfl) ?_
    refine WO.callv z kr z (g := g) (kk := ks) (args := [Iv k, ptr x]) z kr hcall (hg (k, x) hm4 S4) ?_
    rintro _ w5 ⟨rfl, S5⟩
    refine ⟨_, rfl, trivial, yb ?_⟩
    have hlen4 := hp4.length_eq
    simp only [List.length_cons] at hlen4
    refine W.cond (b := q (k, x)) z z (fun K => ?_) (fun K => ?_)
    · refine W.region (l := [0, 1, 2]) kr ?_
      refine yba [(0, 17, (.map (some m))), (1, 18, Iv k)] kr (fun _ => by kernel_rfl) ?_
      refine WO.deleteIt2 hit4 S5.front1 (t := 84) (kt := 3) (et := 81) kr (keyLaw_int (kt := 3) kr) z kr z z k z tv ?_
      intro w7 C7 rem7 S7 R7 R8 hit7
      refine yt (yl ?_)
      exact En.weaken (fr' := [(0, (.map (some m))), (1, (.func (.func g) #[] ks.toArray)), (7, Pt ib 0)]) (En.round ⟨rem7.length, by omega, D4, C7, mdel iEq cur3 k, rem7, none, rfl, rfl, S7.front1, hit7, hf3.drop ieqP hn hp4 K R8 fun y hy => hit7.rem_mem hy⟩) (Sub.cons z (Sub.cons z (Sub.cons z Sub.nil)))
    · refine W.skip (yl ?_)
      exact En.weaken (fr' := [(0, (.map (some m))), (1, (.func (.func g) #[] ks.toArray)), (7, Pt ib 0)]) (En.round ⟨rem4.length, by omega, D4, C3, cur3, rem4, _, rfl, rfl, S5, hit4, hf3.keep hp4 K⟩) (Sub.cons z (Sub.cons z (Sub.cons z Sub.nil)))
theorem chain_Chain_trim_ok {h r : chain_Chain} {b : Nat} {v : W_chain_Chain} (h0 : PMap (Value.int .i64) R_chain_kept 83 I v.live.C v.live.m h.live) (hS : St E w I (Bx b (cs_chain_Chain h v) 88 :: v.live.C :: Os)) (G : chain_Chain_trim h = some r) :
    Calls P 49 #[Pt b 0] w (fun e w' => ∃ C', e = .returned (.tuple #[]) ∧ St E w' I (Bx b (cs_chain_Chain h v) 88 :: C' :: Os) ∧ PMap (Value.int .i64) R_chain_kept 83 I C' v.live.m r.live) := by
  refine calls_W (args := [Pt b 0]) (fn := Tryz.f49) rfl rfl rfl ?_
  unfold chain_Chain_trim at G
  split at G
  rotate_left
  · cases G
  rename_i hnd
  obtain rfl := Option.some.inj G
  refine yg [0] (yab hS [Pt b 0] 51 z fun bb w1 S1 => yt (ye (yai nL6 (yj (S1.rf m0) z (yf 1 2 [0] z (yj (S1.rf m1) z (yba [(4, 6, (.func (.func 76) #[] #[Pt bb 0]))] kr (fun _ => by kernel_rfl) ?_)))))))
  obtain ⟨Cm, Co, H, S2, h3, hl⟩ := h0.open_ S1.front2
  have hnk : (H.map (·.1)).Nodup := by
    have := hnd
    rw [hl, List.map_map] at this
    exact this
  have hkeys : ∀ p : Int × chain_kept, p ∈ h.live → mget iEq h.live p.1 = some p.2 := fun p hp => mget_of_mem ieqP hnd hp
  refine WO.call z kr z (f := 75) (args := #[.map (some v.live.m), .func (.func 76) #[] #[Pt bb 0]]) kr
    (delf_ok (q := fun p => (p.1 != h.now) && (((mget iEq h.live p.1).map (·.pins)).getD 1 == 0)) (ks := [Pt bb 0]) h3.map (by rw [List.map_map]; exact hnk) S2 (fun _ _ => by kernel_rfl) (fun {w D C'} p hp hSc => ?_)) ?_
  · obtain ⟨⟨k, kb, x⟩, hq, rfl⟩ := List.mem_map.1 hp
    obtain ⟨cs, hc1, wx, rfl, hok⟩ := h3.objs.cell (kb, x) (List.mem_map.2 ⟨_, hq, rfl⟩)
    have hx : mget iEq h.live k = some x := hkeys (k, x) (by rw [hl]; exact List.mem_map.2 ⟨_, hq, rfl⟩)
    simp only [hx, Option.map_some, Option.getD_some]
    exact trim1_ok (C := Co) (m1 := .map (some v.live.m)) (m2 := .map (some v.pins.m)) (m3 := .map (some v.news.m)) m3 m4 m2 ⟨_, _, _, hc1, fun j u hj => by rw [Nat.zero_add]; simpa using hj⟩ hSc
  rintro _ w4 ⟨Cm', rfl, S4, hm4⟩
  refine ⟨_, rfl, trivial, yt (En.toRet (En.ret0 z ⟨Cm'.with Co, rfl, (S4.merge.back2).drop, Cm', Co, H.filter fun p => !((p.1 != h.now) && (p.2.2.pins == 0)), rfl, (List.pairwise_cons.1 S4.dj).1 Co m0, ⟨?_, h3.objs.sub (List.filter_sublist.map _)⟩, ?_⟩))⟩
  · have e : (H.filter fun p => !((p.1 != h.now) && (p.2.2.pins == 0))).map (fun p => (p.1, some p.2.1)) = (H.map fun p => (p.1, some p.2.1)).filter fun p => !((p.1 != h.now) && (((mget iEq h.live p.1).map (·.pins)).getD 1 == 0)) := by
      rw [List.filter_map]
      congr 1
      refine List.filter_congr fun p hp => ?_
      have hx : mget iEq h.live p.1 = some p.2.2 := hkeys (p.1, p.2.2) (by rw [hl]; exact List.mem_map.2 ⟨_, hp, rfl⟩)
      simp only [Function.comp, hx, Option.map_some, Option.getD_some]
    rw [e]
    exact hm4
  · simp only [hl, List.filter_map]
    rfl
theorem trim_eq {h r : chain_Chain} (ht : chain_Chain_trim h = some r) : r = { h with live := r.live } := by
  unfold chain_Chain_trim at ht
  split at ht
  · obtain rfl := Option.some.inj ht
    rfl
  · cases ht
noncomputable def chain_told (ch : List By8) (l : List (Int × List By8)) : Option (List (Int × List By8)) :=
  loopO (fun (s : Int × List (Int × List By8)) => bif decide (s.1 ≤ 8) then (app 16 ((mget iEq s.2 s.1).getD []) ch).bind fun x => (chain_sorted x).bind fun y => some (.inl (w64 (s.1 + 1), mset iEq s.2 s.1 y)) else some (.inr s.2)) (1, l)
noncomputable def chain_Chain_Publish (h : chain_Chain) (c : qC) : Option (Int × chain_Chain) :=
  bif decide (c.Version ≤ h.now) then some (2, h) else (chain_Chain_Now h).bind fun a => (chain_Chain_Changed h a c).bind fun ch => (chain_told ch h.news).bind fun l =>
    (chain_Chain_trim { h with news := l, now := c.Version, live := mset iEq h.live c.Version ⟨c, 0⟩ }).bind fun h' => some (0, h')
set_option maxHeartbeats 2000000 in
theorem chain_Chain_Publish_ok {p0 : chain_Chain} {p1 : qC} {b_p0 : Nat} {w_p0 : W_chain_Chain} {w_p1 : W_qC} (h_p0 : ok_chain_Chain I p0 w_p0) (h_p1 : ok_qC I p1 w_p1) (hS : St E w I (Bx b_p0 (cs_chain_Chain p0 w_p0) 88 :: w_p0.live.C :: w_p0.pins.C :: w_p0.news.C :: Os)) {r : Int × chain_Chain} (G : chain_Chain_Publish p0 p1 = some r) :
    Calls P 28 #[Pt b_p0 0, (vC p1 w_p1)] w (fun e w' => ∃ (I' : Mem) (w_rp0 : W_chain_Chain), e = .returned (Iv r.1) ∧ I.Le I' ∧ St E w' I' (Bx b_p0 (cs_chain_Chain r.2 w_rp0) 88 :: w_rp0.live.C :: w_rp0.pins.C :: w_rp0.news.C :: Os) ∧ ok_chain_Chain I' r.2 w_rp0) := by
  refine calls_W (args := [Pt b_p0 0, (vC p1 w_p1)]) (fn := Tryz.f28) rfl rfl rfl ?_
  unfold chain_Chain_Publish at G
  refine yg nL2 (yab hS (cs_qC p1 w_p1) 29 z fun b1 w1 S1 => ya 1 1 z (yb (W.seq (yg nL2 (ya 0 1 z (WO.c1 (chain_Chain_dead_ok h_p0 S1.front4.front4.front4.front4 z) z fun I2 w2 L2 S2 => yb (yas fun _ => W.skip (ye (W.seq (W.seq (have S3 := S2.drew; ya1 nL7 7 (ym (S3.rd m0) (ym (S3.rd m4) (yx S3.im))) ?_)))))))))))
  generalize World.drew _ = w3 at *
  refine yf 0 1 [0] z (yj (rd_c m1 (S3.rd m4)) z (yf 2 3 [1] z (yj (rd_c m0 (S3.rd m0)) z (ya 6 1 z (yb (y6 G (fun K G => ?_) (fun K G => ?_)))))))
  · exact yg [0] (ya 0 1 rfl (yb (yp (yh (sj G ▸ yw ⟨I2, w_p0, rfl, L2, S3.front4.drop, h_p0.mono L2⟩)))))
  obtain ⟨a, ha, G⟩ := bind_some G
  obtain ⟨ch, hch, G⟩ := bind_some G
  obtain ⟨l, hl, G⟩ := bind_some G
  obtain ⟨h', ht, R9⟩ := bind_some G
  refine W.skip (ye (W.seq (have S4 := S3.drew; ya1 nL6 4 (ym (S4.rd m4) (yx S4.im)) ?_)))
  generalize World.drew _ = w4 at *
  refine ya 0 2 z (yae (chain_Chain_Now_ok (h_p0.mono L2) S4 ha) ?_)
  rintro _ w5 ⟨I5, wa, rfl, L5, S5, hoka⟩
  refine ⟨_, rfl, ym (S5.rd m4) (yx (S5.im.of_le L5)), ?_⟩
  refine y7 (cs_qC p1 w_p1) (rd_c m0 (S5.rd m4)) z (WO.tail z (yae (chain_Chain_Changed_ok ((h_p0.mono L2).mono L5) hoka ((h_p1.mono L2).mono L5) S5 hch) ?_))
  rintro _ w6 ⟨I6, a6, c6, rfl, L6, S6, hsl6⟩
  unfold chain_told at hl
  have L26 : I.Le I6 := L2.trans (L5.trans L6)
  refine cv (ya 5 1 z (yb (W.seq (yg [0] (ya 0 1 z (yb (yn (W.wk (ya7 hl (fun (s : Int × List (Int × List By8)) fr w => match s with | (s1, s2) => ∃ I' C', fr = [(0, Pt b_p0 0), (3, Pt b1 0), (5, .slice a6 ch.length c6), (6, Iv s1)] ∧ I6.Le I' ∧ St E w I' (C' :: Bx b_p0 (cs_chain_Chain p0 w_p0) 88 :: w_p0.live.C :: w_p0.pins.C :: bC b1 p1 w_p1 :: Os) ∧ SMap (Value.int .i64) 9 1 RStr I' C' w_p0.news.m s2) ⟨I6, _, rfl, lr, S6.front3, SMap.mono h_p0.news L26⟩ ?_)))))))))
  rintro ⟨s1, s2⟩ _ w7 ⟨I7, C7, rfl, L7, S7, hM7⟩ x hx hext
  dsimp only at hx
  refine W.seq (yg nL2 (ya 0 2 z (yb (y6 hx (fun K hx => ?_) (fun K hx => ?_)))))
  · obtain ⟨xx, hxx, hx⟩ := bind_some hx
    obtain ⟨y, hy, hx⟩ := bind_some hx
    obtain ⟨Cm, H, S8, hO, hs2⟩ := hM7.open_ S7
    subst hs2
    obtain ⟨f, R, h1, h2, h3, S9, hset, hdel⟩ := hO.focus S8 iEq s1
    rw [← h2] at hxx
    obtain ⟨h0, he⟩ := app_some hxx
    obtain ⟨v, hv, hq⟩ := hO.map.lookup (P := P) (t := 86) (kt := 3) (et := 35) kr (keyLaw_int (kt := 3) kr) s1 (zv := .slice none 0 0) (z0 := (none, 0, 0)) kr rfl
    rw [h1] at hv
    obtain rfl : v = .slice f.a f.xs.length f.c := hv
    refine W.skip (ye (W.seq (yn (have S10 := S9.drew; ya1 nL15 14 (ym (S10.rd m1) (ym (S10.rd (.tail _ (.tail _ (List.mem_append_right _ m0)))) (yx S10.im))) ?_))))
    generalize World.drew _ = w10 at *
    refine yf 0 3 [3] z (yj (rd_c m1 (S10.rd (.tail _ (.tail _ (List.mem_append_right _ m0))))) z (yf 4 4 [3] z (yj (rd_c m1 (S10.rd (.tail _ (.tail _ (List.mem_append_right _ m0))))) z (ya 9 1 z ?_))))
    refine WO.lookup z kr z z hq (rd_c m0 (S10.rd m1)) (.slice f.a f.xs.length f.c) z (ya 11 1 z ?_)
    refine ya6 (e' := 9) (b := 16) (zs := #[(.string eB)]) S10 h3 z kr z kr kr kr z z z z (hsl6.mono L7) S10.im h0 he (fun w' C' hS' => ym (hS'.rd m1) (ym (hS'.rd (.tail _ (.tail _ (List.mem_append_right _ m0)))) (yx hS'.im))) ?_
    intro a11 c11 w11 C11 S11 ho11
    obtain ⟨I12, L12, S12, hp12⟩ := yag ho11 S11
    refine yae (chain_sorted_ok hp12 S12 hy) ?_
    rintro _ w13 ⟨I13, a13, c13, C13, rfl, L13, S13, ho13⟩
    refine ⟨_, rfl, ym (S13.rd m1) (ym (S13.rd (.tail _ (.tail _ (List.mem_append_right _ m0)))) (yx (S13.im.of_le (L12.trans L13)))), WO.tail z ?_⟩
    refine (WO.update (OwnMap.mono hO.map (L12.trans L13)) S13.front1 (t := 86) (kt := 3) (et := 35) kr (keyLaw_int (kt := 3) kr) z kr z (.inl z) z s1 z z (xv := (a13, y.length, c13)) z tv ?_)
    intro w14 Cm14 S14 hm14
    obtain ⟨H', hO', S15, hx15⟩ := hset I13 Cm14 w14 _ ⟨a13, c13, C13, y⟩ (L12.trans L13) ho13 hm14 S14
    obtain ⟨C16, hM16, S16⟩ := hO'.shut S15
    rw [hx15] at hM16
    exact yt (yl (ye (yai nL3 (ya 0 3 z (yt (En.wk (fr' := [(0, Pt b_p0 0), (3, Pt b1 0), (5, .slice a6 ch.length c6), (6, Iv (w64 (s1 + 1)))]) (En.round ⟨_, (Option.some.inj hx).symm, I13, C16, rfl, L7.trans (L12.trans L13), S16, hM16⟩)))))))
  · have hlx := hext s2 (Option.some.inj hx).symm
    subst hlx
    have L27 : I.Le I7 := L26.trans L7
    refine W.exit (yo (yq (yu (ye (yg nL6 (ya 0 1 z (yf 1 1 [0] z (yj (S7.rf m4) z (yf 3 2 [1] z (yaa S7.front1 1 (cs_chain_Chain { p0 with now := p1.Version } w_p0) fun w8 S8 => yb (W.seq (have S9 := S8.drew; ya1 nL12 11 (ym (S9.rd m0) (ym (S9.rd m4) (yx S9.im))) ?_))))))))))))
    generalize World.drew _ = w9 at *
    refine yf 0 3 [0] z (yj (rd_c m0 (S9.rd m0)) z (yf 4 3 [1] z (yj (rd_c m0 (S9.rd m0)) z (y7 (cs_qC p1 w_p1) (rd_c m1 (S9.rd m4)) z (yaf 9 53 (.agg (cs_chain_kept ⟨p1, 0⟩ ⟨w_p1⟩).toArray) ?_)))))
    refine ybb S9.front2 z kr z (.cells (cs_chain_kept ⟨p1, 0⟩ ⟨w_p1⟩).toArray 83 (0, 0)) (fun b => .pointer (some ⟨b, 0, none⟩)) kr (fun b w' h1 => ym (h1.rd m2) (ym (h1.rd m5) (yx h1.im))) ?_
    intro kb w10 S10
    refine WO.tail z ?_
    refine WO.updP ieqP (h_p0.live.mono L27) S10 (x := ⟨p1, 0⟩) ⟨⟨w_p1⟩, rfl, ⟨h_p1.mono L27⟩⟩ (t := 84) (kt := 3) (et := 81) kr (keyLaw_int (kt := 3) kr) z kr (.inl z) z p1.Version z z ?_
    intro w11 C11 S11 hP11
    refine yb (yg nL2 (ya 0 1 z (yae (chain_Chain_trim_ok (h := { p0 with news := s2, now := p1.Version, live := mset iEq p0.live p1.Version ⟨p1, 0⟩ }) (v := ⟨⟨w_p0.live.m, C11⟩, w_p0.pins, ⟨w_p0.news.m, C7⟩⟩) hP11 S11.front1 ht) ?_)))
    rintro _ w12 ⟨C12, rfl, S12, hP12⟩
    have e8 := trim_eq ht
    obtain rfl := Option.some.inj R9
    refine cv (yb (yg [0] (ya 0 1 z (yb (yp (yw ⟨I7, ⟨⟨w_p0.live.m, C12⟩, w_p0.pins, ⟨w_p0.news.m, C7⟩⟩, rfl, L27, ?_, ?_⟩))))))
    · rw [e8]; exact S12.front4.drop.front3.front1.front2.front1
    · rw [e8]; exact ⟨hP12, OwnMap.mono h_p0.pins L27, hM7⟩
def chain_Chain_Live (h : chain_Chain) : Option (List Int) := keysI h.live
theorem keysI_congr {ν μ : Type} {l : List (Int × ν)} {l' : List (Int × μ)} (h : l.map (·.1) = l'.map (·.1)) : keysI l = keysI l' := by
  have hl : l.length = l'.length := by have := congrArg List.length h; simpa using this
  unfold keysI
  rw [h, hl]
theorem chain_Chain_Live_ok {p0 : chain_Chain} {b_p0 : Nat} {w_p0 : W_chain_Chain} (h_p0 : ok_chain_Chain I p0 w_p0) (hS : St E w I (Bx b_p0 (cs_chain_Chain p0 w_p0) 88 :: w_p0.live.C :: w_p0.pins.C :: w_p0.news.C :: Os)) {r : (List Int)} (G : chain_Chain_Live p0 = some r) :
    Calls P 17 #[Pt b_p0 0] w (fun e w' => ∃ (I' : Mem) (ra0 : Option Addr) (rc0 : Nat), e = .returned (.slice ra0 r.length rc0) ∧ I.Le I' ∧ St E w' I' (Bx b_p0 (cs_chain_Chain p0 w_p0) 88 :: w_p0.live.C :: w_p0.pins.C :: w_p0.news.C :: Os) ∧ RSl 1 (RInt .i64) I' ra0 rc0 r) := by
  refine calls_W (args := [Pt b_p0 0]) (fn := Tryz.f17) rfl rfl rfl ?_
  unfold chain_Chain_Live at G
  refine yg [0] (ya 0 1 z (yb (W.seq (yg nL2 (ya 0 1 z (WO.c1 (chain_Chain_dead_ok h_p0 hS z) z fun I2 w2 L2 S2 => yb (yas fun _ => W.skip (ye (yg nL7 (yf 0 3 [0] z (yj (S2.rf m0) z (yae (Tryz.maps_Keys_46 (some w_p0.live.m) w2) ?_))))))))))))
  rintro _ _ ⟨rfl, rfl⟩
  obtain ⟨Cm, Co, lm, S3, hm, hk, hC⟩ := (h_p0.live.mono L2).keys S2.front1
  rw [← keysI_congr hk] at G
  refine cv (yae (keys_ownI hm (S3.alloc (.cells #[.map (some w_p0.live.m)] 84 (0, 0))) (kt := 3) kr (fun b nn D0 R w h1 h2 h3 h4 h5 => Tryz.sortedAt45_46 _ b nn D0 R w h1 h2 h3 h4 h5) G) ?_)
  rintro _ w4 ⟨I4, a, c, rfl, L4, S4, hsl⟩
  have S5 : St E w4 I4 (Cm :: Co :: Bx b_p0 (cs_chain_Chain p0 w_p0) 88 :: w_p0.pins.C :: w_p0.news.C :: Os) := S4.drop
  have S6 := S5.merge
  rw [← hC] at S6
  exact cv (ya 6 1 z (yb (yp (yw ⟨I4, a, c, rfl, L2.trans L4, S6.front1, hsl⟩))))
def chain_Chain_Hear (h : chain_Chain) (who : Int) : Option (List By8 × chain_Chain) :=
  (chain_Chain_check h who).bind fun e => bif e != 0 then some ([], h) else some ((mget iEq h.news who).getD [], { h with news := mdel iEq h.news who })
theorem chain_Chain_Hear_ok {p0 : chain_Chain} {p1 : Int} {b_p0 : Nat} {w_p0 : W_chain_Chain} (h_p0 : ok_chain_Chain I p0 w_p0) (hS : St E w I (Bx b_p0 (cs_chain_Chain p0 w_p0) 88 :: w_p0.live.C :: w_p0.pins.C :: w_p0.news.C :: Os)) {r : (List By8) × chain_Chain} (G : chain_Chain_Hear p0 p1 = some r) :
    Calls P 29 #[Pt b_p0 0, Iv p1] w (fun e w' => ∃ (I' : Mem) (ra0 : Option Addr) (rc0 : Nat) (w_rp0 : W_chain_Chain), e = .returned (.slice ra0 r.1.length rc0) ∧ I.Le I' ∧ St E w' I' (Bx b_p0 (cs_chain_Chain r.2 w_rp0) 88 :: w_rp0.live.C :: w_rp0.pins.C :: w_rp0.news.C :: Os) ∧ RSl 1 RStr I' ra0 rc0 r.1 ∧ ok_chain_Chain I' r.2 w_rp0) := by
  refine calls_W (args := [Pt b_p0 0, Iv p1]) (fn := Tryz.f29) rfl rfl rfl ?_
  unfold chain_Chain_Hear at G
  obtain ⟨e, he, G⟩ := bind_some G
  refine yg [0] (ya 0 1 z (yb (W.seq (yg nL4 (ya 0 2 z (WO.c1 (chain_Chain_check_ok h_p0 hS he) z fun I2 w2 L2 S2 => ya 3 1 z (yb (y6 G (fun K G => ?_) (fun K G => ?_)))))))))
  · exact yg [0] (ya 0 1 rfl (yb (yp (yh (sj G ▸ yw ⟨I2, none, 0, w_p0, rfl, L2, S2, SlAt.nil, h_p0.mono L2⟩)))))
  obtain rfl := Option.some.inj G
  obtain ⟨Cm, H, S3, hO, hl⟩ := (SMap.mono h_p0.news L2).open_ S2.front3
  obtain ⟨f, R, h1, h2, h3, S4, hset, hdel⟩ := hO.focus S3 iEq p1
  obtain ⟨v, hv, hq⟩ := hO.map.lookup (P := P) (t := 86) (kt := 3) (et := 35) kr (keyLaw_int (kt := 3) kr) p1 (zv := .slice none 0 0) (z0 := (none, 0, 0)) kr rfl
  rw [h1] at hv
  obtain rfl : v = .slice f.a f.xs.length f.c := hv
  rw [hl, ← h2]
  refine W.skip (ye (yg nL7 (yf 0 3 [3] z (yj (S4.rf (.tail _ (.tail _ (List.mem_append_right _ m0)))) z (ya 4 1 z ?_)))))
  refine WO.lookup z kr z z hq (rd_f (S4.rd m1)) (.slice f.a f.xs.length f.c) z (ya 6 1 z ?_)
  refine yb (yg nL6 (yf 0 3 [3] z (yj (S4.rf (.tail _ (.tail _ (List.mem_append_right _ m0)))) z (ya 4 1 z ?_))))
  refine WO.delete hO.map S4.front1 (t := 86) (kt := 3) (et := 35) kr (keyLaw_int (kt := 3) kr) z kr z z p1 z tv ?_
  intro w5 Cm5 S5 hm5
  obtain ⟨I6, L6, S6, hp6⟩ := yag h3 S5.front1
  obtain ⟨H', hO', S7, hx7⟩ := hdel I6 Cm5 w5 _ L6 (OwnMap.mono hm5 L6) S6
  obtain ⟨C7, hM7, S8⟩ := hO'.shut S7
  rw [hx7] at hM7
  exact yb (yg nL2 (ya 0 2 z (yb (yp (yw ⟨I6, f.a, f.c, ⟨w_p0.live, w_p0.pins, ⟨w_p0.news.m, C7⟩⟩, rfl, L2.trans L6, S8.front3.front3.front3, hp6, ⟨h_p0.live.mono (L2.trans L6), OwnMap.mono h_p0.pins (L2.trans L6), hM7⟩⟩)))))
noncomputable def law22_works  : Option Bool := (chain_New ({ z_qC with Version := 3 })).bind (fun r7 => (chain_Chain_Pin r7 1).bind (fun (r17, r18, r19) => (chain_Chain_Publish r19 ({ z_qC with Version := 4, Tables := ([{ z_qT with Name := (⟨#[116]⟩ : By8) }] : List qT) })).bind (fun (r42, r43) => (chain_Chain_Publish r43 ({ z_qC with Version := 5 })).bind (fun (r54, r55) => (chain_Chain_Live r55).bind (fun r65 => (chain_Chain_Hear r55 2).bind (fun (r75, r76) => (some (((((r17 == 3) && (r18 == 0)) && (r42 == 0)) && (r54 == 0)) && ((r65.length : Int) == 2))).bind (fun (q83 : Bool) => ((bif q83 then (idx r65 0).bind (fun x90 => some (x90 == 3)) else some false)).bind (fun (j86 : Bool) => ((bif j86 then (idx r65 1).bind (fun x105 => some (x105 == 5)) else some false)).bind (fun (j101 : Bool) => ((bif (j101 && ((r75.length : Int) == 1)) then (idx r75 0).bind (fun x114 => some (sEq x114 (⟨#[116]⟩ : By8))) else some false)).bind (fun (j110 : Bool) => some j110))))))))))
theorem law22_works_ok (hS : St E w I Os) {r : Bool} (G : law22_works = some r) :
    Calls P 7 #[] w (RT E I Os (.bool r)) := by
 refine calls_W (fn := Tryz.f7) rfl rfl rfl ?_
 unfold law22_works at G
 refine yg [0] (ya 0 1 z (yac nL3 (yaf 0 8 (.agg (cs_qC ({ z_qC with Version := 3 }) zw_qC).toArray) ?_)))
 have hk1 : ok_qC I ({ z_qC with Version := 3 }) zw_qC := ⟨SlAt.nil, SlAt.nil, SlAt.nil⟩
 refine bsk G fun r7 Xr2 G => yae (chain_New_ok hk1 hS Xr2) ?_
 rintro _ w3 ⟨I4, b_r7, w_r7, rfl, L5, S6, h_r7⟩
 refine cv (ya 2 1 z (yac nL7 (ya 0 1 z ?_)))
 obtain ⟨⟨r17, r18, r19⟩, Xr12, G⟩ := bsm G
 refine yae (chain_Chain_Pin_ok h_r7 S6.front3.front3.front3.front3 Xr12) ?_
 rintro _ w13 ⟨I14, w_r19, rfl, L15, S16, h_r19⟩
 refine cv (ya 2 5 z (yac nL6 (ya 0 1 z (yaf 1 16 (.agg (cs_qT ({ z_qT with Name := (⟨#[116]⟩ : By8) }) zw_qT).toArray) ?_))))
 have hk27 : ok_qT I14 ({ z_qT with Name := (⟨#[116]⟩ : By8) }) zw_qT := ⟨SlAt.nil, SlAt.nil, SlAt.nil⟩
 refine yad (rel := R_qT) (xs := ([{ z_qT with Name := (⟨#[116]⟩ : By8) }] : List qT)) S16 z kr z 78 6 [(cs_qT ({ z_qT with Name := (⟨#[116]⟩ : By8) }) zw_qT)] kr z ((Elr.cons ⟨zw_qT, rfl, hk27⟩ Elr.nil)) tv ?_
 intro a23 C21 w25 S24 ho22
 obtain ⟨I28, L29, S31, hp30⟩ := yag ho22 S24
 refine yaf 3 18 (.agg #[(Iv 4), (.slice a23 1 1), (.slice none 0 0), (.slice none 0 0)]) ?_
 have hk36 : ok_qC I28 ({ z_qC with Version := 4, Tables := ([{ z_qT with Name := (⟨#[116]⟩ : By8) }] : List qT) }) ({ zw_qC with Tables := ⟨a23, 1⟩ }) := ⟨hp30, SlAt.nil, SlAt.nil⟩
 obtain ⟨⟨r42, r43⟩, Xr37, G⟩ := bsm G
 refine yae (chain_Chain_Publish_ok (h_r19.mono L29) hk36 S31.front3.front3.front3.front3 Xr37) ?_
 rintro _ w38 ⟨I39, w_r43, rfl, L40, S41, h_r43⟩
 refine cv (ya 5 1 z (yac nL4 (ya 0 1 z (yaf 1 21 (.agg (cs_qC ({ z_qC with Version := 5 }) zw_qC).toArray) ?_))))
 have hk48 : ok_qC I39 ({ z_qC with Version := 5 }) zw_qC := ⟨SlAt.nil, SlAt.nil, SlAt.nil⟩
 obtain ⟨⟨r54, r55⟩, Xr49, G⟩ := bsm G
 refine yae (chain_Chain_Publish_ok h_r43 hk48 S41.front3.front3.front3.front3 Xr49) ?_
 rintro _ w50 ⟨I51, w_r55, rfl, L52, S53, h_r55⟩
 refine cv (ya 3 1 z (yac nL3 (ya 0 1 z (bsk G fun r65 Xr60 G => yae (chain_Chain_Live_ok h_r55 S53.front3.front3.front3.front3 Xr60) ?_))))
 rintro _ w61 ⟨I62, a_r65, c_r65, rfl, L63, S64, h_r65⟩
 refine cv (ya 2 1 z (yac nL3 (ya 0 1 z ?_)))
 obtain ⟨⟨r75, r76⟩, Xr70, G⟩ := bsm G
 refine yae (chain_Chain_Hear_ok (h_r55.mono L63) S64.front3.front3.front3.front3 Xr70) ?_
 rintro _ w71 ⟨I72, a_r75, c_r75, w_r76, rfl, L73, S74, h_r75, h_r76⟩
 refine cv (ya 2 1 z (yac nL43 (ya 0 3 z (yaw [3, 4] 5 29 32 (.refl ((r17 == 3) && (r18 == 0))) (fun _ => ya 3 3 z yak) (ya 6 1 z (yaw [7, 8] 9 33 36 (.refl (((r17 == 3) && (r18 == 0)) && (r42 == 0))) (fun _ => ya 7 3 z yak) (ya 10 1 z (yaw [11, 12] 13 37 40 (.refl ((((r17 == 3) && (r18 == 0)) && (r42 == 0)) && (r54 == 0))) (fun _ => ya 11 3 z yak) (ya 14 1 z (bsq G fun q83 Xq83 G => yaw [15, 16, 17] 18 41 45 Xq83 (fun _ => ya 15 4 z yak) (ya 19 1 z (bsk G fun j86 R1 G => yam (l1 := [20, 21, 22, 23, 24]) (J := JI E I72 [(6, Sl a_r65 r65 c_r65), (7, Sl a_r75 r75 c_r75), (51, .bool j86)] Os) ?_ ?_))))))))))))
 refine yal R1 (fun K R1 => ?_) (fun K R1 => ?_)
 refine yz 46 K (ya 20 1 z ?_)
 obtain ⟨x90, R1, Hx90, _, rfl, Zx90⟩ := sx I72 h_r65 R1
 exact y0 3 1 Hx90 z (yan Zx90 S74.rm z (ya 23 2 z (sj R1 ▸ yy ⟨I72, rfl, lr, S74.d4⟩)))
 refine yz 46 K ?_
 iterate 4 refine WO.ps ?_
 exact ya 24 1 z (sj R1 ▸ yy ⟨I72, rfl, lr, S74.d4⟩)
 rintro _ w99 ⟨I88, rfl, L89, S100⟩
 refine ya 25 1 z (bsk G fun j101 R1 G => yam (l1 := [26, 27, 28, 29, 30]) (J := JI E I88 [(7, Sl a_r75 r75 c_r75), (57, .bool j101)] Os) ?_ ?_)
 refine yal R1 (fun K R1 => ?_) (fun K R1 => ?_)
 refine yz 52 K (ya 26 1 z ?_)
 obtain ⟨x105, R1, Hx105, _, rfl, Zx105⟩ := sx I88 h_r65 R1
 exact y0 3 1 Hx105 z (yan Zx105 S100.rm z (ya 29 2 z (sj R1 ▸ yy ⟨I88, rfl, lr, S100⟩)))
 refine yz 52 K ?_
 iterate 4 refine WO.ps ?_
 exact ya 30 1 z (sj R1 ▸ yy ⟨I88, rfl, lr, S100⟩)
 rintro _ w106 ⟨I103, rfl, L104, S107⟩
 refine ya 31 1 z (yaw [32, 33, 34] 35 58 62 (.refl (j101 && ((r75.length : Int) == 1))) (fun _ => ya 32 4 z yak) (ya 36 1 z (bsk G fun j110 R1 G => yam (l1 := [37, 38, 39, 40, 41]) (J := JI E I103 [(68, .bool j110)] Os) ?_ ?_)))
 refine yal R1 (fun K R1 => ?_) (fun K R1 => ?_)
 refine yz 63 K (ya 37 1 z ?_)
 obtain ⟨x114, R1, Hx114, _, rfl, Zx114⟩ := sx I103 h_r75 R1
 exact y0 9 1 Hx114 z (yan Zx114 S107.rm z (ya 40 2 z (sj R1 ▸ yy ⟨I103, rfl, lr, S107⟩)))
 refine yz 63 K ?_
 iterate 4 refine WO.ps ?_
 exact ya 41 1 z (sj R1 ▸ yy ⟨I103, rfl, lr, S107⟩)
 rintro _ w115 ⟨I112, rfl, L113, S116⟩
 exact ya 42 1 z (yb (yp (sj G ▸ yw ⟨I112, rfl, le, S116⟩)))
def r17_New  : Option qC := some { z_qC with Roles := ([{ z_qJ with Name := (⟨#[114, 111, 111, 116]⟩ : By8) }] : List qJ) }
theorem r17_New_ok (hS : St E w I Os) {r : qC} (G : r17_New = some r) :
    Calls P 51 #[] w (fun e w' => ∃ I' w_rw0, e = .returned (vC r w_rw0) ∧ I.Le I' ∧ St E w' I' Os ∧ ok_qC I' r w_rw0) := by
 refine calls_W (fn := Tryz.f51) rfl rfl rfl ?_
 unfold r17_New at G
 refine yg [0] (yab hS (cs_qC z_qC zw_qC) 29 z fun b1 w4 S3 => yac nL4 (yaf 0 1 (.agg (cs_qJ ({ z_qJ with Name := (⟨#[114, 111, 111, 116]⟩ : By8) }) zw_qJ).toArray) ?_))
 have hk12 : ok_qJ I ({ z_qJ with Name := (⟨#[114, 111, 111, 116]⟩ : By8) }) zw_qJ := ⟨SlAt.nil⟩
 refine yad (rel := R_qJ) (xs := ([{ z_qJ with Name := (⟨#[114, 111, 111, 116]⟩ : By8) }] : List qJ)) S3 z kr z 107 2 [(cs_qJ ({ z_qJ with Name := (⟨#[114, 111, 111, 116]⟩ : By8) }) zw_qJ)] kr z ((Elr.cons ⟨zw_qJ, rfl, hk12⟩ Elr.nil)) tv ?_
 intro a8 C6 w10 S9 ho7
 obtain ⟨I13, L14, S16, hp15⟩ := yag ho7 S9
 refine yaf 2 3 (.agg #[(Iv 0), (.slice none 0 0), (.slice a8 1 1), (.slice none 0 0)]) (yaa S16 0 [(Iv 0), (.slice none 0 0), (.slice a8 1 1), (.slice none 0 0)] fun w18 S17 => yb (yp ?_))
 have hk20 : ok_qC I13 ({ z_qC with Roles := ([{ z_qJ with Name := (⟨#[114, 111, 111, 116]⟩ : By8) }] : List qJ) }) ({ zw_qC with Roles := ⟨a8, 1⟩ }) := ⟨SlAt.nil, hp15, SlAt.nil⟩
 exact sj G ▸ En.c1 _ (S17.rd m0) ⟨I13, ({ zw_qC with Roles := ⟨a8, 1⟩ }), rfl, L14, S17.drop, hk20⟩
def r18_At (p0 : List qJ) (p1 : By8) : Option Int := (forN (fun (i4 : Nat) (_s : Unit) => (idx p0 (i4 : Int)).bind (fun x11 => (bif (sEq x11.Name p1) then some (.inr (i4 : Int)) else some (.inl ())))) p0.length 0 ()).bind (fun (t : Unit ⊕ (Int)) => match t with | .inl _ => some (-1) | .inr s13 => some s13)
theorem r18_At_ok {p0 : List qJ} {p1 : By8} {a_p0 : Option Addr} {c_p0 : Nat} (h_p0 : RSl 2 R_qJ I a_p0 c_p0 p0) (hS : St E w I Os) {r : Int} (G : r18_At p0 p1 = some r) :
    Calls P 52 #[(Sl a_p0 p0 c_p0), (.string p1)] w (RT E I Os (Iv r)) := by
 refine calls_W (fn := Tryz.f52) rfl rfl rfl ?_
 unfold r18_At at G
 refine yg [0] (ya 0 1 z (yb (W.seq (yg [0] (ya 0 1 z (yb (yn (bsk G fun t1 hloop5 G => have hlt9 := (h_p0).len_lt; W.wk (yap (m := p0.length) hloop5 (fun (i4 : Nat) (_s : Unit) => JI E I [(0, Sl a_p0 p0 c_p0), (1, .string p1), (5, Nv i4)] Os) ⟨I, rfl, lr, hS⟩ ?_ ?_)))))))))
 rintro i4 _ _ w6 hi10 ⟨I2, rfl, L3, S7⟩ x8 R1 hext1
 refine W.seq (yg nL4 (ya 0 4 z (yb (yat fun _ => W.skip (ye (W.seq (yn (yg nL7 (ya 0 2 z ?_)))))))))
 obtain ⟨x11, R1, Hx11, _, ⟨w_x11, rfl, h_x11⟩, Zx11⟩ := sx I2 h_p0 R1
 refine y0 107 2 Hx11 z (yf 3 1 [0] z (yan Zx11 S7.rm z (ya 5 2 z (yb (y6 R1 (fun K R1 => ?_) (fun K R1 => ?_))))))
 refine yg nL2 (ya 0 2 z (yb (yp (yk (yh (yr ?_))))))
 obtain rfl := hext1 _ (sj R1).symm
 exact yk (yh (sj G ▸ yw ⟨I2, rfl, L3, S7⟩))
 exact W.skip (yl (ye (yai nL3 (ya 0 1 z (yao i4 z (ya 2 1 z (yt (yv ⟨(), (sj R1).symm, I2, rfl, L3, S7⟩))))))))
 rintro _ _ w14 ⟨I2, rfl, L3, S15⟩ he
 cases he
 exact W.seq (yg nL4 (ya 0 4 z (yb (yas fun _ => W.exit (yo (yq (yu (ye (yg [0] (ya 0 1 z (yb (yp (sj G ▸ yw ⟨I2, rfl, L3, S15⟩)))))))))))))
noncomputable def r18_Reach (p0 : List qJ) (p1 : By8) : Option (List Bool) := (mk 1 (p0.length : Int)).bind (fun n1 => (r18_At p0 p1).bind (fun r13 => ((bif (decide (r13 ≥ 0)) then (idx (List.replicate n1 false) r13).bind (fun x18 => some ((List.replicate n1 false).set (r13).toNat true)) else some (List.replicate n1 false))).bind (fun (j14 : List Bool) => (forE (fun (i29 : Nat) (s28 : List Bool) => (forE (fun (i40 : Nat) (s39 : List Bool) => (loopO (fun (s : Int × (List Bool)) => match s with | (s50, s51) => (idx s51 (i40 : Int)).bind (fun x56 => ((bif x56 then (idx p0 (i40 : Int)).bind (fun x61 => some (decide (s50 < (x61.In.length : Int)))) else some false)).bind (fun (j57 : Bool) => (bif j57 then (idx p0 (i40 : Int)).bind (fun x64 => (idx x64.In s50).bind (fun x65 => (r18_At p0 x65).bind (fun r71 => ((bif (decide (r71 ≥ 0)) then (idx s51 r71).bind (fun x76 => some (s51.set (r71).toNat true)) else some s51)).bind (fun (j72 : List Bool) => some (.inl ((w64 (s50 + 1)), j72)))))) else some (.inr s51))))) (0, s39)).bind (fun (s84 : List Bool) => some s84)) p0.length 0 s28).bind (fun s39 => some s39)) p0.length 0 j14).bind (fun s28 => some s28))))
theorem r18_Reach_ok {p0 : List qJ} {p1 : By8} {a_p0 : Option Addr} {c_p0 : Nat} (h_p0 : RSl 2 R_qJ I a_p0 c_p0 p0) (hS : St E w I Os) {r : (List Bool)} (G : r18_Reach p0 p1 = some r) :
    Calls P 108 #[(Sl a_p0 p0 c_p0), (.string p1)] w (fun e w' => ∃ (I' : Mem) (ra0 : Option Addr) (rc0 : Nat), e = .returned (Sl ra0 r rc0) ∧ I.Le I' ∧ St E w' I' Os ∧ RSl 1 RBool I' ra0 rc0 r) := by
 refine calls_W (fn := Tryz.f108) rfl rfl rfl ?_
 unfold r18_Reach at G
 refine yg [0] (yaf 0 4 (.slice none 0 0) (yac nL4 (ya 0 2 z ?_)))
 obtain ⟨n1, Xn1, G⟩ := bsm G
 obtain ⟨h0_n1, he_n1⟩ := mk_some Xn1
 refine WO.make (rel := RBool) hS z kr z kr (T := 4) (sz := 1) (b := 1) (zs := #[(.bool false)]) kr z z n1 (congrArg (Value.int .i64) he_n1) (congrArg (Value.int .i64) he_n1) h0_n1 z (z0 := false) z tv ?_
 intro a2 w6 C3 S5 ho4
 refine y8 13 z (show Value.slice a2 n1 n1 = Value.slice a2 (List.replicate n1 false).length n1 by simp only [List.length_replicate]) ?_
 refine ya 3 1 z (yac nL4 (ya 0 2 z (bsk G fun r13 Xr8 G => WO.c1 (r18_At_ok h_p0 S5 Xr8) z fun I10 w9 L11 S12 => ya 3 1 z (yb (W.seq (yg nL2 (ya 0 2 z (yb (bsk G fun j14 R1 G => yay (J := (fun fr w => ∃ I16 C_j14, fr = [(0, Sl a_p0 p0 c_p0), (5, Sl a2 j14 n1)] ∧ I10.Le I16 ∧ St E w I16 ((C_j14) :: Os) ∧ OwnSl 4 1 RBool I16 C_j14 a2 n1 j14)) ?_ ?_)))))))))
 refine y6 R1 (fun K R1 => ?_) (fun K R1 => ?_)
 refine yai nL4 (ya 0 2 z ?_)
 obtain ⟨x18, R1, h0_x18, h1_x18, Xx18, ha_x18, _, _, rfl, Zx18⟩ := sl_at ((ho4.mono L11).sl) R1
 refine ya4 4 1 ha_x18 h0_x18 h1_x18 ?_
 refine ya2 S12 (OwnSl.mono ho4 L11) z kr z Xx18 (u' := true) 0 z z kr z z (fun cs hrel => (by obtain rfl := hrel; exact z)) tv ?_
 intro w20 C21 S19 ho22
 refine y8 5 z (show Value.slice a2 (List.replicate n1 false).length n1 = Value.slice a2 ((List.replicate n1 false).set (r13).toNat true).length n1 by simp only [List.length_set]) ?_
 exact yt (sj R1 ▸ yv ⟨I10, C21, rfl, lr, S19, ho22⟩)
 exact W.skip (sj R1 ▸ yv ⟨I10, C3, rfl, lr, S12, (OwnSl.mono ho4 L11)⟩)
 rintro _ w23 ⟨I16, C_j14, rfl, L17, S24, h_j14⟩
 refine ye (W.seq (yg [0] (ya 0 1 z (yb (yn (bsk G fun s28 hloop30 G => have hlt34 := ((RSl.mono h_p0 (L11.trans L17))).len_lt; W.wk (ya0 (m := p0.length) hloop30 (fun (i29 : Nat) (s28 : List Bool) fr w => ∃ I26 C_s28, fr = [(0, Sl a_p0 p0 c_p0), (5, Sl a2 s28 n1), (7, Nv i29)] ∧ I16.Le I26 ∧ St E w I26 ((C_s28) :: Os) ∧ OwnSl 4 1 RBool I26 C_s28 a2 n1 s28) ⟨I16, C_j14, rfl, lr, S24, h_j14⟩ ?_ ?_)))))))
 rintro i29 s28 _ w31 hi35 ⟨I26, C_s28, rfl, L27, S32, h_s28⟩ x33 R1
 refine W.seq (yg nL4 (ya 0 4 z (yb (yat fun _ => W.skip (ye (W.seq (yn (yg [0] (ya 0 1 z (yb (yn (bsk R1 fun s39 hloop41 R1 => have hlt45 := ((RSl.mono h_p0 ((L11.trans L17).trans L27))).len_lt; W.wk (ya0 (m := p0.length) hloop41 (fun (i40 : Nat) (s39 : List Bool) fr w => ∃ I37 C_s39, fr = [(0, Sl a_p0 p0 c_p0), (5, Sl a2 s39 n1), (7, Nv i29), (8, Nv i40)] ∧ I26.Le I37 ∧ St E w I37 ((C_s39) :: Os) ∧ OwnSl 4 1 RBool I37 C_s39 a2 n1 s39) ⟨I26, C_s28, rfl, lr, S32, h_s28⟩ ?_ ?_)))))))))))))
 rintro i40 s39 _ w42 hi46 ⟨I37, C_s39, rfl, L38, S43, h_s39⟩ x44 R2
 refine W.seq (yg nL4 (ya 0 4 z (yb (yat fun _ => W.skip (ye (W.seq (yn (yg [0] (ya 0 1 z (yb (yn (bsk R2 fun t47 hloop52 R2 => W.wk (ya7 hloop52 (fun (s : Int × (List Bool)) fr w => match s with | (s50, s51) => ∃ I48 C_s51, fr = [(0, Sl a_p0 p0 c_p0), (5, Sl a2 s51 n1), (7, Nv i29), (8, Nv i40), (9, Iv s50)] ∧ I37.Le I48 ∧ St E w I48 ((C_s51) :: Os) ∧ OwnSl 4 1 RBool I48 C_s51 a2 n1 s51) ⟨I37, C_s39, rfl, lr, S43, h_s39⟩ ?_)))))))))))))
 rintro ⟨s50, s51⟩ _ w53 ⟨I48, C_s51, rfl, L49, S54, h_s51⟩ x55 R3 hext47
 refine W.seq (yg nL14 (ya 0 2 z ?_))
 obtain ⟨x56, R3, Hx56, _, rfl, Zx56⟩ := sl_ix (h_s51.sl) R3
 refine y0 4 1 Hx56 z (yan Zx56 (S54.rf m0) z (ya 4 1 z (bsk R3 fun j57 R4 R3 => yam (l1 := [5, 6, 7, 8, 9, 10, 11, 12, 13]) (J := JI E I48 [(0, Sl a_p0 p0 c_p0), (5, Sl a2 s51 n1), (7, Nv i29), (8, Nv i40), (9, Iv s50), (47, .bool j57)] ((C_s51) :: Os)) ?_ ?_)))
 refine yal R4 (fun K R4 => ?_) (fun K R4 => ?_)
 refine yz 38 K (ya 5 3 z ?_)
 obtain ⟨x61, R4, Hx61, _, ⟨w_x61, rfl, h_x61⟩, Zx61⟩ := sx I48 h_p0 R4
 exact y0 107 2 Hx61 z (yf 9 1 [1] z (yar Zx61 1 S54.rm z (ya 11 3 z (sj R4 ▸ yy ⟨I48, rfl, lr, S54⟩))))
 refine yz 38 K ?_
 iterate 8 refine WO.ps ?_
 exact ya 13 1 z (sj R4 ▸ yy ⟨I48, rfl, lr, S54⟩)
 rintro _ w62 ⟨I59, rfl, L60, S63⟩
 refine yb (y6 R3 (fun K R3 => ?_) (fun K R3 => ?_))
 refine W.skip (ye (W.seq (yn (yg nL11 (ya 0 3 z ?_)))))
 obtain ⟨x64, R3, Hx64, _, ⟨w_x64, rfl, h_x64⟩, Zx64⟩ := sx I59 h_p0 R3
 refine y0 107 2 Hx64 z (yf 4 1 [1] z (yar Zx64 1 S63.rm z (ya 6 1 z ?_)))
 obtain ⟨x65, R3, Hx65, _, rfl, Zx65⟩ := sl_ix (h_x64.In) R3
 refine y0 9 1 Hx65 z (yan Zx65 S63.rm z (bsk R3 fun r71 Xr66 R3 => WO.c1 (r18_At_ok (up h_p0) S63 Xr66) z fun I68 w67 L69 S70 => ya 10 1 z (yac nL2 (ya 0 2 z (yb (bsk R3 fun j72 R4 R3 => yay (J := (fun fr w => ∃ I74 C_j72, fr = [(0, Sl a_p0 p0 c_p0), (5, Sl a2 j72 n1), (7, Nv i29), (8, Nv i40), (9, Iv s50)] ∧ I68.Le I74 ∧ St E w I74 ((C_j72) :: Os) ∧ OwnSl 4 1 RBool I74 C_j72 a2 n1 j72)) ?_ ?_))))))
 refine y6 R4 (fun K R4 => ?_) (fun K R4 => ?_)
 refine yai nL4 (ya 0 2 z ?_)
 obtain ⟨x76, R4, h0_x76, h1_x76, Xx76, ha_x76, _, _, rfl, Zx76⟩ := sl_at ((h_s51.mono (L60.trans L69)).sl) R4
 refine ya4 4 1 ha_x76 h0_x76 h1_x76 ?_
 refine ya2 S70 (OwnSl.mono h_s51 le) z kr z Xx76 (u' := true) 0 z z kr z z (fun cs hrel => (by obtain rfl := hrel; exact z)) tv ?_
 intro w78 C79 S77 ho80
 refine y8 5 z (show Value.slice a2 s51.length n1 = Value.slice a2 (s51.set (r71).toNat true).length n1 by simp only [List.length_set]) ?_
 exact yt (sj R4 ▸ yv ⟨I68, C79, rfl, lr, S77, ho80⟩)
 exact W.skip (sj R4 ▸ yv ⟨I68, C_s51, rfl, lr, S70, (OwnSl.mono h_s51 le)⟩)
 rintro _ w81 ⟨I74, C_j72, rfl, L75, S82, h_j72⟩
 exact yl (ye (yai nL3 (ya 0 3 z (yt (yv ⟨((w64 (s50 + 1)), j72), (sj R3).symm, I74, C_j72, rfl, le, S82, h_j72⟩)))))
 refine W.exit (yo (yq ?_))
 obtain rfl := hext47 _ (sj R3).symm
 exact yu (yl (ye (yai nL3 (ya 0 1 z (yao i40 z (ya 2 1 z (yt (sj R2 ▸ yv ⟨I59, C_s51, rfl, le, S63, (OwnSl.mono h_s51 L60)⟩))))))))
 rintro _ w85 ⟨I37, C_s39, rfl, L38, S86, h_s39⟩
 exact W.seq (yg nL4 (ya 0 4 z (yb (yas fun _ => W.exit (yo (yq (yu (yl (ye (yai nL3 (ya 0 1 z (yao i29 z (ya 2 1 z (yt (sj R1 ▸ yv ⟨I37, C_s39, rfl, le, S86, h_s39⟩)))))))))))))))
 rintro _ w87 ⟨I26, C_s28, rfl, L27, S88, h_s28⟩
 refine W.seq (yg nL4 (ya 0 4 z (yb (yas fun _ => W.exit (yo (yq (yu (ye (yg nL2 (ya 0 1 z ?_))))))))))
 obtain ⟨I89, L90, S92, hp91⟩ := yag h_s28 S88
 exact ya 1 1 z (yb (yp (sj G ▸ yw ⟨I89, a2, n1, rfl, le, S92, hp91⟩)))
noncomputable def r18_into (p0 : List By8) (p1 : By8) : Option (List By8) := (loopO (fun (s4 : Int) => ((bif (decide (s4 < (p0.length : Int))) then (idx p0 s4).bind (fun x13 => some (sLt x13 p1)) else some false)).bind (fun (j9 : Bool) => (bif j9 then some (.inl (w64 (s4 + 1))) else some (.inr s4)))) 0).bind (fun (s17 : Int) => (sub p0 0 s17).bind (fun x18 => (app 16 ([] : List By8) x18).bind (fun x21 => (app 16 x21 ([p1] : List By8)).bind (fun x36 => (sub p0 s17 (p0.length : Int)).bind (fun x45 => (app 16 x36 x45).bind (fun x46 => some x46))))))
theorem r18_into_ok {p0 : List By8} {p1 : By8} {a_p0 : Option Addr} {c_p0 : Nat} (h_p0 : RSl 1 RStr I a_p0 c_p0 p0) (hS : St E w I Os) {r : (List By8)} (G : r18_into p0 p1 = some r) :
    Calls P 109 #[(Sl a_p0 p0 c_p0), (.string p1)] w (fun e w' => ∃ (I' : Mem) (ra0 : Option Addr) (rc0 : Nat), e = .returned (Sl ra0 r rc0) ∧ I.Le I' ∧ St E w' I' Os ∧ RSl 1 RStr I' ra0 rc0 r) := by
 refine calls_W (fn := Tryz.f109) rfl rfl rfl ?_
 unfold r18_into at G
 refine yg [0] (yaf 0 4 (.slice none 0 0) (yac [0] (ya 0 1 z (yb (W.seq (yn (bsk G fun t1 hloop5 G => W.wk (ya7 hloop5 (fun (s4 : Int) => JI E I [(0, Sl a_p0 p0 c_p0), (1, .string p1), (5, Iv s4)] Os) ⟨I, rfl, lr, hS⟩ ?_))))))))
 rintro s4 _ w6 ⟨I2, rfl, L3, S7⟩ x8 R1 hext1
 refine W.seq (yg nL12 (ya 0 5 z (bsk R1 fun j9 R2 R1 => yam (l1 := [5, 6, 7, 8, 9, 10, 11]) (J := JI E I2 [(0, Sl a_p0 p0 c_p0), (1, .string p1), (5, Iv s4), (18, .bool j9)] Os) ?_ ?_)))
 refine yal R2 (fun K R2 => ?_) (fun K R2 => ?_)
 refine yz 11 K (ya 5 2 z ?_)
 obtain ⟨x13, R2, Hx13, _, rfl, Zx13⟩ := sx I2 h_p0 R2
 exact y0 9 1 Hx13 z (yan Zx13 S7.rm z (ya 9 1 z (yaf 10 17 (.bool (sLt x13 p1)) (ya 11 1 z (sj R2 ▸ yy ⟨I2, rfl, lr, S7⟩)))))
 refine yz 11 K ?_
 iterate 6 refine WO.ps ?_
 exact ya 11 1 z (sj R2 ▸ yy ⟨I2, rfl, lr, S7⟩)
 rintro _ w14 ⟨I11, rfl, L12, S15⟩
 refine yb (y6 R1 (fun K R1 => ?_) (fun K R1 => ?_))
 exact W.skip (ye (yn (yai nL3 (ya 0 3 z (yt (yl (yv ⟨(w64 (s4 + 1)), (sj R1).symm, I11, rfl, le, S15⟩)))))))
 refine W.exit (yo (yq ?_))
 obtain rfl := hext1 _ (sj R1).symm
 refine yu (ye (yg [0] (yaf 0 6 (.slice none 0 0) (yac nL6 (ya 0 3 z ?_)))))
 obtain ⟨x57, Xx57, G⟩ := bsm G
 obtain ⟨h0_x57, h1_x57, h2_x57, he_x57⟩ := sub_some Xx57
 have hl_x57 : (s4 : Int) ≤ (c_p0 : Int) := Int.le_trans h2_x57 (Int.ofNat_le.2 ((RSl.mono h_p0 (L3.trans L12))).le)
 refine ya3 (e := 9) (sz := 1) z kr kr kr z (0 : Int) (s4 : Int) h0_x57 (.inl ⟨rfl, rfl⟩) (.inr ⟨_, _, rfl, rfl⟩) h1_x57 hl_x57 ?_
 obtain ⟨a_x57, c_x57, h_x57, ev_x57⟩ := sub_ok ((RSl.mono h_p0 (L3.trans L12))) h0_x57 h1_x57 h2_x57 he_x57
 refine y8 24 z ev_x57 ?_
 have S59 := S15.no
 refine apk G fun x60 h0_x60 he_x60 G => ya6 (e' := 9) (b := 16) (zs := #[(.string eB)]) S59 (OwnSl.nil (T := 9) (rel := RStr) (I := I11)) z kr z kr kr kr z z z z h_x57 S59.im h0_x60 he_x60 tv ?_
 intro a61 c62 w63 C64 S65 ho66
 refine ya 5 1 z (yac nL5 (ya 0 2 z (yad (rel := RStr) (xs := ([p1] : List By8)) S65 z kr z 9 1 [[(.string p1)]] kr z ((Elr.cons z Elr.nil)) tv ?_)))
 intro a70 C68 w72 S71 ho69
 have S74 := S71.front1
 refine apk G fun x75 h0_x75 he_x75 G => yau 9 16 [(.string eB)] S74 ho66 ho69.sl (S74.rd m1) h0_x75 he_x75 z fun a76 c77 w78 C79 S80 ho81 => have S83 := S80.front1.drop; ya 4 1 z (yac nL6 (ya 0 3 z ?_))
 obtain ⟨x84, Xx84, G⟩ := bsm G
 obtain ⟨h0_x84, h1_x84, h2_x84, he_x84⟩ := sub_some Xx84
 have hl_x84 : ((p0.length : Int) : Int) ≤ (c_p0 : Int) := Int.le_trans h2_x84 (Int.ofNat_le.2 ((RSl.mono h_p0 (L3.trans L12))).le)
 refine ya3 (e := 9) (sz := 1) z kr kr kr z (s4 : Int) ((p0.length : Int) : Int) h0_x84 (.inr ⟨_, _, rfl, rfl⟩) (.inl ⟨rfl, rfl⟩) h1_x84 hl_x84 ?_
 obtain ⟨a_x84, c_x84, h_x84, ev_x84⟩ := sub_ok ((RSl.mono h_p0 (L3.trans L12))) h0_x84 h1_x84 h2_x84 he_x84
 refine y8 33 z ev_x84 ?_
 refine apk G fun x85 h0_x85 he_x85 G => yau 9 16 [(.string eB)] S83 ho81 h_x84 S83.im h0_x85 he_x85 z ?_
 intro a86 c87 w88 C89 S90 ho91
 obtain ⟨I92, L93, S95, hp94⟩ := yag ho91 S90
 exact ya 5 1 z (yb (yp (sj G ▸ yw ⟨I92, a86, c87, rfl, le, S95, hp94⟩)))
noncomputable def r18_All (p0 : List qJ) (p1 : By8) : Option (List By8) := (r18_Reach p0 p1).bind (fun r6 => (forE (fun (i11 : Nat) (s10 : List By8) => (idx r6 (i11 : Int)).bind (fun x18 => ((bif x18 then (idx p0 (i11 : Int)).bind (fun x23 => (r18_into s10 x23.Name).bind (fun r29 => some r29)) else some s10)).bind (fun (j19 : List By8) => some j19))) p0.length 0 ([] : List By8)).bind (fun s10 => some s10))
theorem r18_All_ok {p0 : List qJ} {p1 : By8} {a_p0 : Option Addr} {c_p0 : Nat} (h_p0 : RSl 2 R_qJ I a_p0 c_p0 p0) (hS : St E w I Os) {r : (List By8)} (G : r18_All p0 p1 = some r) :
    Calls P 79 #[(Sl a_p0 p0 c_p0), (.string p1)] w (fun e w' => ∃ (I' : Mem) (ra0 : Option Addr) (rc0 : Nat), e = .returned (Sl ra0 r rc0) ∧ I.Le I' ∧ St E w' I' Os ∧ RSl 1 RStr I' ra0 rc0 r) := by
 refine calls_W (fn := Tryz.f79) rfl rfl rfl ?_
 unfold r18_All at G
 refine yg [0] (yaf 0 4 (.slice none 0 0) (yac nL4 (ya 0 2 z (bsk G fun r6 Xr1 G => yae (r18_Reach_ok h_p0 hS Xr1) ?_))))
 rintro _ w2 ⟨I3, a_r6, c_r6, rfl, L4, S5, h_r6⟩
 refine cv (ya 3 1 z (yac [0] (yaf 0 6 (.slice none 0 0) (yb (W.seq (yg [0] (ya 0 1 z (yb (yn (bsk G fun s10 hloop12 G => have hlt16 := ((RSl.mono h_p0 L4)).len_lt; W.wk (ya0 (m := p0.length) hloop12 (fun (i11 : Nat) (s10 : List By8) fr w => ∃ I8 a_s10 c_s10, fr = [(0, Sl a_p0 p0 c_p0), (5, Sl a_r6 r6 c_r6), (6, Sl a_s10 s10 c_s10), (7, Nv i11)] ∧ I3.Le I8 ∧ St E w I8 Os ∧ RSl 1 RStr I8 a_s10 c_s10 s10) ⟨I3, none, 0, rfl, lr, S5, SlAt.nil⟩ ?_ ?_)))))))))))
 rintro i11 s10 _ w13 hi17 ⟨I8, a_s10, c_s10, rfl, L9, S14, h_s10⟩ x15 R1
 refine W.seq (yg nL4 (ya 0 4 z (yb (yat fun _ => W.skip (ye (W.seq (yn (yg nL4 (ya 0 2 z ?_)))))))))
 obtain ⟨x18, R1, Hx18, _, rfl, Zx18⟩ := sx I8 h_r6 R1
 refine y0 4 1 Hx18 z (yan Zx18 S14.rm z (yb (bsk R1 fun j19 R2 R1 => yay (J := (fun fr w => ∃ I21 a_j19 c_j19, fr = [(0, Sl a_p0 p0 c_p0), (5, Sl a_r6 r6 c_r6), (6, Sl a_j19 j19 c_j19), (7, Nv i11)] ∧ I8.Le I21 ∧ St E w I21 Os ∧ RSl 1 RStr I21 a_j19 c_j19 j19)) ?_ ?_)))
 refine y6 R2 (fun K R2 => ?_) (fun K R2 => ?_)
 refine yai nL8 (ya 0 3 z ?_)
 obtain ⟨x23, R2, Hx23, _, ⟨w_x23, rfl, h_x23⟩, Zx23⟩ := sx I8 h_p0 R2
 refine y0 107 2 Hx23 z (yf 4 1 [0] z (yan Zx23 S14.rm z (bsk R2 fun r29 Xr24 R2 => yae (r18_into_ok h_s10 S14 Xr24) ?_)))
 rintro _ w25 ⟨I26, a_r29, c_r29, rfl, L27, S28, h_r29⟩
 exact cv (ya 7 1 z (yt (sj R2 ▸ yv ⟨I26, a_r29, c_r29, rfl, L27, S28, h_r29⟩)))
 exact W.skip (sj R2 ▸ yv ⟨I8, a_s10, c_s10, rfl, lr, S14, h_s10⟩)
 rintro _ w30 ⟨I21, a_j19, c_j19, rfl, L22, S31, h_j19⟩
 exact yl (ye (yai nL3 (ya 0 1 z (yao i11 z (ya 2 1 z (yt (sj R1 ▸ yv ⟨I21, a_j19, c_j19, rfl, le, S31, h_j19⟩)))))))
 rintro _ w32 ⟨I8, a_s10, c_s10, rfl, L9, S33, h_s10⟩
 exact W.seq (yg nL4 (ya 0 4 z (yb (yas fun _ => W.exit (yo (yq (yu (ye (yg nL2 (ya 0 2 z (yb (yp (sj G ▸ yw ⟨I8, a_s10, c_s10, rfl, le, S33, h_s10⟩)))))))))))))
def r14_Has (p0 : List By8) (p1 : By8) : Option Bool := (forN (fun (i4 : Nat) (_s : Unit) => (idx p0 (i4 : Int)).bind (fun x11 => (bif (sEq x11 p1) then some (.inr true) else some (.inl ())))) p0.length 0 ()).bind (fun (t : Unit ⊕ (Bool)) => match t with | .inl _ => some false | .inr s13 => some s13)
theorem r14_Has_ok {p0 : List By8} {p1 : By8} {a_p0 : Option Addr} {c_p0 : Nat} (h_p0 : RSl 1 RStr I a_p0 c_p0 p0) (hS : St E w I Os) {r : Bool} (G : r14_Has p0 p1 = some r) :
    Calls P 78 #[(Sl a_p0 p0 c_p0), (.string p1)] w (RT E I Os (.bool r)) := by
 refine calls_W (fn := Tryz.f78) rfl rfl rfl ?_
 unfold r14_Has at G
 refine yg [0] (ya 0 1 z (yb (W.seq (yg [0] (ya 0 1 z (yb (yn (bsk G fun t1 hloop5 G => have hlt9 := (h_p0).len_lt; W.wk (yap (m := p0.length) hloop5 (fun (i4 : Nat) (_s : Unit) => JI E I [(0, Sl a_p0 p0 c_p0), (1, .string p1), (5, Nv i4)] Os) ⟨I, rfl, lr, hS⟩ ?_ ?_)))))))))
 rintro i4 _ _ w6 hi10 ⟨I2, rfl, L3, S7⟩ x8 R1 hext1
 refine W.seq (yg nL4 (ya 0 4 z (yb (yat fun _ => W.skip (ye (W.seq (yn (yg nL6 (ya 0 2 z ?_)))))))))
 obtain ⟨x11, R1, Hx11, _, rfl, Zx11⟩ := sx I2 h_p0 R1
 refine y0 9 1 Hx11 z (yan Zx11 S7.rm z (ya 4 2 z (yb (y6 R1 (fun K R1 => ?_) (fun K R1 => ?_)))))
 refine yg [0] (ya 0 1 z (yb (yp (yk (yh (yr ?_))))))
 obtain rfl := hext1 _ (sj R1).symm
 exact yk (yh (sj G ▸ yw ⟨I2, rfl, L3, S7⟩))
 exact W.skip (yl (ye (yai nL3 (ya 0 1 z (yao i4 z (ya 2 1 z (yt (yv ⟨(), (sj R1).symm, I2, rfl, L3, S7⟩))))))))
 rintro _ _ w14 ⟨I2, rfl, L3, S15⟩ he
 cases he
 exact W.seq (yg nL4 (ya 0 4 z (yb (yas fun _ => W.exit (yo (yq (yu (ye (yg [0] (ya 0 1 z (yb (yp (sj G ▸ yw ⟨I2, rfl, L3, S15⟩)))))))))))))
noncomputable def r18_Is (p0 : List qJ) (p1 : By8) (p2 : By8) : Option Bool := (r18_All p0 p1).bind (fun r6 => (r14_Has r6 p2).bind (fun r12 => some r12))
theorem r18_Is_ok {p0 : List qJ} {p1 : By8} {p2 : By8} {a_p0 : Option Addr} {c_p0 : Nat} (h_p0 : RSl 2 R_qJ I a_p0 c_p0 p0) (hS : St E w I Os) {r : Bool} (G : r18_Is p0 p1 p2 = some r) :
    Calls P 53 #[(Sl a_p0 p0 c_p0), (.string p1), (.string p2)] w (RT E I Os (.bool r)) := by
 refine calls_W (fn := Tryz.f53) rfl rfl rfl ?_
 unfold r18_Is at G
 refine yg [0] (ya 0 1 z (yac nL6 (ya 0 2 z (bsk G fun r6 Xr1 G => yae (r18_All_ok h_p0 hS Xr1) ?_))))
 rintro _ w2 ⟨I3, a_r6, c_r6, rfl, L4, S5, h_r6⟩
 exact cv (ya 3 1 z (bsk G fun r12 Xr7 G => WO.c1 (r14_Has_ok h_r6 S5 Xr7) z fun I9 w8 L10 S11 => ya 5 1 z (yb (yp (sj G ▸ yw ⟨I9, rfl, le, S11⟩)))))
noncomputable def r09_all (p0 : By8) (p1 : Int) (p2 : By8) : Option Bool := (loopO (fun (s4 : Int) => (bif (decide (s4 < (p0.size : Int))) then (loopO (fun (s : Bool × Int) => match s with | (s12, s13) => (bif (decide (s13 < (p2.size : Int))) then ((bif s12 then some true else (sAt p2 s13).bind (fun y24 => (sAt p0 s4).bind (fun y25 => some (y24 == y25))))).bind (fun (j20 : Bool) => some (.inl (j20, (w64 (s13 + 1))))) else some (.inr s12))) (false, 0)).bind (fun (s29 : Bool) => (bif (!s29) then some (.inr (.inl false)) else some (.inl (w64 (s4 + 1))))) else some (.inr (.inr ())))) p1).bind (fun (t : Bool ⊕ Unit) => match t with | (.inl s31) => some s31 | (.inr ()) => some true)
theorem r09_all_ok {p0 : By8} {p1 : Int} {p2 : By8} (hS : St E w I Os) {r : Bool} (G : r09_all p0 p1 p2 = some r) :
    Calls P 165 #[(.string p0), (Iv p1), (.string p2)] w (RT E I Os (.bool r)) := by
 refine calls_W (fn := Tryz.f165) rfl rfl rfl ?_
 unfold r09_all at G
 refine yg [0] (ya 0 1 z (yb (W.seq (yg nL2 (ya 0 2 z (yb (yn (bsk G fun t1 hloop5 G => W.wk (ya7 hloop5 (fun (s4 : Int) => JI E I [(0, .string p0), (2, .string p2), (7, Iv s4)] Os) ⟨I, rfl, lr, hS⟩ ?_)))))))))
 rintro s4 _ w6 ⟨I2, rfl, L3, S7⟩ x8 R1 hext1
 refine W.seq (yg nL4 (ya 0 4 z (yb (y6 R1 (fun K R1 => ?_) (fun K R1 => ?_)))))
 refine W.skip (ye (W.seq (yn (yg [0] (ya 0 1 z (yb (W.seq (yg [0] (ya 0 1 z (yb (yn (bsk R1 fun t9 hloop14 R1 => W.wk (ya7 hloop14 (fun (s : Bool × Int) fr w => match s with | (s12, s13) => ∃ I10, fr = [(0, .string p0), (2, .string p2), (7, Iv s4), (8, .bool s12), (9, Iv s13)] ∧ I2.Le I10 ∧ St E w I10 Os) ⟨I2, rfl, lr, S7⟩ ?_)))))))))))))
 rintro ⟨s12, s13⟩ _ w15 ⟨I10, rfl, L11, S16⟩ x17 R2 hext9
 refine W.seq (yg nL4 (ya 0 4 z (yb (y6 R2 (fun K R2 => ?_) (fun K R2 => ?_)))))
 refine W.skip (ye (W.seq (yn (have S18 := S16.drew; ya1 nL11 10 (yx S18.im) ?_))))
 generalize World.drew _ = w19 at *
 refine ya 0 2 z (bsk R2 fun j20 R3 R2 => yam (l1 := [2, 3, 4, 5, 6, 7, 8, 9]) (J := JI E I10 [(0, .string p0), (2, .string p2), (7, Iv s4), (9, Iv s13), (32, .bool j20)] Os) ?_ ?_)
 refine yal R3 (fun K R3 => ?_) (fun K R3 => ?_)
 refine yz 24 K ?_
 iterate 7 refine WO.ps ?_
 exact ya 9 1 z (sj R3 ▸ yy ⟨I10, rfl, lr, S18⟩)
 refine yz 24 K (ya 2 2 z (bsk R3 fun y24 Xy24 R3 => ya8 z kr kr z z Xy24 ?_))
 refine ya 5 2 z (bsk R3 fun y25 Xy25 R3 => ya8 z kr kr z z Xy25 ?_)
 exact ya 8 2 z (sj R3 ▸ yy ⟨I10, rfl, lr, S18⟩)
 rintro _ w26 ⟨I22, rfl, L23, S27⟩
 exact WO.tail z (ya 10 1 z (yt (yl (ye (yai nL3 (ya 0 3 z (yt (yv ⟨(j20, (w64 (s13 + 1))), (sj R2).symm, I22, rfl, le, S27⟩))))))))
 refine W.exit (yo (yq ?_))
 obtain rfl := hext9 _ (sj R2).symm
 refine yu (ye (yg nL2 (ya 0 2 z (yb (y6 R1 (fun K R1 => ?_) (fun K R1 => ?_))))))
 refine yg [0] (ya 0 1 z (yb (yp (yk (yh (yr ?_))))))
 obtain rfl := hext1 _ (sj R1).symm
 exact yk (yh (sj G ▸ yw ⟨I10, rfl, le, S16⟩))
 exact W.skip (yl (ye (yai nL3 (ya 0 3 z (yt (yv ⟨(w64 (s4 + 1)), (sj R1).symm, I10, rfl, le, S16⟩))))))
 refine W.exit (yo (yq ?_))
 obtain rfl := hext1 _ (sj R1).symm
 exact yu (ye (yg [0] (ya 0 1 z (yb (yp (sj G ▸ yw ⟨I2, rfl, L3, S7⟩))))))
noncomputable def r03_Plain (p0 : By8) : Option Bool := (loopO (fun (s4 : Int) => (bif (decide (s4 < (p0.size : Int))) then (sAt p0 s4).bind (fun y9 => ((bif (decide (y9 < 32)) then some true else (sAt p0 s4).bind (fun y14 => some (decide (y14 > 126))))).bind (fun (j10 : Bool) => (bif j10 then some (.inr (.inl false)) else some (.inl (w64 (s4 + 1)))))) else some (.inr (.inr ())))) 0).bind (fun (t : Bool ⊕ Unit) => match t with | (.inl s18) => some s18 | (.inr ()) => some true)
theorem r03_Plain_ok {p0 : By8} (hS : St E w I Os) {r : Bool} (G : r03_Plain p0 = some r) :
    Calls P 172 #[(.string p0)] w (RT E I Os (.bool r)) := by
 refine calls_W (fn := Tryz.f172) rfl rfl rfl ?_
 unfold r03_Plain at G
 refine yg [0] (ya 0 1 z (yb (W.seq (yg [0] (ya 0 1 z (yb (yn (bsk G fun t1 hloop5 G => W.wk (ya7 hloop5 (fun (s4 : Int) => JI E I [(0, .string p0), (3, Iv s4)] Os) ⟨I, rfl, lr, hS⟩ ?_)))))))))
 rintro s4 _ w6 ⟨I2, rfl, L3, S7⟩ x8 R1 hext1
 refine W.seq (yg nL4 (ya 0 4 z (yb (y6 R1 (fun K R1 => ?_) (fun K R1 => ?_)))))
 refine W.skip (ye (W.seq (yn (yg nL10 (ya 0 2 z (bsk R1 fun y9 Xy9 R1 => ya8 z kr kr z z Xy9 ?_))))))
 refine ya 3 2 z (bsk R1 fun j10 R2 R1 => yam (l1 := [5, 6, 7, 8, 9]) (J := JI E I2 [(0, .string p0), (3, Iv s4), (19, .bool j10)] Os) ?_ ?_)
 refine yal R2 (fun K R2 => ?_) (fun K R2 => ?_)
 refine yz 14 K ?_
 iterate 4 refine WO.ps ?_
 exact ya 9 1 z (sj R2 ▸ yy ⟨I2, rfl, lr, S7⟩)
 refine yz 14 K (ya 5 2 z (bsk R2 fun y14 Xy14 R2 => ya8 z kr kr z z Xy14 ?_))
 exact ya 8 2 z (sj R2 ▸ yy ⟨I2, rfl, lr, S7⟩)
 rintro _ w15 ⟨I12, rfl, L13, S16⟩
 refine yb (y6 R1 (fun K R1 => ?_) (fun K R1 => ?_))
 refine yg [0] (ya 0 1 z (yb (yp (yk (yh (yr ?_))))))
 obtain rfl := hext1 _ (sj R1).symm
 exact yk (yh (sj G ▸ yw ⟨I12, rfl, le, S16⟩))
 exact W.skip (yl (ye (yai nL3 (ya 0 3 z (yt (yv ⟨(w64 (s4 + 1)), (sj R1).symm, I12, rfl, le, S16⟩))))))
 refine W.exit (yo (yq ?_))
 obtain rfl := hext1 _ (sj R1).symm
 exact yu (ye (yg [0] (ya 0 1 z (yb (yp (sj G ▸ yw ⟨I2, rfl, L3, S7⟩))))))
noncomputable def r09_quoted (p0 : By8) : Option Bool := ((bif (decide ((p0.size : Int) < 2)) then some true else (sAt p0 0).bind (fun y5 => some (y5 != 39)))).bind (fun (j1 : Bool) => ((bif j1 then some true else (sAt p0 (w64 ((p0.size : Int) - 1))).bind (fun y12 => some (y12 != 39)))).bind (fun (j8 : Bool) => ((bif j8 then some true else (r03_Plain p0).bind (fun r24 => some (!r24)))).bind (fun (j15 : Bool) => (bif j15 then some false else (loopO (fun (s : Int × Int) => match s with | (s30, s31) => (bif (decide (s31 < (w64 ((p0.size : Int) - 1)))) then ((sAt p0 s31).bind (fun y40 => (bif (y40 != 39) then (bif ((Int.tmod s30 2) == 1) then some (.inl false) else some (.inr s30)) else some (.inr (w64 (s30 + 1)))))).bind (fun (t : Bool ⊕ Int) => match t with | (.inl s42) => some (.inr (.inl s42)) | (.inr s45) => some (.inl (s45, (w64 (s31 + 1))))) else some (.inr (.inr s30)))) (0, 1)).bind (fun (t : Bool ⊕ Int) => match t with | (.inl s44) => some s44 | (.inr s49) => some ((Int.tmod s49 2) == 0))))))
theorem r09_quoted_ok {p0 : By8} (hS : St E w I Os) {r : Bool} (G : r09_quoted p0 = some r) :
    Calls P 166 #[(.string p0)] w (RT E I Os (.bool r)) := by
 refine calls_W (fn := Tryz.f166) rfl rfl rfl ?_
 unfold r09_quoted at G
 refine yg [0] (ya 0 1 z (yb (W.seq (yg nL21 (ya 0 4 z (bsk G fun j1 R1 G => yam (l1 := [4, 5, 6, 7]) (J := JI E I [(0, .string p0), (12, .bool j1)] Os) ?_ ?_))))))
 refine yal R1 (fun K R1 => ?_) (fun K R1 => ?_)
 refine yz 8 K ?_
 iterate 3 refine WO.ps ?_
 exact ya 7 1 z (sj R1 ▸ yy ⟨I, rfl, lr, hS⟩)
 refine yz 8 K (ya 4 1 z (bsk R1 fun y5 Xy5 R1 => ya8 z kr kr z z Xy5 ?_))
 exact ya 6 2 z (sj R1 ▸ yy ⟨I, rfl, lr, hS⟩)
 rintro _ w6 ⟨I3, rfl, L4, S7⟩
 refine ya 8 1 z (bsk G fun j8 R1 G => yam (l1 := [9, 10, 11, 12, 13, 14, 15]) (J := JI E I3 [(0, .string p0), (20, .bool j8)] Os) ?_ ?_)
 refine yal R1 (fun K R1 => ?_) (fun K R1 => ?_)
 refine yz 13 K ?_
 iterate 6 refine WO.ps ?_
 exact ya 15 1 z (sj R1 ▸ yy ⟨I3, rfl, lr, S7⟩)
 refine yz 13 K (ya 9 4 z (bsk R1 fun y12 Xy12 R1 => ya8 z kr kr z z Xy12 ?_))
 exact ya 14 2 z (sj R1 ▸ yy ⟨I3, rfl, lr, S7⟩)
 rintro _ w13 ⟨I10, rfl, L11, S14⟩
 refine ya 16 1 z (bsk G fun j15 R1 G => yam (l1 := [17, 18, 19, 20]) (J := JI E I10 [(0, .string p0), (25, .bool j15)] Os) ?_ ?_)
 refine yal R1 (fun K R1 => ?_) (fun K R1 => ?_)
 refine yz 21 K ?_
 iterate 3 refine WO.ps ?_
 exact ya 20 1 z (sj R1 ▸ yy ⟨I10, rfl, lr, S14⟩)
 exact yz 21 K (ya 17 1 z (bsk R1 fun r24 Xr19 R1 => WO.c1 (r03_Plain_ok  S14 Xr19) z fun I21 w20 L22 S23 => ya 19 2 z (sj R1 ▸ yy ⟨I21, rfl, L22, S23⟩)))
 rintro _ w25 ⟨I17, rfl, L18, S26⟩
 refine yb (y6 G (fun K G => ?_) (fun K G => ?_))
 exact yg [0] (ya 0 1 z (yb (yp (yh (sj G ▸ yw ⟨I17, rfl, le, S26⟩)))))
 refine W.skip (ye (yg [0] (ya 0 1 z (yb (W.seq (yg [0] (ya 0 1 z (yb (yn (bsk G fun t27 hloop32 G => W.wk (ya7 hloop32 (fun (s : Int × Int) fr w => match s with | (s30, s31) => ∃ I28, fr = [(0, .string p0), (3, Iv s30), (4, Iv s31)] ∧ I17.Le I28 ∧ St E w I28 Os) ⟨I17, rfl, lr, S26⟩ ?_)))))))))))
 rintro ⟨s30, s31⟩ _ w33 ⟨I28, rfl, L29, S34⟩ x35 R1 hext27
 refine W.seq (yg nL5 (ya 0 5 z (yb (y6 R1 (fun K R1 => ?_) (fun K R1 => ?_)))))
 refine W.skip (ye (W.seq (bsk R1 fun j36 R2 R1 => yay (J := (fun fr w => ∃ (s45 : Int), ∃ I38, (.inr s45) = j36 ∧ fr = [(0, .string p0), (3, Iv s45), (4, Iv s31)] ∧ I28.Le I38 ∧ St E w I38 Os)) ?_ ?_)))
 refine yn (W.seq (yg nL4 (ya 0 2 z (bsk R2 fun y40 Xy40 R2 => ya8 z kr kr z z Xy40 ?_))))
 refine ya 3 1 z (yb (y6 R2 (fun K R2 => ?_) (fun K R2 => ?_)))
 refine W.seq (yg nL3 (ya 0 1 z (yaf 1 38 (Iv (Int.tmod s30 2)) (ya 2 1 z (yb (y6 R2 (fun K R2 => ?_) (fun K R2 => ?_)))))))
 refine yg [0] (ya 0 1 z (yb (yp (yh (yh (yk (yr ?_)))))))
 obtain rfl := sj R2
 refine yh (yr ?_)
 obtain rfl := hext27 _ (sj R1).symm
 exact yk (yh (sj G ▸ yw ⟨I28, rfl, le, S34⟩))
 exact W.skip (ye (W.exit (yo (yu (yv ⟨s30, I28, sj R2, rfl, lr, S34⟩)))))
 exact W.skip (ye (yai nL3 (ya 0 3 z (yt (yl (yv ⟨(w64 (s30 + 1)), I28, sj R2, rfl, lr, S34⟩))))))
 rintro _ w46 ⟨s45, I38, rfl, rfl, L39, S47⟩
 exact ye (yai nL3 (ya 0 3 z (yt (yv ⟨(s45, (w64 (s31 + 1))), (sj R1).symm, I38, rfl, le, S47⟩))))
 refine W.exit (yo (yq ?_))
 obtain rfl := hext27 _ (sj R1).symm
 exact yu (ye (yg nL4 (ya 0 1 z (yaf 1 43 (Iv (Int.tmod s30 2)) (ya 2 2 z (yb (yp (sj G ▸ yw ⟨I28, rfl, le, S34⟩))))))))
end Go.Proofs.YtpgmbifboopfmaaGreat
