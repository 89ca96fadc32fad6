/- What functions of the program come to, each by a plain one. Conditions: none. -/
import Derived.Test.YtmclgkomnpdgjaaGv18
import Derived.Test.YtmclgkomnpdgjaaProg
set_option maxRecDepth 100000
namespace Go.Proofs.Ytmclgkomnpdgjaa
open Go.Gv
noncomputable abbrev P := Try.prog
structure lru_Entry where
  Who : Int
  Name : ByteArray
def cs_lru_Entry (x : lru_Entry) : List Value := [.int .i64 x.Who, .string x.Name]
def R_lru_Entry (I : Mem) (cs : List Value) (x : lru_Entry) : Prop := cs = cs_lru_Entry x
instance : Mono R_lru_Entry := ⟨fun hl h => (by obtain rfl := h; exact rfl), fun h c hv => (by obtain rfl := h; exact (by simp only [cs_lru_Entry, List.mem_cons, List.not_mem_nil, or_false] at hv; rcases hv with rfl | rfl <;> first | rfl | rfl))⟩
def z_lru_Entry : lru_Entry := ⟨0, (⟨#[]⟩ : ByteArray)⟩
structure api_Value where
  Kind : Int
  N : Int
  S : ByteArray
def cs_api_Value (x : api_Value) : List Value := [.int .i64 x.Kind, .int .i64 x.N, .string x.S]
def R_api_Value (I : Mem) (cs : List Value) (x : api_Value) : Prop := cs = cs_api_Value x
instance : Mono R_api_Value := ⟨fun hl h => (by obtain rfl := h; exact rfl), fun h c hv => (by obtain rfl := h; exact (by simp only [cs_api_Value, List.mem_cons, List.not_mem_nil, or_false] at hv; rcases hv with rfl | rfl | rfl <;> first | rfl | rfl))⟩
def z_api_Value : api_Value := ⟨0, 0, (⟨#[]⟩ : ByteArray)⟩
structure api_Expr where
  Kind : Int
  Op : Int
  V : api_Value
  Name : ByteArray
  Kids : Value
def cs_api_Expr (x : api_Expr) : List Value := [.int .i64 x.Kind, .int .i64 x.Op, .int .i64 x.V.Kind, .int .i64 x.V.N, .string x.V.S, .string x.Name, x.Kids]
structure ok_api_Expr (I : Mem) (x : api_Expr) : Prop where
  Kids : x.Kids.oneCell' = true
theorem ok_api_Expr.mono {I J : Mem} {x : api_Expr} (h : ok_api_Expr I x) (hl : I.Le J) : ok_api_Expr J x := ⟨h.Kids⟩
def R_api_Expr (I : Mem) (cs : List Value) (x : api_Expr) : Prop := cs = cs_api_Expr x ∧ ok_api_Expr I x
instance : Mono R_api_Expr := ⟨fun hl h => (by obtain ⟨rfl, h⟩ := h; exact ⟨rfl, h.mono hl⟩), fun h c hv => (by obtain ⟨rfl, h⟩ := h; exact (by simp only [cs_api_Expr, List.mem_cons, List.not_mem_nil, or_false] at hv; rcases hv with rfl | rfl | rfl | rfl | rfl | rfl | rfl <;> first | rfl | exact h.Kids))⟩
def z_api_Expr : api_Expr := ⟨0, 0, z_api_Value, (⟨#[]⟩ : ByteArray), (Value.slice none 0 0)⟩
theorem zok_api_Expr {I : Mem} : ok_api_Expr I z_api_Expr := ⟨rfl⟩
structure api_Stmt where
  Kind : Int
  Table : ByteArray
  Name : ByteArray
  Role : ByteArray
  Cols : Value
  Cons : Value
  Names : List ByteArray
  Rows : Value
  Where : api_Expr
  Sets : Value
  Order : Value
  Limit : Int
  Priv : Int
  Option : Bool
  Kids : Value
structure W_api_Stmt where
  Names : SW
def cs_api_Stmt (x : api_Stmt) (v : W_api_Stmt) : List Value := [.int .i64 x.Kind, .string x.Table, .string x.Name, .string x.Role, x.Cols, x.Cons, .slice v.Names.a x.Names.length v.Names.c, x.Rows, .int .i64 x.Where.Kind, .int .i64 x.Where.Op, .int .i64 x.Where.V.Kind, .int .i64 x.Where.V.N, .string x.Where.V.S, .string x.Where.Name, x.Where.Kids, x.Sets, x.Order, .int .i64 x.Limit, .int .i64 x.Priv, .bool x.Option, x.Kids]
structure ok_api_Stmt (I : Mem) (x : api_Stmt) (v : W_api_Stmt) : Prop where
  Cols : x.Cols.oneCell' = true
  Cons : x.Cons.oneCell' = true
  Names : RSl 1 RStr I v.Names.a v.Names.c x.Names
  Rows : x.Rows.oneCell' = true
  Where : ok_api_Expr I x.Where
  Sets : x.Sets.oneCell' = true
  Order : x.Order.oneCell' = true
  Kids : x.Kids.oneCell' = true
theorem ok_api_Stmt.mono {I J : Mem} {x : api_Stmt} {v : W_api_Stmt} (h : ok_api_Stmt I x v) (hl : I.Le J) : ok_api_Stmt J x v := ⟨h.Cols, h.Cons, RSl.mono h.Names hl, h.Rows, h.Where.mono hl, h.Sets, h.Order, h.Kids⟩
def R_api_Stmt (I : Mem) (cs : List Value) (x : api_Stmt) : Prop := ∃ v : W_api_Stmt, cs = cs_api_Stmt x v ∧ ok_api_Stmt I x v
instance : Mono R_api_Stmt := ⟨fun hl h => (by obtain ⟨v, rfl, h⟩ := h; exact ⟨v, rfl, h.mono hl⟩), fun h c hv => (by obtain ⟨v, rfl, h⟩ := h; exact (by simp only [cs_api_Stmt, List.mem_cons, List.not_mem_nil, or_false] at hv; rcases hv with rfl | rfl | rfl | rfl | rfl | rfl | rfl | rfl | rfl | rfl | rfl | rfl | rfl | rfl | rfl | rfl | rfl | rfl | rfl | rfl | rfl <;> first | rfl | exact h.Cols | exact h.Cons | exact h.Rows | exact h.Where.Kids | exact h.Sets | exact h.Order | exact h.Kids))⟩
def z_api_Stmt : api_Stmt := ⟨0, (⟨#[]⟩ : ByteArray), (⟨#[]⟩ : ByteArray), (⟨#[]⟩ : ByteArray), (Value.slice none 0 0), (Value.slice none 0 0), [], (Value.slice none 0 0), z_api_Expr, (Value.slice none 0 0), (Value.slice none 0 0), 0, 0, false, (Value.slice none 0 0)⟩
def zw_api_Stmt : W_api_Stmt := ⟨⟨none, 0⟩⟩
theorem zok_api_Stmt {I : Mem} : ok_api_Stmt I z_api_Stmt zw_api_Stmt := ⟨rfl, rfl, SlAt.nil, rfl, zok_api_Expr, rfl, rfl, rfl⟩
structure api_Table where
  Name : ByteArray
  Owner : ByteArray
  Version : Int
  Cols : Value
  Cons : Value
  Idx : Value
def cs_api_Table (x : api_Table) : List Value := [.string x.Name, .string x.Owner, .int .i64 x.Version, x.Cols, x.Cons, x.Idx]
structure ok_api_Table (I : Mem) (x : api_Table) : Prop where
  Cols : x.Cols.oneCell' = true
  Cons : x.Cons.oneCell' = true
  Idx : x.Idx.oneCell' = true
theorem ok_api_Table.mono {I J : Mem} {x : api_Table} (h : ok_api_Table I x) (hl : I.Le J) : ok_api_Table J x := ⟨h.Cols, h.Cons, h.Idx⟩
def R_api_Table (I : Mem) (cs : List Value) (x : api_Table) : Prop := cs = cs_api_Table x ∧ ok_api_Table I x
instance : Mono R_api_Table := ⟨fun hl h => (by obtain ⟨rfl, h⟩ := h; exact ⟨rfl, h.mono hl⟩), fun h c hv => (by obtain ⟨rfl, h⟩ := h; exact (by simp only [cs_api_Table, List.mem_cons, List.not_mem_nil, or_false] at hv; rcases hv with rfl | rfl | rfl | rfl | rfl | rfl <;> first | rfl | exact h.Cols | exact h.Cons | exact h.Idx))⟩
def z_api_Table : api_Table := ⟨(⟨#[]⟩ : ByteArray), (⟨#[]⟩ : ByteArray), 0, (Value.slice none 0 0), (Value.slice none 0 0), (Value.slice none 0 0)⟩
theorem zok_api_Table {I : Mem} : ok_api_Table I z_api_Table := ⟨rfl, rfl, rfl⟩
structure plan_Plan where
  S : api_Stmt
  Table : api_Table
  Insert : List Int
  Where : api_Expr
  Out : Value
  Set : Value
  Order : Value
  Sets : List Int
  By : List ByteArray
  Key : Value
structure W_plan_Plan where
  S : W_api_Stmt
  Insert : SW
  Sets : SW
  By : SW
def cs_plan_Plan (x : plan_Plan) (v : W_plan_Plan) : List Value := [.int .i64 x.S.Kind, .string x.S.Table, .string x.S.Name, .string x.S.Role, x.S.Cols, x.S.Cons, .slice v.S.Names.a x.S.Names.length v.S.Names.c, x.S.Rows, .int .i64 x.S.Where.Kind, .int .i64 x.S.Where.Op, .int .i64 x.S.Where.V.Kind, .int .i64 x.S.Where.V.N, .string x.S.Where.V.S, .string x.S.Where.Name, x.S.Where.Kids, x.S.Sets, x.S.Order, .int .i64 x.S.Limit, .int .i64 x.S.Priv, .bool x.S.Option, x.S.Kids, .string x.Table.Name, .string x.Table.Owner, .int .i64 x.Table.Version, x.Table.Cols, x.Table.Cons, x.Table.Idx, .slice v.Insert.a x.Insert.length v.Insert.c, .int .i64 x.Where.Kind, .int .i64 x.Where.Op, .int .i64 x.Where.V.Kind, .int .i64 x.Where.V.N, .string x.Where.V.S, .string x.Where.Name, x.Where.Kids, x.Out, x.Set, x.Order, .slice v.Sets.a x.Sets.length v.Sets.c, .slice v.By.a x.By.length v.By.c, x.Key]
structure ok_plan_Plan (I : Mem) (x : plan_Plan) (v : W_plan_Plan) : Prop where
  S : ok_api_Stmt I x.S v.S
  Table : ok_api_Table I x.Table
  Insert : RSl 1 (RInt .i64) I v.Insert.a v.Insert.c x.Insert
  Where : ok_api_Expr I x.Where
  Out : x.Out.oneCell' = true
  Set : x.Set.oneCell' = true
  Order : x.Order.oneCell' = true
  Sets : RSl 1 (RInt .i64) I v.Sets.a v.Sets.c x.Sets
  By : RSl 1 RStr I v.By.a v.By.c x.By
  Key : x.Key.oneCell' = true
theorem ok_plan_Plan.mono {I J : Mem} {x : plan_Plan} {v : W_plan_Plan} (h : ok_plan_Plan I x v) (hl : I.Le J) : ok_plan_Plan J x v := ⟨h.S.mono hl, h.Table.mono hl, RSl.mono h.Insert hl, h.Where.mono hl, h.Out, h.Set, h.Order, RSl.mono h.Sets hl, RSl.mono h.By hl, h.Key⟩
def R_plan_Plan (I : Mem) (cs : List Value) (x : plan_Plan) : Prop := ∃ v : W_plan_Plan, cs = cs_plan_Plan x v ∧ ok_plan_Plan I x v
instance : Mono R_plan_Plan := ⟨fun hl h => (by obtain ⟨v, rfl, h⟩ := h; exact ⟨v, rfl, h.mono hl⟩), fun h c hv => (by obtain ⟨v, rfl, h⟩ := h; exact (by simp only [cs_plan_Plan, List.mem_cons, List.not_mem_nil, or_false] at hv; rcases hv with rfl | rfl | rfl | rfl | rfl | rfl | rfl | rfl | rfl | rfl | rfl | rfl | rfl | rfl | rfl | rfl | rfl | rfl | rfl | rfl | rfl | rfl | rfl | rfl | rfl | rfl | rfl | rfl | rfl | rfl | rfl | rfl | rfl | rfl | rfl | rfl | rfl | rfl | rfl | rfl | rfl <;> first | rfl | exact h.S.Cols | exact h.S.Cons | exact h.S.Rows | exact h.S.Where.Kids | exact h.S.Sets | exact h.S.Order | exact h.S.Kids | exact h.Table.Cols | exact h.Table.Cons | exact h.Table.Idx | exact h.Where.Kids | exact h.Out | exact h.Set | exact h.Order | exact h.Key))⟩
def z_plan_Plan : plan_Plan := ⟨z_api_Stmt, z_api_Table, [], z_api_Expr, (Value.slice none 0 0), (Value.slice none 0 0), (Value.slice none 0 0), [], [], (Value.slice none 0 0)⟩
def zw_plan_Plan : W_plan_Plan := ⟨zw_api_Stmt, ⟨none, 0⟩, ⟨none, 0⟩, ⟨none, 0⟩⟩
theorem zok_plan_Plan {I : Mem} : ok_plan_Plan I z_plan_Plan zw_plan_Plan := ⟨zok_api_Stmt, zok_api_Table, SlAt.nil, zok_api_Expr, rfl, rfl, rfl, SlAt.nil, SlAt.nil, rfl⟩
structure lru_link where
  p : plan_Plan
  ahead : lru_Entry
  behind : lru_Entry
structure W_lru_link where
  p : W_plan_Plan
def cs_lru_link (x : lru_link) (v : W_lru_link) : List Value := [.int .i64 x.p.S.Kind, .string x.p.S.Table, .string x.p.S.Name, .string x.p.S.Role, x.p.S.Cols, x.p.S.Cons, .slice v.p.S.Names.a x.p.S.Names.length v.p.S.Names.c, x.p.S.Rows, .int .i64 x.p.S.Where.Kind, .int .i64 x.p.S.Where.Op, .int .i64 x.p.S.Where.V.Kind, .int .i64 x.p.S.Where.V.N, .string x.p.S.Where.V.S, .string x.p.S.Where.Name, x.p.S.Where.Kids, x.p.S.Sets, x.p.S.Order, .int .i64 x.p.S.Limit, .int .i64 x.p.S.Priv, .bool x.p.S.Option, x.p.S.Kids, .string x.p.Table.Name, .string x.p.Table.Owner, .int .i64 x.p.Table.Version, x.p.Table.Cols, x.p.Table.Cons, x.p.Table.Idx, .slice v.p.Insert.a x.p.Insert.length v.p.Insert.c, .int .i64 x.p.Where.Kind, .int .i64 x.p.Where.Op, .int .i64 x.p.Where.V.Kind, .int .i64 x.p.Where.V.N, .string x.p.Where.V.S, .string x.p.Where.Name, x.p.Where.Kids, x.p.Out, x.p.Set, x.p.Order, .slice v.p.Sets.a x.p.Sets.length v.p.Sets.c, .slice v.p.By.a x.p.By.length v.p.By.c, x.p.Key, .int .i64 x.ahead.Who, .string x.ahead.Name, .int .i64 x.behind.Who, .string x.behind.Name]
structure ok_lru_link (I : Mem) (x : lru_link) (v : W_lru_link) : Prop where
  p : ok_plan_Plan I x.p v.p
theorem ok_lru_link.mono {I J : Mem} {x : lru_link} {v : W_lru_link} (h : ok_lru_link I x v) (hl : I.Le J) : ok_lru_link J x v := ⟨h.p.mono hl⟩
def R_lru_link (I : Mem) (cs : List Value) (x : lru_link) : Prop := ∃ v : W_lru_link, cs = cs_lru_link x v ∧ ok_lru_link I x v
instance : Mono R_lru_link := ⟨fun hl h => (by obtain ⟨v, rfl, h⟩ := h; exact ⟨v, rfl, h.mono hl⟩), fun h c hv => (by obtain ⟨v, rfl, h⟩ := h; exact (by simp only [cs_lru_link, List.mem_cons, List.not_mem_nil, or_false] at hv; rcases hv with rfl | rfl | rfl | rfl | rfl | rfl | rfl | rfl | rfl | rfl | rfl | rfl | rfl | rfl | rfl | rfl | rfl | rfl | rfl | rfl | rfl | rfl | rfl | rfl | rfl | rfl | rfl | rfl | rfl | rfl | rfl | rfl | rfl | rfl | rfl | rfl | rfl | rfl | rfl | rfl | rfl | rfl | rfl | rfl | rfl <;> first | rfl | exact h.p.S.Cols | exact h.p.S.Cons | exact h.p.S.Rows | exact h.p.S.Where.Kids | exact h.p.S.Sets | exact h.p.S.Order | exact h.p.S.Kids | exact h.p.Table.Cols | exact h.p.Table.Cons | exact h.p.Table.Idx | exact h.p.Where.Kids | exact h.p.Out | exact h.p.Set | exact h.p.Order | exact h.p.Key))⟩
def z_lru_link : lru_link := ⟨z_plan_Plan, z_lru_Entry, z_lru_Entry⟩
def zw_lru_link : W_lru_link := ⟨zw_plan_Plan⟩
theorem zok_lru_link {I : Mem} : ok_lru_link I z_lru_link zw_lru_link := ⟨zok_plan_Plan⟩
structure lru_Cache where
  at_ : List (lru_Entry × lru_link)
  most : Int
structure registrarref26_Entry where
  Who : Int
  Name : ByteArray
  Table : ByteArray
  Mark : Int
def cs_registrarref26_Entry (x : registrarref26_Entry) : List Value := [.int .i64 x.Who, .string x.Name, .string x.Table, .int .i64 x.Mark]
def R_registrarref26_Entry (I : Mem) (cs : List Value) (x : registrarref26_Entry) : Prop := cs = cs_registrarref26_Entry x
instance : Mono R_registrarref26_Entry := ⟨fun hl h => (by obtain rfl := h; exact rfl), fun h c hv => (by obtain rfl := h; exact (by simp only [cs_registrarref26_Entry, List.mem_cons, List.not_mem_nil, or_false] at hv; rcases hv with rfl | rfl | rfl | rfl <;> first | rfl | rfl))⟩
def z_registrarref26_Entry : registrarref26_Entry := ⟨0, (⟨#[]⟩ : ByteArray), (⟨#[]⟩ : ByteArray), 0⟩
structure registrarref26_Cache where
  L : List registrarref26_Entry
  Most : Int
structure W_registrarref26_Cache where
  L : SW
def cs_registrarref26_Cache (x : registrarref26_Cache) (v : W_registrarref26_Cache) : List Value := [.slice v.L.a x.L.length v.L.c, .int .i64 x.Most]
structure ok_registrarref26_Cache (I : Mem) (x : registrarref26_Cache) (v : W_registrarref26_Cache) : Prop where
  L : RSl 4 R_registrarref26_Entry I v.L.a v.L.c x.L
theorem ok_registrarref26_Cache.mono {I J : Mem} {x : registrarref26_Cache} {v : W_registrarref26_Cache} (h : ok_registrarref26_Cache I x v) (hl : I.Le J) : ok_registrarref26_Cache J x v := ⟨RSl.mono h.L hl⟩
def R_registrarref26_Cache (I : Mem) (cs : List Value) (x : registrarref26_Cache) : Prop := ∃ v : W_registrarref26_Cache, cs = cs_registrarref26_Cache x v ∧ ok_registrarref26_Cache I x v
instance : Mono R_registrarref26_Cache := ⟨fun hl h => (by obtain ⟨v, rfl, h⟩ := h; exact ⟨v, rfl, h.mono hl⟩), fun h c hv => (by obtain ⟨v, rfl, h⟩ := h; exact (by simp only [cs_registrarref26_Cache, List.mem_cons, List.not_mem_nil, or_false] at hv; rcases hv with rfl | rfl <;> first | rfl | rfl))⟩
def z_registrarref26_Cache : registrarref26_Cache := ⟨[], 0⟩
def zw_registrarref26_Cache : W_registrarref26_Cache := ⟨⟨none, 0⟩⟩
theorem zok_registrarref26_Cache {I : Mem} : ok_registrarref26_Cache I z_registrarref26_Cache zw_registrarref26_Cache := ⟨SlAt.nil⟩
structure registrarlaw26_Act where
  Do : Int
  Who : Int
  Name : ByteArray
  Table : ByteArray
def cs_registrarlaw26_Act (x : registrarlaw26_Act) : List Value := [.int .i64 x.Do, .int .i64 x.Who, .string x.Name, .string x.Table]
def R_registrarlaw26_Act (I : Mem) (cs : List Value) (x : registrarlaw26_Act) : Prop := cs = cs_registrarlaw26_Act x
instance : Mono R_registrarlaw26_Act := ⟨fun hl h => (by obtain rfl := h; exact rfl), fun h c hv => (by obtain rfl := h; exact (by simp only [cs_registrarlaw26_Act, List.mem_cons, List.not_mem_nil, or_false] at hv; rcases hv with rfl | rfl | rfl | rfl <;> first | rfl | rfl))⟩
def z_registrarlaw26_Act : registrarlaw26_Act := ⟨0, 0, (⟨#[]⟩ : ByteArray), (⟨#[]⟩ : ByteArray)⟩
def enc_lru_Entry (a : lru_Entry) : Value := .agg (cs_lru_Entry a).toArray
def eq_lru_Entry (a b : lru_Entry) : Bool := ((a.Who == b.Who) && sEq a.Name b.Name)
theorem eq_lru_Entry_iff {a b : lru_Entry} : eq_lru_Entry a b = true ↔ a = b := by
  cases a
  cases b
  simp [eq_lru_Entry, sEq_iff]
theorem key_lru_Entry : KeyLaw P 74 enc_lru_Entry eq_lru_Entry := by
  refine keyLaw_struct (fs := P.fieldsOf 74) (by kernel_rfl) (fun empty k w => by kernel_rfl) (fun a b => ?_) (fun a b h => ?_)
  · have e : eqV P 50 74 (enc_lru_Entry a) (enc_lru_Entry b) = some ((a.Who == b.Who) && (sEq a.Name b.Name && true)) := by kernel_rfl
    rw [e]
    simp only [Bool.and_true]
    rfl
  · have e := eq_lru_Entry_iff.1 h
    subst e
    refine sameBits_agg 9999 [.int .i64 b.Who, .string b.Name] (fun c hc => ?_)
    simp only [List.mem_cons, List.not_mem_nil, or_false] at hc
    rcases hc with rfl | rfl
    · exact sameBits_int ..
    · exact sameBits_str ..
structure W_lru_Cache where
  at_ : SM
def cs_lru_Cache (x : lru_Cache) (v : W_lru_Cache) : List Value := [.map (some v.at_.m), .int .i64 x.most]
structure ok_lru_Cache (I : Mem) (x : lru_Cache) (v : W_lru_Cache) : Prop where
  at_ : OwnMap enc_lru_Entry (valA R_lru_link) I v.at_.C v.at_.m x.at_
theorem ok_lru_Cache.mono {I J : Mem} {x : lru_Cache} {v : W_lru_Cache} (h : ok_lru_Cache I x v) (hl : I.Le J) : ok_lru_Cache J x v := ⟨OwnMap.mono h.at_ hl⟩
def lru_New (p0 : Int) : Option lru_Cache := some (⟨(mset eq_lru_Entry ([] : List (lru_Entry × lru_link)) z_lru_Entry z_lru_link), (if (if 6 < p0 then 6 else p0) > 1 then (if 6 < p0 then 6 else p0) else 1)⟩ : lru_Cache)
set_option maxHeartbeats 1000000 in
theorem lru_New_ok {E w : World} {I : Mem} {Os : List Mem} {p0 : Int} (hS : St E w I Os) {r : lru_Cache} (hr : lru_New p0 = some r) :
    Calls P 6 #[(.int .i64 p0)] w (fun e w' => ∃ (I' : Mem) (rb0 : Nat) (w_ro0 : W_lru_Cache), e = .returned (.pointer (some ⟨rb0, 0, none⟩)) ∧ I.Le I' ∧ St E w' I' ((one rb0 (.cells (cs_lru_Cache r w_ro0).toArray 68 (0, 0))) :: w_ro0.at_.C :: Os) ∧ ok_lru_Cache I' r w_ro0) := by
  refine calls_W (args := [(.int .i64 p0)]) (fn := Try.f6) rfl rfl rfl ?_
  unfold lru_New at hr
  refine W.seq ?_
  refine W.region (l := [0]) (by kernel_rfl) ?_
  refine WO.vals [(0, 2, (.pointer none))] (by kernel_rfl) (fun _ => by kernel_rfl) ?_
  refine WO.nil ?_
  refine En.next ?_
  refine W.seq ?_
  refine W.region (l := [0, 1, 2, 3, 4, 5, 6, 7, 8, 9, 10]) (by kernel_rfl) ?_
  refine WO.new hS rfl (by kernel_rfl) rfl (.map #[] 0) (fun b => .map (some b)) (by kernel_rfl) (fun _ _ _ => trivial) ?_
  intro b1 w4 hS3
  refine WO.vals [(1, 4, (.agg (cs_lru_Entry z_lru_Entry).toArray)), (2, 5, (.agg (cs_lru_link z_lru_link zw_lru_link).toArray))] (by kernel_rfl) (fun _ => by kernel_rfl) ?_
  refine WO.update (OwnMap.nil (enc := enc_lru_Entry) (val := (valA R_lru_link)) (I := I) (m := b1)) hS3 (t := 66) (kt := 74) (et := 76) (by kernel_rfl) key_lru_Entry rfl (by kernel_rfl) rfl (.inr rfl) rfl z_lru_Entry rfl rfl (xv := z_lru_link) ⟨(cs_lru_link z_lru_link zw_lru_link), rfl, ⟨zw_lru_link, rfl, zok_lru_link⟩⟩ (fun _ _ _ => trivial) ?_
  intro w7 C5 hS6 hm8
  refine WO.vals [(4, 6, (.map (some b1))), (5, 7, (.int .i64 p0)), (6, 8, (.int .i64 (if 6 < p0 then 6 else p0))), (7, 9, (.int .i64 (if (if 6 < p0 then 6 else p0) > 1 then (if 6 < p0 then 6 else p0) else 1))), (8, 10, (.agg (cs_lru_Cache (⟨(mset eq_lru_Entry ([] : List (lru_Entry × lru_link)) z_lru_Entry z_lru_link), (if (if 6 < p0 then 6 else p0) > 1 then (if 6 < p0 then 6 else p0) else 1)⟩ : lru_Cache) (⟨⟨b1, C5⟩⟩ : W_lru_Cache)).toArray))] (by kernel_rfl) (fun _ => by kernel_rfl) ?_
  refine WO.new hS6 rfl (by kernel_rfl) rfl (.cells (cs_lru_Cache (⟨(mset eq_lru_Entry ([] : List (lru_Entry × lru_link)) z_lru_Entry z_lru_link), (if (if 6 < p0 then 6 else p0) > 1 then (if 6 < p0 then 6 else p0) else 1)⟩ : lru_Cache) (⟨⟨b1, C5⟩⟩ : W_lru_Cache)).toArray 68 (0, 0)) (fun b => .pointer (some ⟨b, 0, none⟩)) (by kernel_rfl) (fun _ _ _ => trivial) ?_
  intro b9 w12 hS11
  refine WO.vals [(10, 2, (.pointer (some ⟨b9, 0, none⟩)))] (by kernel_rfl) (fun _ => by kernel_rfl) ?_
  refine WO.nil ?_
  refine En.next ?_
  refine W.ret ?_
  have hk13 : ok_lru_Cache I (⟨(mset eq_lru_Entry ([] : List (lru_Entry × lru_link)) z_lru_Entry z_lru_link), (if (if 6 < p0 then 6 else p0) > 1 then (if 6 < p0 then 6 else p0) else 1)⟩ : lru_Cache) (⟨⟨b1, C5⟩⟩ : W_lru_Cache) := ⟨hm8⟩
  have he := Option.some.inj hr
  subst r
  exact En.ret1 rfl (.pointer (some ⟨b9, 0, none⟩)) rfl ⟨I, b9, (⟨⟨b1, C5⟩⟩ : W_lru_Cache), rfl, Mem.Le.refl _, hS11, hk13⟩
def registrarref26_New (p0 : Int) : Option registrarref26_Cache := ((bif (decide (p0 < 1)) then some 1 else some p0)).bind (fun (j1 : Int) => ((bif (decide (j1 > 6)) then some 6 else some j1)).bind (fun (j7 : Int) => some { z_registrarref26_Cache with Most := j7 }))
set_option maxHeartbeats 1000000 in
theorem registrarref26_New_ok {E w : World} {I : Mem} {Os : List Mem} {p0 : Int} (hS : St E w I Os) {r : registrarref26_Cache} (hr : registrarref26_New p0 = some r) :
    Calls P 7 #[(.int .i64 p0)] w (fun e w' => ∃ (I' : Mem) (rb0 : Nat) (w_ro0 : W_registrarref26_Cache), e = .returned (.pointer (some ⟨rb0, 0, none⟩)) ∧ I.Le I' ∧ St E w' I' ((one rb0 (.cells (cs_registrarref26_Cache r w_ro0).toArray 59 (0, 0))) :: Os) ∧ ok_registrarref26_Cache I' r w_ro0) := by
  refine calls_W (args := [(.int .i64 p0)]) (fn := Try.f7) rfl rfl rfl ?_
  unfold registrarref26_New at hr
  refine W.seq ?_
  refine W.region (l := [0]) (by kernel_rfl) ?_
  refine WO.vals [(0, 2, (.pointer none))] (by kernel_rfl) (fun _ => by kernel_rfl) ?_
  refine WO.nil ?_
  refine En.next ?_
  refine W.seq ?_
  refine W.seq ?_
  refine W.region (l := [0, 1]) (by kernel_rfl) ?_
  refine WO.vals [(0, 3, (.int .i64 p0)), (1, 4, (.bool (decide (p0 < 1))))] (by kernel_rfl) (fun _ => by kernel_rfl) ?_
  refine WO.nil ?_
  refine En.next ?_
  obtain ⟨j1, hr1, hr⟩ := bind_some hr
  refine W.join (J := (fun fr w => ∃ (I3 : Mem), fr = [(0, (.int .i64 j1))] ∧ I.Le I3 ∧ St E w I3 Os)) ?restj1 ?waysj1
  case waysj1 =>
    refine W.cond (b := (decide (p0 < 1))) rfl rfl (fun hc => ?_) (fun hc => ?_)
    · replace hr1 := cond_t hc hr1
      refine W.region (l := [0]) (by kernel_rfl) ?_
      refine WO.vals [(0, 0, (.int .i64 1))] (by kernel_rfl) (fun _ => by kernel_rfl) ?_
      refine WO.nil ?_
      have he := Option.some.inj hr1
      subst j1
      refine En.weaken (fr' := [(0, (.int .i64 1))]) (En.round ⟨I, rfl, Mem.Le.refl _, hS⟩) (Sub.cons rfl Sub.nil)
    · replace hr1 := cond_f hc hr1
      refine W.skip ?_
      have he := Option.some.inj hr1
      subst j1
      refine En.weaken (fr' := [(0, (.int .i64 p0))]) (En.round ⟨I, rfl, Mem.Le.refl _, hS⟩) (Sub.cons rfl Sub.nil)
  case restj1 =>
    rintro _ w5 ⟨I3, rfl, hl4, hS6⟩
    refine En.next ?_
    refine W.seq ?_
    refine W.seq ?_
    refine W.region (l := [0, 1]) (by kernel_rfl) ?_
    refine WO.vals [(0, 5, (.int .i64 j1)), (1, 6, (.bool (decide (j1 > 6))))] (by kernel_rfl) (fun _ => by kernel_rfl) ?_
    refine WO.nil ?_
    refine En.next ?_
    obtain ⟨j7, hr1, hr⟩ := bind_some hr
    refine W.join (J := (fun fr w => ∃ (I9 : Mem), fr = [(0, (.int .i64 j7))] ∧ I3.Le I9 ∧ St E w I9 Os)) ?restj7 ?waysj7
    case waysj7 =>
      refine W.cond (b := (decide (j1 > 6))) rfl rfl (fun hc => ?_) (fun hc => ?_)
      · replace hr1 := cond_t hc hr1
        refine W.region (l := [0]) (by kernel_rfl) ?_
        refine WO.vals [(0, 0, (.int .i64 6))] (by kernel_rfl) (fun _ => by kernel_rfl) ?_
        refine WO.nil ?_
        have he := Option.some.inj hr1
        subst j7
        refine En.weaken (fr' := [(0, (.int .i64 6))]) (En.round ⟨I3, rfl, Mem.Le.refl _, hS6⟩) (Sub.cons rfl Sub.nil)
      · replace hr1 := cond_f hc hr1
        refine W.skip ?_
        have he := Option.some.inj hr1
        subst j7
        refine En.weaken (fr' := [(0, (.int .i64 j1))]) (En.round ⟨I3, rfl, Mem.Le.refl _, hS6⟩) (Sub.cons rfl Sub.nil)
    case restj7 =>
      rintro _ w11 ⟨I9, rfl, hl10, hS12⟩
      refine En.next ?_
      refine W.seq ?_
      refine W.region (l := [0, 1, 2, 3]) (by kernel_rfl) ?_
      refine WO.vals [(0, 7, (.int .i64 j7)), (1, 8, (.agg (cs_registrarref26_Cache ({ z_registrarref26_Cache with Most := j7 }) zw_registrarref26_Cache).toArray))] (by kernel_rfl) (fun _ => by kernel_rfl) ?_
      refine WO.new hS12 rfl (by kernel_rfl) rfl (.cells (cs_registrarref26_Cache ({ z_registrarref26_Cache with Most := j7 }) zw_registrarref26_Cache).toArray 59 (0, 0)) (fun b => .pointer (some ⟨b, 0, none⟩)) (by kernel_rfl) (fun _ _ _ => trivial) ?_
      intro b13 w16 hS15
      refine WO.vals [(3, 2, (.pointer (some ⟨b13, 0, none⟩)))] (by kernel_rfl) (fun _ => by kernel_rfl) ?_
      refine WO.nil ?_
      refine En.next ?_
      refine W.ret ?_
      have hk17 : ok_registrarref26_Cache I9 ({ z_registrarref26_Cache with Most := j7 }) zw_registrarref26_Cache := ⟨SlAt.nil⟩
      have he := Option.some.inj hr
      subst r
      exact En.ret1 rfl (.pointer (some ⟨b13, 0, none⟩)) rfl ⟨I9, b13, zw_registrarref26_Cache, rfl, (hl4.trans hl10), hS15, hk17⟩
def registrarlaw26_long (p0 : registrarlaw26_Act) : Option Bool := some ((decide ((p0.Name.size : Int) > 100)) || (decide ((p0.Table.size : Int) > 100)))
set_option maxHeartbeats 1000000 in
theorem registrarlaw26_long_ok {E w : World} {I : Mem} {Os : List Mem} {p0 : registrarlaw26_Act} (hS : St E w I Os) {r : Bool} (hr : registrarlaw26_long p0 = some r) :
    Calls P 8 #[(.agg (cs_registrarlaw26_Act p0).toArray)] w (fun e w' => ∃ (I' : Mem), e = .returned (.bool r) ∧ I.Le I' ∧ St E w' I' Os) := by
  refine calls_W (args := [(.agg (cs_registrarlaw26_Act p0).toArray)]) (fn := Try.f8) rfl rfl rfl ?_
  unfold registrarlaw26_long at hr
  refine W.seq ?_
  refine W.region (l := [0, 1]) (by kernel_rfl) ?_
  refine WO.new hS rfl (by kernel_rfl) rfl (.cells (cs_registrarlaw26_Act p0).toArray 29 (0, 0)) (fun b => .pointer (some ⟨b, 0, none⟩)) (by kernel_rfl) (fun _ _ _ => trivial) ?_
  intro b1 w4 hS3
  refine WO.vals [(1, 2, (.bool false))] (by kernel_rfl) (fun _ => by kernel_rfl) ?_
  refine WO.nil ?_
  refine En.next ?_
  refine W.seq ?_
  refine W.region (l := [0, 1, 2, 3, 4, 5, 6, 7, 8, 9, 10]) (by kernel_rfl) ?_
  refine WO.vals [(0, 3, (.pointer (some ⟨b1, 2, none⟩)))] (by kernel_rfl) (fun _ => by kernel_rfl) ?_
  refine WO.load rfl (by kernel_rfl) (by kernel_rfl) rfl (v := (.string p0.Name)) (fun w' hw' => cell_one ((rd_f (hS3.rd (List.Mem.head _))) w' hw') (by kernel_rfl)) ?_
  refine WO.vals [(2, 5, (.int .i64 (p0.Name.size : Int))), (3, 6, (.bool (decide ((p0.Name.size : Int) > 100)))), (4, 7, (.bool (decide ((p0.Name.size : Int) > 100))))] (by kernel_rfl) (fun _ => by kernel_rfl) ?_
  refine WO.join (l1 := [5, 6, 7, 8, 9]) (l2 := [10]) (J := fun frx wx => frx = [(12, (.bool ((decide ((p0.Name.size : Int) > 100)) || (decide ((p0.Table.size : Int) > 100)))))] ∧ w4 = wx) ?restm5 ?waysm5
  case waysm5 =>
    refine WO.caseb (decide ((p0.Name.size : Int) > 100)) (fun hc => ?_) (fun hc => ?_)
    · skip
      refine WO.reslot 7 rfl (show Value.bool (decide ((p0.Name.size : Int) > 100)) = Value.bool true by rw [hc]) ?_
      refine WO.pass rfl (by kernel_rfl) rfl ?_
      refine WO.pass rfl (by kernel_rfl) rfl ?_
      refine WO.pass rfl (by kernel_rfl) rfl ?_
      refine WO.pass rfl (by kernel_rfl) rfl ?_
      refine WO.vals [(9, 12, (.bool true))] (by kernel_rfl) (fun _ => by kernel_rfl) ?_
      refine WO.weaken (fr' := [(12, (.bool ((decide ((p0.Name.size : Int) > 100)) || (decide ((p0.Table.size : Int) > 100)))))]) (WO.meet ⟨rfl, rfl⟩) (Sub.cons (by rw [hc]; rfl) Sub.nil)
    · skip
      refine WO.reslot 7 rfl (show Value.bool (decide ((p0.Name.size : Int) > 100)) = Value.bool false by rw [hc]) ?_
      refine WO.vals [(5, 8, (.pointer (some ⟨b1, 3, none⟩)))] (by kernel_rfl) (fun _ => by kernel_rfl) ?_
      refine WO.load rfl (by kernel_rfl) (by kernel_rfl) rfl (v := (.string p0.Table)) (fun w' hw' => cell_one ((rd_f (hS3.rd (List.Mem.head _))) w' hw') (by kernel_rfl)) ?_
      refine WO.vals [(7, 10, (.int .i64 (p0.Table.size : Int))), (8, 11, (.bool (decide ((p0.Table.size : Int) > 100)))), (9, 12, (.bool (decide ((p0.Table.size : Int) > 100))))] (by kernel_rfl) (fun _ => by kernel_rfl) ?_
      refine WO.weaken (fr' := [(12, (.bool ((decide ((p0.Name.size : Int) > 100)) || (decide ((p0.Table.size : Int) > 100)))))]) (WO.meet ⟨rfl, rfl⟩) (Sub.cons (by rw [hc]; rfl) Sub.nil)
  case restm5 =>
    rintro _ _ ⟨rfl, rfl⟩
    refine WO.vals [(10, 2, (.bool ((decide ((p0.Name.size : Int) > 100)) || (decide ((p0.Table.size : Int) > 100)))))] (by kernel_rfl) (fun _ => by kernel_rfl) ?_
    refine WO.nil ?_
    refine En.next ?_
    refine W.ret ?_
    have hS7 := hS3.drop
    have he := Option.some.inj hr
    subst r
    exact En.ret1 rfl (.bool ((decide ((p0.Name.size : Int) > 100)) || (decide ((p0.Table.size : Int) > 100)))) rfl ⟨I, rfl, Mem.Le.refl _, hS7⟩
def registrarlaw26_made (p0 : ByteArray) (p1 : Int) : Option plan_Plan := some { z_plan_Plan with Table := { z_api_Table with Name := p0 }, Insert := ([p1] : List Int) }
set_option maxHeartbeats 1000000 in
theorem registrarlaw26_made_ok {E w : World} {I : Mem} {Os : List Mem} {p0 : ByteArray} {p1 : Int} (hS : St E w I Os) {r : plan_Plan} (hr : registrarlaw26_made p0 p1 = some r) :
    Calls P 13 #[(.string p0), (.int .i64 p1)] w (fun e w' => ∃ (I' : Mem) (w_rw0 : W_plan_Plan), e = .returned (.agg (cs_plan_Plan r w_rw0).toArray) ∧ I.Le I' ∧ St E w' I' Os ∧ ok_plan_Plan I' r w_rw0) := by
  refine calls_W (args := [(.string p0), (.int .i64 p1)]) (fn := Try.f13) rfl rfl rfl ?_
  unfold registrarlaw26_made at hr
  refine W.seq ?_
  refine W.region (l := [0]) (by kernel_rfl) ?_
  refine WO.new hS rfl (by kernel_rfl) rfl (.cells (cs_plan_Plan z_plan_Plan zw_plan_Plan).toArray 55 (0, 0)) (fun b => .pointer (some ⟨b, 0, none⟩)) (by kernel_rfl) (fun _ _ _ => trivial) ?_
  intro b1 w4 hS3
  refine WO.nil ?_
  refine En.next ?_
  refine W.seq ?_
  refine W.region (l := [0, 1, 2, 3, 4, 5]) (by kernel_rfl) ?_
  refine WO.vals [(0, 5, (.string p0)), (1, 6, (.agg (cs_api_Table ({ z_api_Table with Name := p0 })).toArray)), (2, 7, (.int .i64 p1))] (by kernel_rfl) (fun _ => by kernel_rfl) ?_
  refine WO.newSlice (rel := (RInt .i64)) (xs := ([p1] : List Int)) hS3 rfl (by kernel_rfl) rfl 3 1 [[(.int .i64 p1)]] (by kernel_rfl) rfl ((Elr.cons rfl Elr.nil)) (fun _ _ _ => trivial) ?_
  intro a8 C6 w10 hS9 ho7
  obtain ⟨I12, hl13, hS15, hp14⟩ := OwnSl.pub ho7 hS9
  refine WO.vals [(4, 9, (.agg #[(.int .i64 0), (.string (⟨#[]⟩ : ByteArray)), (.string (⟨#[]⟩ : ByteArray)), (.string (⟨#[]⟩ : ByteArray)), (Value.slice none 0 0), (Value.slice none 0 0), (.slice none 0 0), (Value.slice none 0 0), (.int .i64 0), (.int .i64 0), (.int .i64 0), (.int .i64 0), (.string (⟨#[]⟩ : ByteArray)), (.string (⟨#[]⟩ : ByteArray)), (Value.slice none 0 0), (Value.slice none 0 0), (Value.slice none 0 0), (.int .i64 0), (.int .i64 0), (.bool false), (Value.slice none 0 0), (.string p0), (.string (⟨#[]⟩ : ByteArray)), (.int .i64 0), (Value.slice none 0 0), (Value.slice none 0 0), (Value.slice none 0 0), (.slice a8 1 1), (.int .i64 0), (.int .i64 0), (.int .i64 0), (.int .i64 0), (.string (⟨#[]⟩ : ByteArray)), (.string (⟨#[]⟩ : ByteArray)), (Value.slice none 0 0), (Value.slice none 0 0), (Value.slice none 0 0), (Value.slice none 0 0), (.slice none 0 0), (.slice none 0 0), (Value.slice none 0 0)]))] (by kernel_rfl) (fun _ => by kernel_rfl) ?_
  have hk18 : ok_plan_Plan I12 ({ z_plan_Plan with Table := { z_api_Table with Name := p0 }, Insert := ([p1] : List Int) }) ({ zw_plan_Plan with Insert := ⟨a8, 1⟩ }) := ⟨zok_plan_Plan.S, ⟨rfl, rfl, rfl⟩, hp14, zok_plan_Plan.Where, rfl, rfl, rfl, SlAt.nil, SlAt.nil, rfl⟩
  refine WO.storeBox hS15 rfl (by kernel_rfl) rfl 0 rfl rfl (by kernel_rfl) (all_one (rel := R_plan_Plan) (I := I12) (x := { z_plan_Plan with Table := { z_api_Table with Name := p0 }, Insert := ([p1] : List Int) }) ⟨({ zw_plan_Plan with Insert := ⟨a8, 1⟩ }), rfl, hk18⟩) (by kernel_rfl) (#[(.int .i64 0), (.string (⟨#[]⟩ : ByteArray)), (.string (⟨#[]⟩ : ByteArray)), (.string (⟨#[]⟩ : ByteArray)), (Value.slice none 0 0), (Value.slice none 0 0), (.slice none 0 0), (Value.slice none 0 0), (.int .i64 0), (.int .i64 0), (.int .i64 0), (.int .i64 0), (.string (⟨#[]⟩ : ByteArray)), (.string (⟨#[]⟩ : ByteArray)), (Value.slice none 0 0), (Value.slice none 0 0), (Value.slice none 0 0), (.int .i64 0), (.int .i64 0), (.bool false), (Value.slice none 0 0), (.string p0), (.string (⟨#[]⟩ : ByteArray)), (.int .i64 0), (Value.slice none 0 0), (Value.slice none 0 0), (Value.slice none 0 0), (.slice a8 1 1), (.int .i64 0), (.int .i64 0), (.int .i64 0), (.int .i64 0), (.string (⟨#[]⟩ : ByteArray)), (.string (⟨#[]⟩ : ByteArray)), (Value.slice none 0 0), (Value.slice none 0 0), (Value.slice none 0 0), (Value.slice none 0 0), (.slice none 0 0), (.slice none 0 0), (Value.slice none 0 0)]) (by kernel_rfl) (fun _ _ => trivial) ?_
  intro w17 hS16
  refine WO.nil ?_
  refine En.next ?_
  refine W.ret ?_
  have hS19 := hS16.drop
  have hk20 : ok_plan_Plan I12 ({ z_plan_Plan with Table := { z_api_Table with Name := p0 }, Insert := ([p1] : List Int) }) ({ zw_plan_Plan with Insert := ⟨a8, 1⟩ }) := ⟨zok_plan_Plan.S, ⟨rfl, rfl, rfl⟩, hp14, zok_plan_Plan.Where, rfl, rfl, rfl, SlAt.nil, SlAt.nil, rfl⟩
  have he := Option.some.inj hr
  subst r
  exact En.retc1 rfl (.agg #[(.int .i64 0), (.string (⟨#[]⟩ : ByteArray)), (.string (⟨#[]⟩ : ByteArray)), (.string (⟨#[]⟩ : ByteArray)), (Value.slice none 0 0), (Value.slice none 0 0), (.slice none 0 0), (Value.slice none 0 0), (.int .i64 0), (.int .i64 0), (.int .i64 0), (.int .i64 0), (.string (⟨#[]⟩ : ByteArray)), (.string (⟨#[]⟩ : ByteArray)), (Value.slice none 0 0), (Value.slice none 0 0), (Value.slice none 0 0), (.int .i64 0), (.int .i64 0), (.bool false), (Value.slice none 0 0), (.string p0), (.string (⟨#[]⟩ : ByteArray)), (.int .i64 0), (Value.slice none 0 0), (Value.slice none 0 0), (Value.slice none 0 0), (.slice a8 1 1), (.int .i64 0), (.int .i64 0), (.int .i64 0), (.int .i64 0), (.string (⟨#[]⟩ : ByteArray)), (.string (⟨#[]⟩ : ByteArray)), (Value.slice none 0 0), (Value.slice none 0 0), (Value.slice none 0 0), (Value.slice none 0 0), (.slice none 0 0), (.slice none 0 0), (Value.slice none 0 0)]) ⟨_, _, rfl, run_loadVarN (cs := [(.int .i64 0), (.string (⟨#[]⟩ : ByteArray)), (.string (⟨#[]⟩ : ByteArray)), (.string (⟨#[]⟩ : ByteArray)), (Value.slice none 0 0), (Value.slice none 0 0), (.slice none 0 0), (Value.slice none 0 0), (.int .i64 0), (.int .i64 0), (.int .i64 0), (.int .i64 0), (.string (⟨#[]⟩ : ByteArray)), (.string (⟨#[]⟩ : ByteArray)), (Value.slice none 0 0), (Value.slice none 0 0), (Value.slice none 0 0), (.int .i64 0), (.int .i64 0), (.bool false), (Value.slice none 0 0), (.string p0), (.string (⟨#[]⟩ : ByteArray)), (.int .i64 0), (Value.slice none 0 0), (Value.slice none 0 0), (Value.slice none 0 0), (.slice a8 1 1), (.int .i64 0), (.int .i64 0), (.int .i64 0), (.int .i64 0), (.string (⟨#[]⟩ : ByteArray)), (.string (⟨#[]⟩ : ByteArray)), (Value.slice none 0 0), (Value.slice none 0 0), (Value.slice none 0 0), (Value.slice none 0 0), (.slice none 0 0), (.slice none 0 0), (Value.slice none 0 0)]) (by kernel_rfl) (by kernel_rfl) (cells_one (hS16.rd (List.Mem.head _)) (by kernel_rfl))⟩ ⟨I12, ({ zw_plan_Plan with Insert := ⟨a8, 1⟩ }), rfl, hl13, hS19, hk20⟩
def lru_Cache_dead (p0 : lru_Cache) : Option Bool := some false
set_option maxHeartbeats 1000000 in
theorem lru_Cache_dead_ok {E w : World} {I : Mem} {Os : List Mem} {p0 : lru_Cache} {b_p0 : Nat} {w_p0 : W_lru_Cache} (h_p0 : ok_lru_Cache I p0 w_p0) (hS : St E w I ((one b_p0 (.cells (cs_lru_Cache p0 w_p0).toArray 68 (0, 0))) :: (w_p0.at_.C) :: Os)) {r : Bool} (hr : lru_Cache_dead p0 = some r) :
    Calls P 25 #[(.pointer (some ⟨b_p0, 0, none⟩))] w (fun e w' => ∃ (I' : Mem), e = .returned (.bool r) ∧ I.Le I' ∧ St E w' I' ((one b_p0 (.cells (cs_lru_Cache p0 w_p0).toArray 68 (0, 0))) :: w_p0.at_.C :: Os)) := by
  refine calls_W (args := [(.pointer (some ⟨b_p0, 0, none⟩))]) (fn := Try.f25) rfl rfl rfl ?_
  unfold lru_Cache_dead at hr
  refine W.seq ?_
  refine W.region (l := [0]) (by kernel_rfl) ?_
  refine WO.vals [(0, 2, (.bool false))] (by kernel_rfl) (fun _ => by kernel_rfl) ?_
  refine WO.nil ?_
  refine En.next ?_
  refine W.seq ?_
  refine W.region (l := [0, 1, 2, 3, 4, 5, 6, 7, 8, 9]) (by kernel_rfl) ?_
  refine WO.vals [(0, 3, (.pointer (some ⟨b_p0, 0, none⟩))), (1, 4, (.bool false)), (2, 5, (.bool false)), (3, 6, (.pointer (some ⟨b_p0, 0, none⟩))), (4, 7, (.pointer (some ⟨b_p0, 0, none⟩))), (5, 8, (.pointer (some ⟨b_p0, 0, none⟩)))] (by kernel_rfl) (fun _ => by kernel_rfl) ?_
  refine WO.load rfl (by kernel_rfl) (by kernel_rfl) rfl (v := (.map (some w_p0.at_.m))) (fun w' hw' => cell_one ((rd_f (hS.rd (List.Mem.head _))) w' hw') (by kernel_rfl)) ?_
  refine WO.vals [(7, 10, (.bool false)), (8, 11, (.bool false)), (9, 2, (.bool false))] (by kernel_rfl) (fun _ => by kernel_rfl) ?_
  refine WO.nil ?_
  refine En.next ?_
  refine W.ret ?_
  have he := Option.some.inj hr
  subst r
  exact En.ret1 rfl (.bool false) rfl ⟨I, rfl, Mem.Le.refl _, hS⟩
def lru_Cache_join (p0 : lru_Cache) (p1 : lru_Entry) (p2 : lru_Entry) : Option lru_Cache := (some ((mget eq_lru_Entry p0.at_ p1).getD z_lru_link)).bind (fun (x11 : lru_link) => (some ((mget eq_lru_Entry (mset eq_lru_Entry p0.at_ p1 ({ x11 with behind := p2 })) p2).getD z_lru_link)).bind (fun (x30 : lru_link) => some { p0 with at_ := (mset eq_lru_Entry (mset eq_lru_Entry p0.at_ p1 ({ x11 with behind := p2 })) p2 ({ x30 with ahead := p1 })) }))
set_option maxHeartbeats 1000000 in
theorem lru_Cache_join_ok {E w : World} {I : Mem} {Os : List Mem} {p0 : lru_Cache} {p1 : lru_Entry} {p2 : lru_Entry} {b_p0 : Nat} {w_p0 : W_lru_Cache} (h_p0 : ok_lru_Cache I p0 w_p0) (hS : St E w I ((one b_p0 (.cells (cs_lru_Cache p0 w_p0).toArray 68 (0, 0))) :: (w_p0.at_.C) :: Os)) {r : lru_Cache} (hr : lru_Cache_join p0 p1 p2 = some r) :
    Calls P 35 #[(.pointer (some ⟨b_p0, 0, none⟩)), (.agg (cs_lru_Entry p1).toArray), (.agg (cs_lru_Entry p2).toArray)] w (fun e w' => ∃ (I' : Mem) (w_rp0 : W_lru_Cache), e = .returned (.tuple #[]) ∧ I.Le I' ∧ St E w' I' ((one b_p0 (.cells (cs_lru_Cache r w_rp0).toArray 68 (0, 0))) :: w_rp0.at_.C :: Os) ∧ ok_lru_Cache I' r w_rp0) := by
  refine calls_W (args := [(.pointer (some ⟨b_p0, 0, none⟩)), (.agg (cs_lru_Entry p1).toArray), (.agg (cs_lru_Entry p2).toArray)]) (fn := Try.f35) rfl rfl rfl ?_
  unfold lru_Cache_join at hr
  refine W.seq ?_
  refine W.region (l := [0, 1]) (by kernel_rfl) ?_
  refine WO.new hS rfl (by kernel_rfl) rfl (.cells (cs_lru_Entry p1).toArray 74 (0, 0)) (fun b => .pointer (some ⟨b, 0, none⟩)) (by kernel_rfl) (fun _ _ _ => trivial) ?_
  intro b1 w4 hS3
  refine WO.new hS3 rfl (by kernel_rfl) rfl (.cells (cs_lru_Entry p2).toArray 74 (0, 0)) (fun b => .pointer (some ⟨b, 0, none⟩)) (by kernel_rfl) (fun _ _ _ => trivial) ?_
  intro b5 w8 hS7
  refine WO.nil ?_
  refine En.next ?_
  refine W.seq ?_
  have hS9 := hS7.drew
  refine W.draw (l := [0, 1, 2, 3, 4, 5, 6, 7]) (by kernel_rfl) 7 (KR I [one b1 (.cells (cs_lru_Entry p1).toArray 74 (0, 0)), one b_p0 (.cells (cs_lru_Cache p0 w_p0).toArray 68 (0, 0)), w_p0.at_.C]) qR (.back (by kernel_rfl)) (by kernel_rfl) (KR.cons (hS9.rd (List.Mem.tail _ (List.Mem.head _))) (KR.cons (hS9.rd (List.Mem.tail _ (List.Mem.tail _ (List.Mem.head _)))) (KR.cons (hS9.rd (List.Mem.tail _ (List.Mem.tail _ (List.Mem.tail _ (List.Mem.head _))))) (KR.nil hS9.im)))) ?_
  generalize World.drew _ = w10 at *
  refine WO.vals [(0, 8, (.pointer (some ⟨b_p0, 0, none⟩))), (1, 9, (.pointer (some ⟨b_p0, 0, none⟩))), (2, 10, (.pointer (some ⟨b_p0, 0, none⟩)))] (by kernel_rfl) (fun _ => by kernel_rfl) ?_
  refine WO.load rfl (by kernel_rfl) (by kernel_rfl) rfl (v := (.map (some w_p0.at_.m))) (fun w' hw' => cell_one ((rd_c (List.Mem.tail _ (List.Mem.head _)) (hS9.rd (List.Mem.tail _ (List.Mem.tail _ (List.Mem.head _))))) w' hw') (by kernel_rfl)) ?_
  refine WO.loadN rfl (by kernel_rfl) (by kernel_rfl) rfl ((cs_lru_Entry p1)) (by kernel_rfl) (fun w' hw' => cells_one ((rd_c (List.Mem.head _) (hS9.rd (List.Mem.tail _ (List.Mem.head _)))) w' hw') (by kernel_rfl)) ?_
  obtain ⟨x11, hx_x11, hr⟩ := bind_some hr
  obtain ⟨v_x11, hv_x11, hq_x11⟩ := OwnMap.lookup h_p0.at_ (t := 66) (kt := 74) (et := 76) (by kernel_rfl) key_lru_Entry p1 (zv := (.agg (cs_lru_link z_lru_link zw_lru_link).toArray)) (z0 := z_lru_link) (by kernel_rfl) ⟨(cs_lru_link z_lru_link zw_lru_link), rfl, ⟨zw_lru_link, rfl, zok_lru_link⟩⟩
  rw [Option.some.inj hx_x11] at hv_x11
  obtain ⟨_, rfl, hv_x11⟩ := hv_x11
  obtain ⟨w_x11, rfl, h_x11⟩ := hv_x11
  refine WO.lookup rfl (by kernel_rfl) rfl rfl hq_x11 ((rd_c (List.Mem.tail _ (List.Mem.tail _ (List.Mem.head _))) (hS9.rd (List.Mem.tail _ (List.Mem.tail _ (List.Mem.tail _ (List.Mem.head _))))))) (.agg (cs_lru_link x11 w_x11).toArray) rfl ?_
  refine WO.new hS9 rfl (by kernel_rfl) rfl (.cells (cs_lru_link z_lru_link zw_lru_link).toArray 76 (0, 0)) (fun b => .pointer (some ⟨b, 0, none⟩)) (by kernel_rfl) (fun b12 w15 hS14 => (KR.cons (hS14.rd (List.Mem.tail _ (List.Mem.tail _ (List.Mem.head _)))) (KR.cons (hS14.rd (List.Mem.tail _ (List.Mem.tail _ (List.Mem.tail _ (List.Mem.head _))))) (KR.cons (hS14.rd (List.Mem.tail _ (List.Mem.tail _ (List.Mem.tail _ (List.Mem.tail _ (List.Mem.head _)))))) (KR.nil hS14.im))))) ?_
  intro b12 w15 hS14
  refine WO.tail rfl ?_
  refine WO.storeBox hS14 rfl (by kernel_rfl) rfl 0 rfl rfl (by kernel_rfl) (all_one (rel := R_lru_link) (I := I) (x := x11) ⟨w_x11, rfl, h_x11⟩) (by kernel_rfl) ((cs_lru_link x11 w_x11).toArray) (by kernel_rfl) (fun _ _ => trivial) ?_
  intro w17 hS16
  refine WO.nil ?_
  refine En.next ?_
  refine W.seq ?_
  refine W.region (l := [0, 1, 2]) (by kernel_rfl) ?_
  refine WO.loadN rfl (by kernel_rfl) (by kernel_rfl) rfl ((cs_lru_Entry p2)) (by kernel_rfl) (fun w' hw' => cells_one ((rd_f (hS16.rd (List.Mem.tail _ (List.Mem.head _)))) w' hw') (by kernel_rfl)) ?_
  refine WO.vals [(1, 15, (.pointer (some ⟨b12, 43, none⟩)))] (by kernel_rfl) (fun _ => by kernel_rfl) ?_
  refine WO.storeBox hS16 rfl (by kernel_rfl) rfl 43 rfl rfl (by kernel_rfl) (by kernel_rfl) (by kernel_rfl) ((cs_lru_link ({ x11 with behind := p2 }) w_x11).toArray) (by kernel_rfl) (fun _ _ => trivial) ?_
  intro w19 hS18
  refine WO.nil ?_
  refine En.next ?_
  refine W.seq ?_
  have hS20 := hS18.drew
  refine W.draw (l := [0, 1, 2, 3, 4, 5, 6]) (by kernel_rfl) 6 (KR I [one b12 (.cells (cs_lru_link ({ x11 with behind := p2 }) w_x11).toArray 76 (0, 0)), one b1 (.cells (cs_lru_Entry p1).toArray 74 (0, 0)), one b_p0 (.cells (cs_lru_Cache p0 w_p0).toArray 68 (0, 0))]) qR (.back (by kernel_rfl)) (by kernel_rfl) (KR.cons (hS20.rd (List.Mem.head _)) (KR.cons (hS20.rd (List.Mem.tail _ (List.Mem.tail _ (List.Mem.head _)))) (KR.cons (hS20.rd (List.Mem.tail _ (List.Mem.tail _ (List.Mem.tail _ (List.Mem.head _))))) (KR.nil hS20.im)))) ?_
  generalize World.drew _ = w21 at *
  refine WO.vals [(0, 16, (.pointer (some ⟨b_p0, 0, none⟩))), (1, 17, (.pointer (some ⟨b_p0, 0, none⟩))), (2, 18, (.pointer (some ⟨b_p0, 0, none⟩)))] (by kernel_rfl) (fun _ => by kernel_rfl) ?_
  refine WO.load rfl (by kernel_rfl) (by kernel_rfl) rfl (v := (.map (some w_p0.at_.m))) (fun w' hw' => cell_one ((rd_c (List.Mem.tail _ (List.Mem.tail _ (List.Mem.head _))) (hS20.rd (List.Mem.tail _ (List.Mem.tail _ (List.Mem.tail _ (List.Mem.head _)))))) w' hw') (by kernel_rfl)) ?_
  refine WO.loadN rfl (by kernel_rfl) (by kernel_rfl) rfl ((cs_lru_Entry p1)) (by kernel_rfl) (fun w' hw' => cells_one ((rd_c (List.Mem.tail _ (List.Mem.head _)) (hS20.rd (List.Mem.tail _ (List.Mem.tail _ (List.Mem.head _))))) w' hw') (by kernel_rfl)) ?_
  refine WO.loadN rfl (by kernel_rfl) (by kernel_rfl) rfl ((cs_lru_link ({ x11 with behind := p2 }) w_x11)) (by kernel_rfl) (fun w' hw' => cells_one ((rd_c (List.Mem.head _) (hS20.rd (List.Mem.head _))) w' hw') (by kernel_rfl)) ?_
  refine WO.tail rfl ?_
  have hS22 := hS20.front4
  have hk23 : ok_lru_link I ({ x11 with behind := p2 }) w_x11 := ⟨h_x11.p⟩
  refine WO.update h_p0.at_ hS22 (t := 66) (kt := 74) (et := 76) (by kernel_rfl) key_lru_Entry rfl (by kernel_rfl) rfl (.inl rfl) rfl p1 rfl rfl (xv := ({ x11 with behind := p2 })) ⟨(cs_lru_link ({ x11 with behind := p2 }) w_x11), rfl, ⟨w_x11, rfl, hk23⟩⟩ (fun _ _ _ => trivial) ?_
  intro w26 C24 hS25 hm27
  refine WO.nil ?_
  refine En.next ?_
  refine W.seq ?_
  have hS28 := hS25.drew
  refine W.draw (l := [0, 1, 2, 3, 4, 5, 6, 7]) (by kernel_rfl) 7 (KR I [C24, one b5 (.cells (cs_lru_Entry p2).toArray 74 (0, 0)), one b_p0 (.cells (cs_lru_Cache ({ p0 with at_ := (mset eq_lru_Entry p0.at_ p1 ({ x11 with behind := p2 })) }) (⟨⟨w_p0.at_.m, C24⟩⟩ : W_lru_Cache)).toArray 68 (0, 0))]) qR (.back (by kernel_rfl)) (by kernel_rfl) (KR.cons (hS28.rd (List.Mem.head _)) (KR.cons (hS28.rd (List.Mem.tail _ (List.Mem.tail _ (List.Mem.head _)))) (KR.cons (hS28.rd (List.Mem.tail _ (List.Mem.tail _ (List.Mem.tail _ (List.Mem.tail _ (List.Mem.head _)))))) (KR.nil hS28.im)))) ?_
  generalize World.drew _ = w29 at *
  refine WO.vals [(0, 22, (.pointer (some ⟨b_p0, 0, none⟩))), (1, 23, (.pointer (some ⟨b_p0, 0, none⟩))), (2, 24, (.pointer (some ⟨b_p0, 0, none⟩)))] (by kernel_rfl) (fun _ => by kernel_rfl) ?_
  refine WO.load rfl (by kernel_rfl) (by kernel_rfl) rfl (v := (.map (some w_p0.at_.m))) (fun w' hw' => cell_one ((rd_c (List.Mem.tail _ (List.Mem.tail _ (List.Mem.head _))) (hS28.rd (List.Mem.tail _ (List.Mem.tail _ (List.Mem.tail _ (List.Mem.tail _ (List.Mem.head _))))))) w' hw') (by kernel_rfl)) ?_
  refine WO.loadN rfl (by kernel_rfl) (by kernel_rfl) rfl ((cs_lru_Entry p2)) (by kernel_rfl) (fun w' hw' => cells_one ((rd_c (List.Mem.tail _ (List.Mem.head _)) (hS28.rd (List.Mem.tail _ (List.Mem.tail _ (List.Mem.head _))))) w' hw') (by kernel_rfl)) ?_
  obtain ⟨x30, hx_x30, hr⟩ := bind_some hr
  obtain ⟨v_x30, hv_x30, hq_x30⟩ := OwnMap.lookup hm27 (t := 66) (kt := 74) (et := 76) (by kernel_rfl) key_lru_Entry p2 (zv := (.agg (cs_lru_link z_lru_link zw_lru_link).toArray)) (z0 := z_lru_link) (by kernel_rfl) ⟨(cs_lru_link z_lru_link zw_lru_link), rfl, ⟨zw_lru_link, rfl, zok_lru_link⟩⟩
  rw [Option.some.inj hx_x30] at hv_x30
  obtain ⟨_, rfl, hv_x30⟩ := hv_x30
  obtain ⟨w_x30, rfl, h_x30⟩ := hv_x30
  refine WO.lookup rfl (by kernel_rfl) rfl rfl hq_x30 ((rd_c (List.Mem.head _) (hS28.rd (List.Mem.head _)))) (.agg (cs_lru_link x30 w_x30).toArray) rfl ?_
  refine WO.new hS28 rfl (by kernel_rfl) rfl (.cells (cs_lru_link z_lru_link zw_lru_link).toArray 76 (0, 0)) (fun b => .pointer (some ⟨b, 0, none⟩)) (by kernel_rfl) (fun b31 w34 hS33 => (KR.cons (hS33.rd (List.Mem.tail _ (List.Mem.head _))) (KR.cons (hS33.rd (List.Mem.tail _ (List.Mem.tail _ (List.Mem.tail _ (List.Mem.head _))))) (KR.cons (hS33.rd (List.Mem.tail _ (List.Mem.tail _ (List.Mem.tail _ (List.Mem.tail _ (List.Mem.tail _ (List.Mem.head _))))))) (KR.nil hS33.im))))) ?_
  intro b31 w34 hS33
  refine WO.tail rfl ?_
  refine WO.storeBox hS33 rfl (by kernel_rfl) rfl 0 rfl rfl (by kernel_rfl) (all_one (rel := R_lru_link) (I := I) (x := x30) ⟨w_x30, rfl, h_x30⟩) (by kernel_rfl) ((cs_lru_link x30 w_x30).toArray) (by kernel_rfl) (fun _ _ => trivial) ?_
  intro w36 hS35
  refine WO.nil ?_
  refine En.next ?_
  refine W.seq ?_
  refine W.region (l := [0, 1, 2]) (by kernel_rfl) ?_
  refine WO.loadN rfl (by kernel_rfl) (by kernel_rfl) rfl ((cs_lru_Entry p1)) (by kernel_rfl) (fun w' hw' => cells_one ((rd_f (hS35.rd (List.Mem.tail _ (List.Mem.tail _ (List.Mem.tail _ (List.Mem.tail _ (List.Mem.head _))))))) w' hw') (by kernel_rfl)) ?_
  refine WO.vals [(1, 29, (.pointer (some ⟨b31, 41, none⟩)))] (by kernel_rfl) (fun _ => by kernel_rfl) ?_
  refine WO.storeBox hS35 rfl (by kernel_rfl) rfl 41 rfl rfl (by kernel_rfl) (by kernel_rfl) (by kernel_rfl) ((cs_lru_link ({ x30 with ahead := p1 }) w_x30).toArray) (by kernel_rfl) (fun _ _ => trivial) ?_
  intro w38 hS37
  refine WO.nil ?_
  refine En.next ?_
  have hS39 := hS37.drew
  refine W.draw (l := [0, 1, 2, 3, 4, 5, 6]) (by kernel_rfl) 6 (KR I [one b31 (.cells (cs_lru_link ({ x30 with ahead := p1 }) w_x30).toArray 76 (0, 0)), one b5 (.cells (cs_lru_Entry p2).toArray 74 (0, 0)), one b_p0 (.cells (cs_lru_Cache ({ p0 with at_ := (mset eq_lru_Entry p0.at_ p1 ({ x11 with behind := p2 })) }) (⟨⟨w_p0.at_.m, C24⟩⟩ : W_lru_Cache)).toArray 68 (0, 0))]) qR (.back (by kernel_rfl)) (by kernel_rfl) (KR.cons (hS39.rd (List.Mem.head _)) (KR.cons (hS39.rd (List.Mem.tail _ (List.Mem.tail _ (List.Mem.tail _ (List.Mem.head _))))) (KR.cons (hS39.rd (List.Mem.tail _ (List.Mem.tail _ (List.Mem.tail _ (List.Mem.tail _ (List.Mem.tail _ (List.Mem.head _))))))) (KR.nil hS39.im)))) ?_
  generalize World.drew _ = w40 at *
  refine WO.vals [(0, 30, (.pointer (some ⟨b_p0, 0, none⟩))), (1, 31, (.pointer (some ⟨b_p0, 0, none⟩))), (2, 32, (.pointer (some ⟨b_p0, 0, none⟩)))] (by kernel_rfl) (fun _ => by kernel_rfl) ?_
  refine WO.load rfl (by kernel_rfl) (by kernel_rfl) rfl (v := (.map (some w_p0.at_.m))) (fun w' hw' => cell_one ((rd_c (List.Mem.tail _ (List.Mem.tail _ (List.Mem.head _))) (hS39.rd (List.Mem.tail _ (List.Mem.tail _ (List.Mem.tail _ (List.Mem.tail _ (List.Mem.tail _ (List.Mem.head _)))))))) w' hw') (by kernel_rfl)) ?_
  refine WO.loadN rfl (by kernel_rfl) (by kernel_rfl) rfl ((cs_lru_Entry p2)) (by kernel_rfl) (fun w' hw' => cells_one ((rd_c (List.Mem.tail _ (List.Mem.head _)) (hS39.rd (List.Mem.tail _ (List.Mem.tail _ (List.Mem.tail _ (List.Mem.head _)))))) w' hw') (by kernel_rfl)) ?_
  refine WO.loadN rfl (by kernel_rfl) (by kernel_rfl) rfl ((cs_lru_link ({ x30 with ahead := p1 }) w_x30)) (by kernel_rfl) (fun w' hw' => cells_one ((rd_c (List.Mem.head _) (hS39.rd (List.Mem.head _))) w' hw') (by kernel_rfl)) ?_
  refine WO.tail rfl ?_
  have hS41 := hS39.front1
  have hk42 : ok_lru_link I ({ x30 with ahead := p1 }) w_x30 := ⟨h_x30.p⟩
  refine WO.update hm27 hS41 (t := 66) (kt := 74) (et := 76) (by kernel_rfl) key_lru_Entry rfl (by kernel_rfl) rfl (.inl rfl) rfl p2 rfl rfl (xv := ({ x30 with ahead := p1 })) ⟨(cs_lru_link ({ x30 with ahead := p1 }) w_x30), rfl, ⟨w_x30, rfl, hk42⟩⟩ (fun _ _ _ => trivial) ?_
  intro w45 C43 hS44 hm46
  refine WO.nil ?_
  refine En.toRet ?_
  have hS47 := hS44.front1
  have hS48 := hS47.drop
  have hS49 := hS48.front1
  have hS50 := hS49.drop
  have hS51 := hS50.front1
  have hS52 := hS51.drop
  have hS53 := hS52.front1
  have hS54 := hS53.drop
  have hS55 := hS54.front1
  have hk56 : ok_lru_Cache I ({ p0 with at_ := (mset eq_lru_Entry (mset eq_lru_Entry p0.at_ p1 ({ x11 with behind := p2 })) p2 ({ x30 with ahead := p1 })) }) (⟨⟨w_p0.at_.m, C43⟩⟩ : W_lru_Cache) := ⟨hm46⟩
  have he := Option.some.inj hr
  subst r
  exact En.ret0 rfl ⟨I, (⟨⟨w_p0.at_.m, C43⟩⟩ : W_lru_Cache), rfl, Mem.Le.refl _, hS55, hk56⟩
def lru_Cache_cut (p0 : lru_Cache) (p1 : lru_Entry) : Option lru_Cache := (some ((mget eq_lru_Entry p0.at_ p1).getD z_lru_link)).bind (fun (x7 : lru_link) => (lru_Cache_join p0 x7.ahead x7.behind).bind (fun (r21 : lru_Cache) => some r21))
set_option maxHeartbeats 1000000 in
theorem lru_Cache_cut_ok {E w : World} {I : Mem} {Os : List Mem} {p0 : lru_Cache} {p1 : lru_Entry} {b_p0 : Nat} {w_p0 : W_lru_Cache} (h_p0 : ok_lru_Cache I p0 w_p0) (hS : St E w I ((one b_p0 (.cells (cs_lru_Cache p0 w_p0).toArray 68 (0, 0))) :: (w_p0.at_.C) :: Os)) {r : lru_Cache} (hr : lru_Cache_cut p0 p1 = some r) :
    Calls P 28 #[(.pointer (some ⟨b_p0, 0, none⟩)), (.agg (cs_lru_Entry p1).toArray)] w (fun e w' => ∃ (I' : Mem) (w_rp0 : W_lru_Cache), e = .returned (.tuple #[]) ∧ I.Le I' ∧ St E w' I' ((one b_p0 (.cells (cs_lru_Cache r w_rp0).toArray 68 (0, 0))) :: w_rp0.at_.C :: Os) ∧ ok_lru_Cache I' r w_rp0) := by
  refine calls_W (args := [(.pointer (some ⟨b_p0, 0, none⟩)), (.agg (cs_lru_Entry p1).toArray)]) (fn := Try.f28) rfl rfl rfl ?_
  unfold lru_Cache_cut at hr
  refine W.seq ?_
  refine W.region (l := [0]) (by kernel_rfl) ?_
  refine WO.new hS rfl (by kernel_rfl) rfl (.cells (cs_lru_Entry p1).toArray 74 (0, 0)) (fun b => .pointer (some ⟨b, 0, none⟩)) (by kernel_rfl) (fun _ _ _ => trivial) ?_
  intro b1 w4 hS3
  refine WO.nil ?_
  refine En.next ?_
  refine W.seq ?_
  have hS5 := hS3.drew
  refine W.draw (l := [0, 1, 2, 3, 4, 5, 6, 7]) (by kernel_rfl) 7 (KR I [one b1 (.cells (cs_lru_Entry p1).toArray 74 (0, 0)), one b_p0 (.cells (cs_lru_Cache p0 w_p0).toArray 68 (0, 0)), w_p0.at_.C]) qR (.back (by kernel_rfl)) (by kernel_rfl) (KR.cons (hS5.rd (List.Mem.head _)) (KR.cons (hS5.rd (List.Mem.tail _ (List.Mem.head _))) (KR.cons (hS5.rd (List.Mem.tail _ (List.Mem.tail _ (List.Mem.head _)))) (KR.nil hS5.im)))) ?_
  generalize World.drew _ = w6 at *
  refine WO.vals [(0, 5, (.pointer (some ⟨b_p0, 0, none⟩))), (1, 6, (.pointer (some ⟨b_p0, 0, none⟩))), (2, 7, (.pointer (some ⟨b_p0, 0, none⟩)))] (by kernel_rfl) (fun _ => by kernel_rfl) ?_
  refine WO.load rfl (by kernel_rfl) (by kernel_rfl) rfl (v := (.map (some w_p0.at_.m))) (fun w' hw' => cell_one ((rd_c (List.Mem.tail _ (List.Mem.head _)) (hS5.rd (List.Mem.tail _ (List.Mem.head _)))) w' hw') (by kernel_rfl)) ?_
  refine WO.loadN rfl (by kernel_rfl) (by kernel_rfl) rfl ((cs_lru_Entry p1)) (by kernel_rfl) (fun w' hw' => cells_one ((rd_c (List.Mem.head _) (hS5.rd (List.Mem.head _))) w' hw') (by kernel_rfl)) ?_
  obtain ⟨x7, hx_x7, hr⟩ := bind_some hr
  obtain ⟨v_x7, hv_x7, hq_x7⟩ := OwnMap.lookup h_p0.at_ (t := 66) (kt := 74) (et := 76) (by kernel_rfl) key_lru_Entry p1 (zv := (.agg (cs_lru_link z_lru_link zw_lru_link).toArray)) (z0 := z_lru_link) (by kernel_rfl) ⟨(cs_lru_link z_lru_link zw_lru_link), rfl, ⟨zw_lru_link, rfl, zok_lru_link⟩⟩
  rw [Option.some.inj hx_x7] at hv_x7
  obtain ⟨_, rfl, hv_x7⟩ := hv_x7
  obtain ⟨w_x7, rfl, h_x7⟩ := hv_x7
  refine WO.lookup rfl (by kernel_rfl) rfl rfl hq_x7 ((rd_c (List.Mem.tail _ (List.Mem.tail _ (List.Mem.head _))) (hS5.rd (List.Mem.tail _ (List.Mem.tail _ (List.Mem.head _)))))) (.agg (cs_lru_link x7 w_x7).toArray) rfl ?_
  refine WO.new hS5 rfl (by kernel_rfl) rfl (.cells (cs_lru_link z_lru_link zw_lru_link).toArray 76 (0, 0)) (fun b => .pointer (some ⟨b, 0, none⟩)) (by kernel_rfl) (fun b8 w11 hS10 => (KR.cons (hS10.rd (List.Mem.tail _ (List.Mem.head _))) (KR.cons (hS10.rd (List.Mem.tail _ (List.Mem.tail _ (List.Mem.head _)))) (KR.cons (hS10.rd (List.Mem.tail _ (List.Mem.tail _ (List.Mem.tail _ (List.Mem.head _))))) (KR.nil hS10.im))))) ?_
  intro b8 w11 hS10
  refine WO.tail rfl ?_
  refine WO.storeBox hS10 rfl (by kernel_rfl) rfl 0 rfl rfl (by kernel_rfl) (all_one (rel := R_lru_link) (I := I) (x := x7) ⟨w_x7, rfl, h_x7⟩) (by kernel_rfl) ((cs_lru_link x7 w_x7).toArray) (by kernel_rfl) (fun _ _ => trivial) ?_
  intro w13 hS12
  refine WO.nil ?_
  refine En.next ?_
  refine W.region (l := [0, 1, 2, 3, 4, 5]) (by kernel_rfl) ?_
  refine WO.vals [(0, 11, (.pointer (some ⟨b_p0, 0, none⟩))), (1, 12, (.pointer (some ⟨b8, 41, none⟩)))] (by kernel_rfl) (fun _ => by kernel_rfl) ?_
  refine WO.loadN rfl (by kernel_rfl) (by kernel_rfl) rfl ((cs_lru_Entry x7.ahead)) (by kernel_rfl) (fun w' hw' => cells_one ((rd_f (hS12.rd (List.Mem.head _))) w' hw') (by kernel_rfl)) ?_
  refine WO.vals [(3, 14, (.pointer (some ⟨b8, 43, none⟩)))] (by kernel_rfl) (fun _ => by kernel_rfl) ?_
  refine WO.loadN rfl (by kernel_rfl) (by kernel_rfl) rfl ((cs_lru_Entry x7.behind)) (by kernel_rfl) (fun w' hw' => cells_one ((rd_f (hS12.rd (List.Mem.head _))) w' hw') (by kernel_rfl)) ?_
  have hS14 := hS12.front3
  have hS15 := hS14.front3
  obtain ⟨r21, hx_r16, hr⟩ := bind_some hr
  refine WO.call rfl (by kernel_rfl) rfl (f := 35) (args := #[(.pointer (some ⟨b_p0, 0, none⟩)), (.agg (cs_lru_Entry x7.ahead).toArray), (.agg (cs_lru_Entry x7.behind).toArray)]) (by kernel_rfl) (lru_Cache_join_ok h_p0 hS15 hx_r16) ?_
  rintro _ w17 ⟨I18, w_r21, rfl, hl19, hS20, h_r21⟩
  refine ⟨_, rfl, trivial, ?_⟩
  refine WO.nil ?_
  refine En.toRet ?_
  have hS22 := hS20.front2
  have hS23 := hS22.drop
  have hS24 := hS23.front2
  have hS25 := hS24.drop
  have he := Option.some.inj hr
  subst r
  exact En.ret0 rfl ⟨I18, w_r21, rfl, hl19, hS25, h_r21⟩
def lru_Cache_gone (p0 : lru_Cache) (p1 : lru_Entry) : Option lru_Cache := (lru_Cache_cut p0 p1).bind (fun (r12 : lru_Cache) => some { r12 with at_ := (mdel eq_lru_Entry r12.at_ p1) })
set_option maxHeartbeats 1000000 in
theorem lru_Cache_gone_ok {E w : World} {I : Mem} {Os : List Mem} {p0 : lru_Cache} {p1 : lru_Entry} {b_p0 : Nat} {w_p0 : W_lru_Cache} (h_p0 : ok_lru_Cache I p0 w_p0) (hS : St E w I ((one b_p0 (.cells (cs_lru_Cache p0 w_p0).toArray 68 (0, 0))) :: (w_p0.at_.C) :: Os)) {r : lru_Cache} (hr : lru_Cache_gone p0 p1 = some r) :
    Calls P 26 #[(.pointer (some ⟨b_p0, 0, none⟩)), (.agg (cs_lru_Entry p1).toArray)] w (fun e w' => ∃ (I' : Mem) (w_rp0 : W_lru_Cache), e = .returned (.tuple #[]) ∧ I.Le I' ∧ St E w' I' ((one b_p0 (.cells (cs_lru_Cache r w_rp0).toArray 68 (0, 0))) :: w_rp0.at_.C :: Os) ∧ ok_lru_Cache I' r w_rp0) := by
  refine calls_W (args := [(.pointer (some ⟨b_p0, 0, none⟩)), (.agg (cs_lru_Entry p1).toArray)]) (fn := Try.f26) rfl rfl rfl ?_
  unfold lru_Cache_gone at hr
  refine W.seq ?_
  refine W.region (l := [0]) (by kernel_rfl) ?_
  refine WO.new hS rfl (by kernel_rfl) rfl (.cells (cs_lru_Entry p1).toArray 74 (0, 0)) (fun b => .pointer (some ⟨b, 0, none⟩)) (by kernel_rfl) (fun _ _ _ => trivial) ?_
  intro b1 w4 hS3
  refine WO.nil ?_
  refine En.next ?_
  refine W.seq ?_
  refine W.region (l := [0, 1, 2]) (by kernel_rfl) ?_
  refine WO.vals [(0, 4, (.pointer (some ⟨b_p0, 0, none⟩)))] (by kernel_rfl) (fun _ => by kernel_rfl) ?_
  refine WO.loadN rfl (by kernel_rfl) (by kernel_rfl) rfl ((cs_lru_Entry p1)) (by kernel_rfl) (fun w' hw' => cells_one ((rd_f (hS3.rd (List.Mem.head _))) w' hw') (by kernel_rfl)) ?_
  have hS5 := hS3.front2
  have hS6 := hS5.front2
  obtain ⟨r12, hx_r7, hr⟩ := bind_some hr
  refine WO.call rfl (by kernel_rfl) rfl (f := 28) (args := #[(.pointer (some ⟨b_p0, 0, none⟩)), (.agg (cs_lru_Entry p1).toArray)]) (by kernel_rfl) (lru_Cache_cut_ok h_p0 hS6 hx_r7) ?_
  rintro _ w8 ⟨I9, w_r12, rfl, hl10, hS11, h_r12⟩
  refine ⟨_, rfl, trivial, ?_⟩
  refine WO.nil ?_
  refine En.next ?_
  have hS13 := hS11.drew
  refine W.draw (l := [0, 1, 2, 3, 4, 5]) (by kernel_rfl) 5 (KR I9 [one b_p0 (.cells (cs_lru_Cache r12 w_r12).toArray 68 (0, 0)), one b1 (.cells (cs_lru_Entry p1).toArray 74 (0, 0))]) qR (.back (by kernel_rfl)) (by kernel_rfl) (KR.cons (hS13.rd (List.Mem.head _)) (KR.cons (hS13.rd (List.Mem.tail _ (List.Mem.tail _ (List.Mem.head _)))) (KR.nil hS13.im))) ?_
  generalize World.drew _ = w14 at *
  refine WO.vals [(0, 7, (.pointer (some ⟨b_p0, 0, none⟩))), (1, 8, (.pointer (some ⟨b_p0, 0, none⟩))), (2, 9, (.pointer (some ⟨b_p0, 0, none⟩)))] (by kernel_rfl) (fun _ => by kernel_rfl) ?_
  refine WO.load rfl (by kernel_rfl) (by kernel_rfl) rfl (v := (.map (some w_r12.at_.m))) (fun w' hw' => cell_one ((rd_c (List.Mem.head _) (hS13.rd (List.Mem.head _))) w' hw') (by kernel_rfl)) ?_
  refine WO.loadN rfl (by kernel_rfl) (by kernel_rfl) rfl ((cs_lru_Entry p1)) (by kernel_rfl) (fun w' hw' => cells_one ((rd_c (List.Mem.tail _ (List.Mem.head _)) (hS13.rd (List.Mem.tail _ (List.Mem.tail _ (List.Mem.head _))))) w' hw') (by kernel_rfl)) ?_
  refine WO.tail rfl ?_
  have hS15 := hS13.front1
  refine WO.delete h_r12.at_ hS15 (t := 66) (kt := 74) (et := 76) (by kernel_rfl) key_lru_Entry rfl (by kernel_rfl) rfl rfl p1 rfl (fun _ _ _ => trivial) ?_
  intro w18 C16 hS17 hm19
  refine WO.nil ?_
  refine En.toRet ?_
  have hS20 := hS17.front2
  have hS21 := hS20.drop
  have hS22 := hS21.front1
  have hk23 : ok_lru_Cache I9 ({ r12 with at_ := (mdel eq_lru_Entry r12.at_ p1) }) (⟨⟨w_r12.at_.m, C16⟩⟩ : W_lru_Cache) := ⟨hm19⟩
  have he := Option.some.inj hr
  subst r
  exact En.ret0 rfl ⟨I9, (⟨⟨w_r12.at_.m, C16⟩⟩ : W_lru_Cache), rfl, hl10, hS22, hk23⟩
def lru_Cache_lead (p0 : lru_Cache) (p1 : lru_Entry) : Option lru_Cache := (some ((mget eq_lru_Entry p0.at_ z_lru_Entry).getD z_lru_link)).bind (fun (x5 : lru_link) => (lru_Cache_join p0 z_lru_Entry p1).bind (fun (r19 : lru_Cache) => (lru_Cache_join r19 p1 x5.behind).bind (fun (r27 : lru_Cache) => some r27)))
set_option maxHeartbeats 1000000 in
theorem lru_Cache_lead_ok {E w : World} {I : Mem} {Os : List Mem} {p0 : lru_Cache} {p1 : lru_Entry} {b_p0 : Nat} {w_p0 : W_lru_Cache} (h_p0 : ok_lru_Cache I p0 w_p0) (hS : St E w I ((one b_p0 (.cells (cs_lru_Cache p0 w_p0).toArray 68 (0, 0))) :: (w_p0.at_.C) :: Os)) {r : lru_Cache} (hr : lru_Cache_lead p0 p1 = some r) :
    Calls P 27 #[(.pointer (some ⟨b_p0, 0, none⟩)), (.agg (cs_lru_Entry p1).toArray)] w (fun e w' => ∃ (I' : Mem) (w_rp0 : W_lru_Cache), e = .returned (.tuple #[]) ∧ I.Le I' ∧ St E w' I' ((one b_p0 (.cells (cs_lru_Cache r w_rp0).toArray 68 (0, 0))) :: w_rp0.at_.C :: Os) ∧ ok_lru_Cache I' r w_rp0) := by
  refine calls_W (args := [(.pointer (some ⟨b_p0, 0, none⟩)), (.agg (cs_lru_Entry p1).toArray)]) (fn := Try.f27) rfl rfl rfl ?_
  unfold lru_Cache_lead at hr
  refine W.seq ?_
  refine W.region (l := [0]) (by kernel_rfl) ?_
  refine WO.new hS rfl (by kernel_rfl) rfl (.cells (cs_lru_Entry p1).toArray 74 (0, 0)) (fun b => .pointer (some ⟨b, 0, none⟩)) (by kernel_rfl) (fun _ _ _ => trivial) ?_
  intro b1 w4 hS3
  refine WO.nil ?_
  refine En.next ?_
  refine W.seq ?_
  refine W.region (l := [0, 1, 2, 3, 4, 5, 6, 7, 8]) (by kernel_rfl) ?_
  refine WO.vals [(0, 5, (.pointer (some ⟨b_p0, 0, none⟩))), (1, 6, (.pointer (some ⟨b_p0, 0, none⟩))), (2, 7, (.pointer (some ⟨b_p0, 0, none⟩)))] (by kernel_rfl) (fun _ => by kernel_rfl) ?_
  refine WO.load rfl (by kernel_rfl) (by kernel_rfl) rfl (v := (.map (some w_p0.at_.m))) (fun w' hw' => cell_one ((rd_f (hS3.rd (List.Mem.tail _ (List.Mem.head _)))) w' hw') (by kernel_rfl)) ?_
  refine WO.vals [(4, 9, (.agg (cs_lru_Entry z_lru_Entry).toArray))] (by kernel_rfl) (fun _ => by kernel_rfl) ?_
  obtain ⟨x5, hx_x5, hr⟩ := bind_some hr
  obtain ⟨v_x5, hv_x5, hq_x5⟩ := OwnMap.lookup h_p0.at_ (t := 66) (kt := 74) (et := 76) (by kernel_rfl) key_lru_Entry z_lru_Entry (zv := (.agg (cs_lru_link z_lru_link zw_lru_link).toArray)) (z0 := z_lru_link) (by kernel_rfl) ⟨(cs_lru_link z_lru_link zw_lru_link), rfl, ⟨zw_lru_link, rfl, zok_lru_link⟩⟩
  rw [Option.some.inj hx_x5] at hv_x5
  obtain ⟨_, rfl, hv_x5⟩ := hv_x5
  obtain ⟨w_x5, rfl, h_x5⟩ := hv_x5
  refine WO.lookup rfl (by kernel_rfl) rfl rfl hq_x5 ((rd_f (hS3.rd (List.Mem.tail _ (List.Mem.tail _ (List.Mem.head _)))))) (.agg (cs_lru_link x5 w_x5).toArray) rfl ?_
  refine WO.vals [(6, 11, (.agg (cs_lru_Entry x5.behind).toArray))] (by kernel_rfl) (fun _ => by kernel_rfl) ?_
  refine WO.new hS3 rfl (by kernel_rfl) rfl (.cells (cs_lru_Entry z_lru_Entry).toArray 74 (0, 0)) (fun b => .pointer (some ⟨b, 0, none⟩)) (by kernel_rfl) (fun _ _ _ => trivial) ?_
  intro b6 w9 hS8
  refine WO.storeBox hS8 rfl (by kernel_rfl) rfl 0 rfl rfl (by kernel_rfl) (by kernel_rfl) (by kernel_rfl) ((cs_lru_Entry x5.behind).toArray) (by kernel_rfl) (fun _ _ => trivial) ?_
  intro w11 hS10
  refine WO.nil ?_
  refine En.next ?_
  refine W.seq ?_
  refine W.region (l := [0, 1, 2, 3]) (by kernel_rfl) ?_
  refine WO.vals [(0, 12, (.pointer (some ⟨b_p0, 0, none⟩))), (1, 13, (.agg (cs_lru_Entry z_lru_Entry).toArray))] (by kernel_rfl) (fun _ => by kernel_rfl) ?_
  refine WO.loadN rfl (by kernel_rfl) (by kernel_rfl) rfl ((cs_lru_Entry p1)) (by kernel_rfl) (fun w' hw' => cells_one ((rd_f (hS10.rd (List.Mem.tail _ (List.Mem.head _)))) w' hw') (by kernel_rfl)) ?_
  have hS12 := hS10.front3
  have hS13 := hS12.front3
  obtain ⟨r19, hx_r14, hr⟩ := bind_some hr
  refine WO.call rfl (by kernel_rfl) rfl (f := 35) (args := #[(.pointer (some ⟨b_p0, 0, none⟩)), (.agg (cs_lru_Entry z_lru_Entry).toArray), (.agg (cs_lru_Entry p1).toArray)]) (by kernel_rfl) (lru_Cache_join_ok h_p0 hS13 hx_r14) ?_
  rintro _ w15 ⟨I16, w_r19, rfl, hl17, hS18, h_r19⟩
  refine ⟨_, rfl, trivial, ?_⟩
  refine WO.nil ?_
  refine En.next ?_
  refine W.region (l := [0, 1, 2, 3]) (by kernel_rfl) ?_
  refine WO.vals [(0, 16, (.pointer (some ⟨b_p0, 0, none⟩)))] (by kernel_rfl) (fun _ => by kernel_rfl) ?_
  refine WO.loadN rfl (by kernel_rfl) (by kernel_rfl) rfl ((cs_lru_Entry p1)) (by kernel_rfl) (fun w' hw' => cells_one ((rd_f (hS18.rd (List.Mem.tail _ (List.Mem.tail _ (List.Mem.tail _ (List.Mem.head _)))))) w' hw') (by kernel_rfl)) ?_
  refine WO.loadN rfl (by kernel_rfl) (by kernel_rfl) rfl ((cs_lru_Entry x5.behind)) (by kernel_rfl) (fun w' hw' => cells_one ((rd_f (hS18.rd (List.Mem.tail _ (List.Mem.tail _ (List.Mem.head _))))) w' hw') (by kernel_rfl)) ?_
  have hS20 := hS18.front1
  have hS21 := hS20.front1
  obtain ⟨r27, hx_r22, hr⟩ := bind_some hr
  refine WO.call rfl (by kernel_rfl) rfl (f := 35) (args := #[(.pointer (some ⟨b_p0, 0, none⟩)), (.agg (cs_lru_Entry p1).toArray), (.agg (cs_lru_Entry x5.behind).toArray)]) (by kernel_rfl) (lru_Cache_join_ok h_r19 hS21 hx_r22) ?_
  rintro _ w23 ⟨I24, w_r27, rfl, hl25, hS26, h_r27⟩
  refine ⟨_, rfl, trivial, ?_⟩
  refine WO.nil ?_
  refine En.toRet ?_
  have hS28 := hS26.front2
  have hS29 := hS28.drop
  have hS30 := hS29.front2
  have hS31 := hS30.drop
  have he := Option.some.inj hr
  subst r
  exact En.ret0 rfl ⟨I24, w_r27, rfl, (hl17.trans hl25), hS31, h_r27⟩
def lru_Cache_Put (p0 : lru_Cache) (p1 : Int) (p2 : ByteArray) (p3 : plan_Plan) : Option (Int × lru_Cache) := (lru_Cache_dead p0).bind (fun (r12 : Bool) => (bif ((decide (p1 < 1)) || (decide (p1 > 8))) then some (2, p0) else (some ((mget eq_lru_Entry p0.at_ (⟨p1, p2⟩ : lru_Entry)).getD z_lru_link)).bind (fun (x25 : lru_link) => ((bif (mhas eq_lru_Entry p0.at_ (⟨p1, p2⟩ : lru_Entry)) then (lru_Cache_gone p0 (⟨p1, p2⟩ : lru_Entry)).bind (fun (r43 : lru_Cache) => some r43) else some p0)).bind (fun (j32 : lru_Cache) => (lru_Cache_lead ({ j32 with at_ := (mset eq_lru_Entry j32.at_ (⟨p1, p2⟩ : lru_Entry) ({ z_lru_link with p := p3 })) }) (⟨p1, p2⟩ : lru_Entry)).bind (fun (r71 : lru_Cache) => ((bif (decide ((r71.at_.length : Int) > (w64 (r71.most + 1)))) then (some ((mget eq_lru_Entry r71.at_ z_lru_Entry).getD z_lru_link)).bind (fun (x78 : lru_link) => (lru_Cache_gone r71 x78.ahead).bind (fun (r86 : lru_Cache) => some r86)) else some r71)).bind (fun (j74 : lru_Cache) => some (0, j74)))))))
set_option maxHeartbeats 1000000 in
theorem lru_Cache_Put_ok {E w : World} {I : Mem} {Os : List Mem} {p0 : lru_Cache} {p1 : Int} {p2 : ByteArray} {p3 : plan_Plan} {b_p0 : Nat} {w_p0 : W_lru_Cache} {w_p3 : W_plan_Plan} (h_p0 : ok_lru_Cache I p0 w_p0) (h_p3 : ok_plan_Plan I p3 w_p3) (hS : St E w I ((one b_p0 (.cells (cs_lru_Cache p0 w_p0).toArray 68 (0, 0))) :: (w_p0.at_.C) :: Os)) {r : Int × lru_Cache} (hr : lru_Cache_Put p0 p1 p2 p3 = some r) :
    Calls P 12 #[(.pointer (some ⟨b_p0, 0, none⟩)), (.int .i64 p1), (.string p2), (.agg (cs_plan_Plan p3 w_p3).toArray)] w (fun e w' => ∃ (I' : Mem) (w_rp0 : W_lru_Cache), e = .returned (.int .i64 r.1) ∧ I.Le I' ∧ St E w' I' ((one b_p0 (.cells (cs_lru_Cache r.2 w_rp0).toArray 68 (0, 0))) :: w_rp0.at_.C :: Os) ∧ ok_lru_Cache I' r.2 w_rp0) := by
  refine calls_W (args := [(.pointer (some ⟨b_p0, 0, none⟩)), (.int .i64 p1), (.string p2), (.agg (cs_plan_Plan p3 w_p3).toArray)]) (fn := Try.f12) rfl rfl rfl ?_
  unfold lru_Cache_Put at hr
  refine W.seq ?_
  refine W.region (l := [0, 1]) (by kernel_rfl) ?_
  refine WO.new hS rfl (by kernel_rfl) rfl (.cells (cs_plan_Plan p3 w_p3).toArray 55 (0, 0)) (fun b => .pointer (some ⟨b, 0, none⟩)) (by kernel_rfl) (fun _ _ _ => trivial) ?_
  intro b1 w4 hS3
  refine WO.vals [(1, 8, (.int .i64 0))] (by kernel_rfl) (fun _ => by kernel_rfl) ?_
  refine WO.nil ?_
  refine En.next ?_
  refine W.seq ?_
  refine W.block ?_
  refine W.seq ?_
  refine W.region (l := [0, 1, 2]) (by kernel_rfl) ?_
  refine WO.vals [(0, 13, (.pointer (some ⟨b_p0, 0, none⟩)))] (by kernel_rfl) (fun _ => by kernel_rfl) ?_
  have hS5 := hS3.front2
  have hS6 := hS5.front2
  obtain ⟨r12, hx_r7, hr⟩ := bind_some hr
  obtain rfl : false = r12 := Option.some.inj hx_r7
  refine WO.call rfl (by kernel_rfl) rfl (f := 25) (args := #[(.pointer (some ⟨b_p0, 0, none⟩))]) (by kernel_rfl) (lru_Cache_dead_ok h_p0 hS6 hx_r7) ?_
  rintro _ w8 ⟨I9, rfl, hl10, hS11⟩
  refine ⟨_, rfl, trivial, ?_⟩
  refine WO.vals [(2, 12, (.bool false))] (by kernel_rfl) (fun _ => by kernel_rfl) ?_
  refine WO.nil ?_
  refine En.next ?_
  refine W.cond (b := false) rfl rfl (fun hc => ?_) (fun hc => ?_)
  · cases hc
  clear hc
  refine W.seq ?_
  refine W.region (l := [0, 1, 2, 3, 4, 5, 6]) (by kernel_rfl) ?_
  refine WO.vals [(0, 16, (.int .i64 p1)), (1, 17, (.bool (decide (p1 < 1)))), (2, 18, (.bool (decide (p1 < 1))))] (by kernel_rfl) (fun _ => by kernel_rfl) ?_
  refine WO.join (l1 := [3, 4, 5]) (l2 := [6]) (J := fun frx wx => frx = [(21, (.bool ((decide (p1 < 1)) || (decide (p1 > 8))))), (0, (.pointer (some ⟨b_p0, 0, none⟩))), (1, (.int .i64 p1)), (2, (.string p2)), (7, (.pointer (some ⟨b1, 0, none⟩)))] ∧ w8 = wx) ?restm13 ?waysm13
  case waysm13 =>
    refine WO.caseb (decide (p1 < 1)) (fun hc => ?_) (fun hc => ?_)
    · skip
      refine WO.reslot 18 rfl (show Value.bool (decide (p1 < 1)) = Value.bool true by rw [hc]) ?_
      refine WO.pass rfl (by kernel_rfl) rfl ?_
      refine WO.pass rfl (by kernel_rfl) rfl ?_
      refine WO.vals [(5, 21, (.bool true))] (by kernel_rfl) (fun _ => by kernel_rfl) ?_
      refine WO.weaken (fr' := [(21, (.bool ((decide (p1 < 1)) || (decide (p1 > 8))))), (0, (.pointer (some ⟨b_p0, 0, none⟩))), (1, (.int .i64 p1)), (2, (.string p2)), (7, (.pointer (some ⟨b1, 0, none⟩)))]) (WO.meet ⟨rfl, rfl⟩) (Sub.cons (by rw [hc]; rfl) (Sub.cons rfl (Sub.cons rfl (Sub.cons rfl (Sub.cons rfl Sub.nil)))))
    · skip
      refine WO.reslot 18 rfl (show Value.bool (decide (p1 < 1)) = Value.bool false by rw [hc]) ?_
      refine WO.vals [(3, 19, (.int .i64 p1)), (4, 20, (.bool (decide (p1 > 8)))), (5, 21, (.bool (decide (p1 > 8))))] (by kernel_rfl) (fun _ => by kernel_rfl) ?_
      refine WO.weaken (fr' := [(21, (.bool ((decide (p1 < 1)) || (decide (p1 > 8))))), (0, (.pointer (some ⟨b_p0, 0, none⟩))), (1, (.int .i64 p1)), (2, (.string p2)), (7, (.pointer (some ⟨b1, 0, none⟩)))]) (WO.meet ⟨rfl, rfl⟩) (Sub.cons (by rw [hc]; rfl) (Sub.cons rfl (Sub.cons rfl (Sub.cons rfl (Sub.cons rfl Sub.nil)))))
  case restm13 =>
    rintro _ _ ⟨rfl, rfl⟩
    refine WO.vals [(6, 15, (.bool ((decide (p1 < 1)) || (decide (p1 > 8)))))] (by kernel_rfl) (fun _ => by kernel_rfl) ?_
    refine WO.nil ?_
    refine En.next ?_
    refine W.cond (b := ((decide (p1 < 1)) || (decide (p1 > 8)))) rfl rfl (fun hc => ?_) (fun hc => ?_)
    · replace hr := cond_t hc hr
      refine W.seq ?_
      refine W.region (l := [0]) (by kernel_rfl) ?_
      refine WO.vals [(0, 8, (.int .i64 2))] (by kernel_rfl) (fun _ => by kernel_rfl) ?_
      refine WO.nil ?_
      refine En.next ?_
      refine W.ret ?_
      refine En.in_ret ?_
      refine En.nx_ret ?_
      have hS15 := hS11.front2
      have hS16 := hS15.drop
      have he := Option.some.inj hr
      subst r
      exact En.ret1 rfl (.int .i64 2) rfl ⟨I9, w_p0, rfl, hl10, hS16, (h_p0.mono hl10)⟩
    · replace hr := cond_f hc hr
      refine W.skip ?_
      refine En.in_normal ?_
      refine En.next ?_
      refine W.seq ?_
      refine W.region (l := [0, 1, 2, 3, 4]) (by kernel_rfl) ?_
      refine WO.vals [(0, 22, (.int .i64 p1)), (1, 23, (.string p2)), (2, 24, (.agg (cs_lru_Entry (⟨p1, p2⟩ : lru_Entry)).toArray))] (by kernel_rfl) (fun _ => by kernel_rfl) ?_
      refine WO.new hS11 rfl (by kernel_rfl) rfl (.cells (cs_lru_Entry z_lru_Entry).toArray 74 (0, 0)) (fun b => .pointer (some ⟨b, 0, none⟩)) (by kernel_rfl) (fun _ _ _ => trivial) ?_
      intro b17 w20 hS19
      refine WO.storeBox hS19 rfl (by kernel_rfl) rfl 0 rfl rfl (by kernel_rfl) (by kernel_rfl) (by kernel_rfl) ((cs_lru_Entry (⟨p1, p2⟩ : lru_Entry)).toArray) (by kernel_rfl) (fun _ _ => trivial) ?_
      intro w22 hS21
      refine WO.nil ?_
      refine En.next ?_
      refine W.seq ?_
      refine W.seq ?_
      have hS23 := hS21.drew
      refine W.draw (l := [0, 1, 2, 3, 4, 5, 6, 7, 8, 9, 10, 11]) (by kernel_rfl) 11 (KR I9 [one b17 (.cells (cs_lru_Entry (⟨p1, p2⟩ : lru_Entry)).toArray 74 (0, 0)), one b_p0 (.cells (cs_lru_Cache p0 w_p0).toArray 68 (0, 0)), w_p0.at_.C]) qR (.ords [0, 1, 2, 3, 4, 5, 6, 7, 8, 9, 10, 11] [0, 1, 2, 3, 4, 5, 6, 7, 9, 10, 8, 11] (by kernel_rfl) (by kernel_rfl) (by kernel_rfl) (by kernel_rfl) (by kernel_rfl)) (by kernel_rfl) (KR.cons (hS23.rd (List.Mem.head _)) (KR.cons (hS23.rd (List.Mem.tail _ (List.Mem.head _))) (KR.cons (hS23.rd (List.Mem.tail _ (List.Mem.tail _ (List.Mem.head _)))) (KR.nil hS23.im)))) ?_
      generalize World.drew _ = w24 at *
      refine WO.vals [(0, 26, (.pointer (some ⟨b_p0, 0, none⟩))), (1, 27, (.pointer (some ⟨b_p0, 0, none⟩))), (2, 28, (.pointer (some ⟨b_p0, 0, none⟩)))] (by kernel_rfl) (fun _ => by kernel_rfl) ?_
      refine WO.load rfl (by kernel_rfl) (by kernel_rfl) rfl (v := (.map (some w_p0.at_.m))) (fun w' hw' => cell_one ((rd_c (List.Mem.tail _ (List.Mem.head _)) (hS23.rd (List.Mem.tail _ (List.Mem.head _)))) w' hw') (by kernel_rfl)) ?_
      refine WO.loadN rfl (by kernel_rfl) (by kernel_rfl) rfl ((cs_lru_Entry (⟨p1, p2⟩ : lru_Entry))) (by kernel_rfl) (fun w' hw' => cells_one ((rd_c (List.Mem.head _) (hS23.rd (List.Mem.head _))) w' hw') (by kernel_rfl)) ?_
      obtain ⟨x25, hx_x25, hr⟩ := bind_some hr
      obtain ⟨v_x25, hv_x25, hq_x25⟩ := OwnMap.lookup (OwnMap.mono h_p0.at_ hl10) (t := 66) (kt := 74) (et := 76) (by kernel_rfl) key_lru_Entry (⟨p1, p2⟩ : lru_Entry) (zv := (.agg (cs_lru_link z_lru_link zw_lru_link).toArray)) (z0 := z_lru_link) (by kernel_rfl) ⟨(cs_lru_link z_lru_link zw_lru_link), rfl, ⟨zw_lru_link, rfl, zok_lru_link⟩⟩
      rw [Option.some.inj hx_x25] at hv_x25
      obtain ⟨_, rfl, hv_x25⟩ := hv_x25
      obtain ⟨w_x25, rfl, h_x25⟩ := hv_x25
      refine WO.lookup rfl (by kernel_rfl) rfl rfl hq_x25 ((rd_c (List.Mem.tail _ (List.Mem.tail _ (List.Mem.head _))) (hS23.rd (List.Mem.tail _ (List.Mem.tail _ (List.Mem.head _)))))) (.tuple #[(.agg (cs_lru_link x25 w_x25).toArray), (.bool (mhas eq_lru_Entry p0.at_ (⟨p1, p2⟩ : lru_Entry)))]) rfl ?_
      refine WO.vals [(6, 25, (.tuple #[(.agg (cs_lru_link x25 w_x25).toArray), (.bool (mhas eq_lru_Entry p0.at_ (⟨p1, p2⟩ : lru_Entry)))])), (7, 32, (.agg (cs_lru_link x25 w_x25).toArray)), (8, 33, (.bool (mhas eq_lru_Entry p0.at_ (⟨p1, p2⟩ : lru_Entry))))] (by kernel_rfl) (fun _ => by kernel_rfl) ?_
      refine WO.new hS23 rfl (by kernel_rfl) rfl (.cells (cs_lru_link z_lru_link zw_lru_link).toArray 76 (0, 0)) (fun b => .pointer (some ⟨b, 0, none⟩)) (by kernel_rfl) (fun b26 w29 hS28 => (KR.cons (hS28.rd (List.Mem.tail _ (List.Mem.head _))) (KR.cons (hS28.rd (List.Mem.tail _ (List.Mem.tail _ (List.Mem.head _)))) (KR.cons (hS28.rd (List.Mem.tail _ (List.Mem.tail _ (List.Mem.tail _ (List.Mem.head _))))) (KR.nil hS28.im))))) ?_
      intro b26 w29 hS28
      refine WO.storeBox hS28 rfl (by kernel_rfl) rfl 0 rfl rfl (by kernel_rfl) (all_one (rel := R_lru_link) (I := I9) (x := x25) ⟨w_x25, rfl, h_x25⟩) (by kernel_rfl) ((cs_lru_link x25 w_x25).toArray) (by kernel_rfl) (fun w31 hS30 => (KR.cons (hS30.rd (List.Mem.tail _ (List.Mem.head _))) (KR.cons (hS30.rd (List.Mem.tail _ (List.Mem.tail _ (List.Mem.head _)))) (KR.cons (hS30.rd (List.Mem.tail _ (List.Mem.tail _ (List.Mem.tail _ (List.Mem.head _))))) (KR.nil hS30.im))))) ?_
      intro w31 hS30
      refine WO.tail rfl ?_
      refine WO.vals [(11, 11, (.bool (mhas eq_lru_Entry p0.at_ (⟨p1, p2⟩ : lru_Entry))))] (by kernel_rfl) (fun _ => by kernel_rfl) ?_
      refine WO.nil ?_
      refine En.next ?_
      refine W.seq ?_
      refine W.region (l := [0]) (by kernel_rfl) ?_
      refine WO.vals [(0, 34, (.bool (mhas eq_lru_Entry p0.at_ (⟨p1, p2⟩ : lru_Entry))))] (by kernel_rfl) (fun _ => by kernel_rfl) ?_
      refine WO.nil ?_
      refine En.next ?_
      obtain ⟨j32, hr1, hr⟩ := bind_some hr
      refine W.join (J := (fun fr w => ∃ (I34 : Mem), ∃ (w_j32 : W_lru_Cache), fr = [(0, (.pointer (some ⟨b_p0, 0, none⟩))), (7, (.pointer (some ⟨b1, 0, none⟩))), (9, (.pointer (some ⟨b17, 0, none⟩)))] ∧ I9.Le I34 ∧ St E w I34 ((one b_p0 (.cells (cs_lru_Cache j32 w_j32).toArray 68 (0, 0))) :: (w_j32.at_.C) :: (one b1 (.cells (cs_plan_Plan p3 w_p3).toArray 55 (0, 0))) :: (one b17 (.cells (cs_lru_Entry (⟨p1, p2⟩ : lru_Entry)).toArray 74 (0, 0))) :: Os) ∧ ok_lru_Cache I34 j32 w_j32)) ?restj32 ?waysj32
      case waysj32 =>
        refine W.cond (b := (mhas eq_lru_Entry p0.at_ (⟨p1, p2⟩ : lru_Entry))) rfl rfl (fun hc => ?_) (fun hc => ?_)
        · replace hr1 := cond_t hc hr1
          refine W.region (l := [0, 1, 2]) (by kernel_rfl) ?_
          refine WO.vals [(0, 35, (.pointer (some ⟨b_p0, 0, none⟩)))] (by kernel_rfl) (fun _ => by kernel_rfl) ?_
          refine WO.loadN rfl (by kernel_rfl) (by kernel_rfl) rfl ((cs_lru_Entry (⟨p1, p2⟩ : lru_Entry))) (by kernel_rfl) (fun w' hw' => cells_one ((rd_f (hS30.rd (List.Mem.tail _ (List.Mem.head _)))) w' hw') (by kernel_rfl)) ?_
          have hS36 := hS30.front3
          have hS37 := hS36.front3
          obtain ⟨r43, hx_r38, hr1⟩ := bind_some hr1
          refine WO.call rfl (by kernel_rfl) rfl (f := 26) (args := #[(.pointer (some ⟨b_p0, 0, none⟩)), (.agg (cs_lru_Entry (⟨p1, p2⟩ : lru_Entry)).toArray)]) (by kernel_rfl) (lru_Cache_gone_ok (h_p0.mono hl10) hS37 hx_r38) ?_
          rintro _ w39 ⟨I40, w_r43, rfl, hl41, hS42, h_r43⟩
          refine ⟨_, rfl, trivial, ?_⟩
          refine WO.nil ?_
          have hS44 := hS42.front2
          have hS45 := hS44.drop
          have hS46 := hS45.front2
          have hS47 := hS46.front3
          have hS48 := hS47.front3
          have hS49 := hS48.front3
          have he := Option.some.inj hr1
          subst j32
          refine En.weaken (fr' := [(0, (.pointer (some ⟨b_p0, 0, none⟩))), (7, (.pointer (some ⟨b1, 0, none⟩))), (9, (.pointer (some ⟨b17, 0, none⟩)))]) (En.round ⟨I40, w_r43, rfl, hl41, hS49, h_r43⟩) (Sub.cons rfl (Sub.cons rfl (Sub.cons rfl Sub.nil)))
        · replace hr1 := cond_f hc hr1
          refine W.skip ?_
          have hS50 := hS30.drop
          have hS51 := hS50.front3
          have hS52 := hS51.front3
          have hS53 := hS52.front3
          have he := Option.some.inj hr1
          subst j32
          refine En.weaken (fr' := [(0, (.pointer (some ⟨b_p0, 0, none⟩))), (7, (.pointer (some ⟨b1, 0, none⟩))), (9, (.pointer (some ⟨b17, 0, none⟩)))]) (En.round ⟨I9, w_p0, rfl, Mem.Le.refl _, hS53, (h_p0.mono hl10)⟩) (Sub.cons rfl (Sub.cons rfl (Sub.cons rfl Sub.nil)))
      case restj32 =>
        rintro _ w54 ⟨I34, w_j32, rfl, hl35, hS55, h_j32⟩
        refine En.next ?_
        refine W.seq ?_
        have hS56 := hS55.drew
        refine W.draw (l := [0, 1, 2, 3, 4, 5, 6, 7]) (by kernel_rfl) 7 (KR I34 [one b_p0 (.cells (cs_lru_Cache j32 w_j32).toArray 68 (0, 0)), one b1 (.cells (cs_plan_Plan p3 w_p3).toArray 55 (0, 0)), one b17 (.cells (cs_lru_Entry (⟨p1, p2⟩ : lru_Entry)).toArray 74 (0, 0))]) qR (.back (by kernel_rfl)) (by kernel_rfl) (KR.cons (hS56.rd (List.Mem.head _)) (KR.cons (hS56.rd (List.Mem.tail _ (List.Mem.tail _ (List.Mem.head _)))) (KR.cons (hS56.rd (List.Mem.tail _ (List.Mem.tail _ (List.Mem.tail _ (List.Mem.head _))))) (KR.nil hS56.im)))) ?_
        generalize World.drew _ = w57 at *
        refine WO.vals [(0, 38, (.pointer (some ⟨b_p0, 0, none⟩))), (1, 39, (.pointer (some ⟨b_p0, 0, none⟩))), (2, 40, (.pointer (some ⟨b_p0, 0, none⟩)))] (by kernel_rfl) (fun _ => by kernel_rfl) ?_
        refine WO.load rfl (by kernel_rfl) (by kernel_rfl) rfl (v := (.map (some w_j32.at_.m))) (fun w' hw' => cell_one ((rd_c (List.Mem.head _) (hS56.rd (List.Mem.head _))) w' hw') (by kernel_rfl)) ?_
        refine WO.loadN rfl (by kernel_rfl) (by kernel_rfl) rfl ((cs_lru_Entry (⟨p1, p2⟩ : lru_Entry))) (by kernel_rfl) (fun w' hw' => cells_one ((rd_c (List.Mem.tail _ (List.Mem.tail _ (List.Mem.head _))) (hS56.rd (List.Mem.tail _ (List.Mem.tail _ (List.Mem.tail _ (List.Mem.head _)))))) w' hw') (by kernel_rfl)) ?_
        refine WO.loadN rfl (by kernel_rfl) (by kernel_rfl) rfl ((cs_plan_Plan p3 w_p3)) (by kernel_rfl) (fun w' hw' => cells_one ((rd_c (List.Mem.tail _ (List.Mem.head _)) (hS56.rd (List.Mem.tail _ (List.Mem.tail _ (List.Mem.head _))))) w' hw') (by kernel_rfl)) ?_
        refine WO.vals [(6, 44, (.agg (cs_lru_link ({ z_lru_link with p := p3 }) (⟨w_p3⟩ : W_lru_link)).toArray))] (by kernel_rfl) (fun _ => by kernel_rfl) ?_
        refine WO.tail rfl ?_
        have hS58 := hS56.front1
        have hk59 : ok_lru_link I34 ({ z_lru_link with p := p3 }) (⟨w_p3⟩ : W_lru_link) := ⟨(h_p3.mono (hl10.trans hl35))⟩
        refine WO.update h_j32.at_ hS58 (t := 66) (kt := 74) (et := 76) (by kernel_rfl) key_lru_Entry rfl (by kernel_rfl) rfl (.inl rfl) rfl (⟨p1, p2⟩ : lru_Entry) rfl rfl (xv := ({ z_lru_link with p := p3 })) ⟨(cs_lru_link ({ z_lru_link with p := p3 }) (⟨w_p3⟩ : W_lru_link)), rfl, ⟨(⟨w_p3⟩ : W_lru_link), rfl, hk59⟩⟩ (fun _ _ _ => trivial) ?_
        intro w62 C60 hS61 hm63
        refine WO.nil ?_
        refine En.next ?_
        refine W.seq ?_
        refine W.region (l := [0, 1, 2]) (by kernel_rfl) ?_
        refine WO.vals [(0, 45, (.pointer (some ⟨b_p0, 0, none⟩)))] (by kernel_rfl) (fun _ => by kernel_rfl) ?_
        refine WO.loadN rfl (by kernel_rfl) (by kernel_rfl) rfl ((cs_lru_Entry (⟨p1, p2⟩ : lru_Entry))) (by kernel_rfl) (fun w' hw' => cells_one ((rd_f (hS61.rd (List.Mem.tail _ (List.Mem.tail _ (List.Mem.tail _ (List.Mem.head _)))))) w' hw') (by kernel_rfl)) ?_
        have hS64 := hS61.front1
        have hk65 : ok_lru_Cache I34 ({ j32 with at_ := (mset eq_lru_Entry j32.at_ (⟨p1, p2⟩ : lru_Entry) ({ z_lru_link with p := p3 })) }) (⟨⟨w_j32.at_.m, C60⟩⟩ : W_lru_Cache) := ⟨hm63⟩
        obtain ⟨r71, hx_r66, hr⟩ := bind_some hr
        refine WO.call rfl (by kernel_rfl) rfl (f := 27) (args := #[(.pointer (some ⟨b_p0, 0, none⟩)), (.agg (cs_lru_Entry (⟨p1, p2⟩ : lru_Entry)).toArray)]) (by kernel_rfl) (lru_Cache_lead_ok hk65 hS64 hx_r66) ?_
        rintro _ w67 ⟨I68, w_r71, rfl, hl69, hS70, h_r71⟩
        refine ⟨_, rfl, trivial, ?_⟩
        refine WO.nil ?_
        refine En.next ?_
        refine W.seq ?_
        refine W.seq ?_
        have hS72 := hS70.drew
        refine W.draw (l := [0, 1, 2, 3, 4, 5, 6, 7, 8, 9, 10]) (by kernel_rfl) 10 (KR I68 [one b_p0 (.cells (cs_lru_Cache r71 w_r71).toArray 68 (0, 0)), w_r71.at_.C]) qR (.back (by kernel_rfl)) (by kernel_rfl) (KR.cons (hS72.rd (List.Mem.head _)) (KR.cons (hS72.rd (List.Mem.tail _ (List.Mem.head _))) (KR.nil hS72.im))) ?_
        generalize World.drew _ = w73 at *
        refine WO.vals [(0, 48, (.pointer (some ⟨b_p0, 0, none⟩))), (1, 49, (.pointer (some ⟨b_p0, 0, none⟩))), (2, 50, (.pointer (some ⟨b_p0, 0, none⟩)))] (by kernel_rfl) (fun _ => by kernel_rfl) ?_
        refine WO.load rfl (by kernel_rfl) (by kernel_rfl) rfl (v := (.map (some w_r71.at_.m))) (fun w' hw' => cell_one ((rd_c (List.Mem.head _) (hS72.rd (List.Mem.head _))) w' hw') (by kernel_rfl)) ?_
        refine WO.lenMap h_r71.at_ (t := 66) (kt := 74) (et := 76) (by kernel_rfl) rfl (by kernel_rfl) rfl ((rd_c (List.Mem.tail _ (List.Mem.head _)) (hS72.rd (List.Mem.tail _ (List.Mem.head _))))) ?_
        refine WO.vals [(5, 53, (.pointer (some ⟨b_p0, 0, none⟩))), (6, 54, (.pointer (some ⟨b_p0, 0, none⟩))), (7, 55, (.pointer (some ⟨b_p0, 1, none⟩)))] (by kernel_rfl) (fun _ => by kernel_rfl) ?_
        refine WO.load rfl (by kernel_rfl) (by kernel_rfl) rfl (v := (.int .i64 r71.most)) (fun w' hw' => cell_one ((rd_c (List.Mem.head _) (hS72.rd (List.Mem.head _))) w' hw') (by kernel_rfl)) ?_
        refine WO.vals [(9, 57, (.int .i64 (w64 (r71.most + 1))))] (by kernel_rfl) (fun _ => by kernel_rfl) ?_
        refine WO.tail rfl ?_
        refine WO.vals [(10, 58, (.bool (decide ((r71.at_.length : Int) > (w64 (r71.most + 1))))))] (by kernel_rfl) (fun _ => by kernel_rfl) ?_
        refine WO.nil ?_
        refine En.next ?_
        obtain ⟨j74, hr1, hr⟩ := bind_some hr
        refine W.join (J := (fun fr w => ∃ (I76 : Mem), ∃ (w_j74 : W_lru_Cache), fr = [] ∧ I68.Le I76 ∧ St E w I76 ((one b_p0 (.cells (cs_lru_Cache j74 w_j74).toArray 68 (0, 0))) :: (w_j74.at_.C) :: Os) ∧ ok_lru_Cache I76 j74 w_j74)) ?restj74 ?waysj74
        case waysj74 =>
          refine W.cond (b := (decide ((r71.at_.length : Int) > (w64 (r71.most + 1))))) rfl rfl (fun hc => ?_) (fun hc => ?_)
          · replace hr1 := cond_t hc hr1
            refine W.region (l := [0, 1, 2, 3, 4, 5, 6, 7, 8]) (by kernel_rfl) ?_
            refine WO.vals [(0, 59, (.pointer (some ⟨b_p0, 0, none⟩))), (1, 60, (.pointer (some ⟨b_p0, 0, none⟩))), (2, 61, (.pointer (some ⟨b_p0, 0, none⟩))), (3, 62, (.pointer (some ⟨b_p0, 0, none⟩)))] (by kernel_rfl) (fun _ => by kernel_rfl) ?_
            refine WO.load rfl (by kernel_rfl) (by kernel_rfl) rfl (v := (.map (some w_r71.at_.m))) (fun w' hw' => cell_one ((rd_f (hS72.rd (List.Mem.head _))) w' hw') (by kernel_rfl)) ?_
            refine WO.vals [(5, 64, (.agg (cs_lru_Entry z_lru_Entry).toArray))] (by kernel_rfl) (fun _ => by kernel_rfl) ?_
            obtain ⟨x78, hx_x78, hr1⟩ := bind_some hr1
            obtain ⟨v_x78, hv_x78, hq_x78⟩ := OwnMap.lookup h_r71.at_ (t := 66) (kt := 74) (et := 76) (by kernel_rfl) key_lru_Entry z_lru_Entry (zv := (.agg (cs_lru_link z_lru_link zw_lru_link).toArray)) (z0 := z_lru_link) (by kernel_rfl) ⟨(cs_lru_link z_lru_link zw_lru_link), rfl, ⟨zw_lru_link, rfl, zok_lru_link⟩⟩
            rw [Option.some.inj hx_x78] at hv_x78
            obtain ⟨_, rfl, hv_x78⟩ := hv_x78
            obtain ⟨w_x78, rfl, h_x78⟩ := hv_x78
            refine WO.lookup rfl (by kernel_rfl) rfl rfl hq_x78 ((rd_f (hS72.rd (List.Mem.tail _ (List.Mem.head _))))) (.agg (cs_lru_link x78 w_x78).toArray) rfl ?_
            refine WO.vals [(7, 66, (.agg (cs_lru_Entry x78.ahead).toArray))] (by kernel_rfl) (fun _ => by kernel_rfl) ?_
            have hS79 := hS72.front1
            have hS80 := hS79.front1
            obtain ⟨r86, hx_r81, hr1⟩ := bind_some hr1
            refine WO.call rfl (by kernel_rfl) rfl (f := 26) (args := #[(.pointer (some ⟨b_p0, 0, none⟩)), (.agg (cs_lru_Entry x78.ahead).toArray)]) (by kernel_rfl) (lru_Cache_gone_ok h_r71 hS80 hx_r81) ?_
            rintro _ w82 ⟨I83, w_r86, rfl, hl84, hS85, h_r86⟩
            refine ⟨_, rfl, trivial, ?_⟩
            refine WO.nil ?_
            have hS87 := hS85.front2
            have hS88 := hS87.drop
            have hS89 := hS88.front2
            have hS90 := hS89.drop
            have he := Option.some.inj hr1
            subst j74
            refine En.weaken (fr' := []) (En.round ⟨I83, w_r86, rfl, hl84, hS90, h_r86⟩) Sub.nil
          · replace hr1 := cond_f hc hr1
            refine W.skip ?_
            have hS91 := hS72.front2
            have hS92 := hS91.drop
            have hS93 := hS92.front2
            have hS94 := hS93.drop
            have he := Option.some.inj hr1
            subst j74
            refine En.weaken (fr' := []) (En.round ⟨I68, w_r71, rfl, Mem.Le.refl _, hS94, h_r71⟩) Sub.nil
        case restj74 =>
          rintro _ w95 ⟨I76, w_j74, rfl, hl77, hS96, h_j74⟩
          refine En.next ?_
          refine W.seq ?_
          refine W.region (l := [0]) (by kernel_rfl) ?_
          refine WO.vals [(0, 8, (.int .i64 0))] (by kernel_rfl) (fun _ => by kernel_rfl) ?_
          refine WO.nil ?_
          refine En.next ?_
          refine W.ret ?_
          have he := Option.some.inj hr
          subst r
          exact En.ret1 rfl (.int .i64 0) rfl ⟨I76, w_j74, rfl, (((hl10.trans hl35).trans hl69).trans hl77), hS96, h_j74⟩
def lru_Cache_Get (p0 : lru_Cache) (p1 : Int) (p2 : ByteArray) : Option (plan_Plan × Bool × lru_Cache) := (lru_Cache_dead p0).bind (fun (r18 : Bool) => (bif (p1 == 0) then some (z_plan_Plan, false, p0) else (some ((mget eq_lru_Entry p0.at_ (⟨p1, p2⟩ : lru_Entry)).getD z_lru_link)).bind (fun (x27 : lru_link) => (bif (!(mhas eq_lru_Entry p0.at_ (⟨p1, p2⟩ : lru_Entry))) then some (z_plan_Plan, false, p0) else (lru_Cache_cut p0 (⟨p1, p2⟩ : lru_Entry)).bind (fun (r48 : lru_Cache) => (lru_Cache_lead r48 (⟨p1, p2⟩ : lru_Entry)).bind (fun (r56 : lru_Cache) => some (x27.p, true, r56)))))))
set_option maxHeartbeats 1000000 in
theorem lru_Cache_Get_ok {E w : World} {I : Mem} {Os : List Mem} {p0 : lru_Cache} {p1 : Int} {p2 : ByteArray} {b_p0 : Nat} {w_p0 : W_lru_Cache} (h_p0 : ok_lru_Cache I p0 w_p0) (hS : St E w I ((one b_p0 (.cells (cs_lru_Cache p0 w_p0).toArray 68 (0, 0))) :: (w_p0.at_.C) :: Os)) {r : plan_Plan × Bool × lru_Cache} (hr : lru_Cache_Get p0 p1 p2 = some r) :
    Calls P 14 #[(.pointer (some ⟨b_p0, 0, none⟩)), (.int .i64 p1), (.string p2)] w (fun e w' => ∃ (I' : Mem) (w_rw0 : W_plan_Plan) (w_rp0 : W_lru_Cache), e = .returned (.tuple #[(.agg (cs_plan_Plan r.1 w_rw0).toArray), (.bool r.2.1)]) ∧ I.Le I' ∧ St E w' I' ((one b_p0 (.cells (cs_lru_Cache r.2.2 w_rp0).toArray 68 (0, 0))) :: w_rp0.at_.C :: Os) ∧ ok_plan_Plan I' r.1 w_rw0 ∧ ok_lru_Cache I' r.2.2 w_rp0) := by
  refine calls_W (args := [(.pointer (some ⟨b_p0, 0, none⟩)), (.int .i64 p1), (.string p2)]) (fn := Try.f14) rfl rfl rfl ?_
  unfold lru_Cache_Get at hr
  refine W.seq ?_
  refine W.region (l := [0, 1]) (by kernel_rfl) ?_
  refine WO.new hS rfl (by kernel_rfl) rfl (.cells (cs_plan_Plan z_plan_Plan zw_plan_Plan).toArray 55 (0, 0)) (fun b => .pointer (some ⟨b, 0, none⟩)) (by kernel_rfl) (fun _ _ _ => trivial) ?_
  intro b1 w4 hS3
  refine WO.vals [(1, 7, (.bool false))] (by kernel_rfl) (fun _ => by kernel_rfl) ?_
  refine WO.nil ?_
  refine En.next ?_
  refine W.seq ?_
  refine W.region (l := [0, 1, 2, 3, 4]) (by kernel_rfl) ?_
  refine WO.vals [(0, 11, (.int .i64 p1)), (1, 12, (.string p2)), (2, 13, (.agg (cs_lru_Entry (⟨p1, p2⟩ : lru_Entry)).toArray))] (by kernel_rfl) (fun _ => by kernel_rfl) ?_
  refine WO.new hS3 rfl (by kernel_rfl) rfl (.cells (cs_lru_Entry z_lru_Entry).toArray 74 (0, 0)) (fun b => .pointer (some ⟨b, 0, none⟩)) (by kernel_rfl) (fun _ _ _ => trivial) ?_
  intro b5 w8 hS7
  refine WO.storeBox hS7 rfl (by kernel_rfl) rfl 0 rfl rfl (by kernel_rfl) (by kernel_rfl) (by kernel_rfl) ((cs_lru_Entry (⟨p1, p2⟩ : lru_Entry)).toArray) (by kernel_rfl) (fun _ _ => trivial) ?_
  intro w10 hS9
  refine WO.nil ?_
  refine En.next ?_
  refine W.seq ?_
  refine W.seq ?_
  refine W.region (l := [0, 1, 2, 3, 4, 5]) (by kernel_rfl) ?_
  refine WO.vals [(0, 14, (.pointer (some ⟨b_p0, 0, none⟩)))] (by kernel_rfl) (fun _ => by kernel_rfl) ?_
  have hS11 := hS9.front3
  have hS12 := hS11.front3
  obtain ⟨r18, hx_r13, hr⟩ := bind_some hr
  obtain rfl : false = r18 := Option.some.inj hx_r13
  refine WO.call rfl (by kernel_rfl) rfl (f := 25) (args := #[(.pointer (some ⟨b_p0, 0, none⟩))]) (by kernel_rfl) (lru_Cache_dead_ok h_p0 hS12 hx_r13) ?_
  rintro _ w14 ⟨I15, rfl, hl16, hS17⟩
  refine ⟨_, rfl, trivial, ?_⟩
  refine WO.vals [(2, 16, (.bool false)), (3, 17, (.int .i64 p1)), (4, 18, (.bool (p1 == 0))), (5, 19, (.bool (p1 == 0)))] (by kernel_rfl) (fun _ => by kernel_rfl) ?_
  refine WO.nil ?_
  refine En.next ?_
  refine W.cond (b := (p1 == 0)) rfl rfl (fun hc => ?_) (fun hc => ?_)
  · replace hr := cond_t hc hr
    refine W.seq ?_
    refine W.region (l := [0, 1, 2]) (by kernel_rfl) ?_
    refine WO.vals [(0, 20, (.agg (cs_plan_Plan z_plan_Plan zw_plan_Plan).toArray))] (by kernel_rfl) (fun _ => by kernel_rfl) ?_
    have hS19 := hS17.front3
    refine WO.storeBox hS19 rfl (by kernel_rfl) rfl 0 rfl rfl (by kernel_rfl) (all_one (rel := R_plan_Plan) (I := I15) (x := z_plan_Plan) ⟨zw_plan_Plan, rfl, zok_plan_Plan⟩) (by kernel_rfl) ((cs_plan_Plan z_plan_Plan zw_plan_Plan).toArray) (by kernel_rfl) (fun _ _ => trivial) ?_
    intro w21 hS20
    refine WO.vals [(2, 7, (.bool false))] (by kernel_rfl) (fun _ => by kernel_rfl) ?_
    refine WO.nil ?_
    refine En.next ?_
    refine W.ret ?_
    refine En.nx_ret ?_
    have hS22 := hS20.drop
    have hS23 := hS22.front2
    have hS24 := hS23.drop
    have he := Option.some.inj hr
    subst r
    exact En.retc2 rfl (.agg (cs_plan_Plan z_plan_Plan zw_plan_Plan).toArray) (.bool false) ⟨_, _, rfl, run_loadVarN (cs := (cs_plan_Plan z_plan_Plan zw_plan_Plan)) (by kernel_rfl) (by kernel_rfl) (cells_one (hS20.rd (List.Mem.head _)) (by kernel_rfl))⟩ rfl ⟨I15, zw_plan_Plan, w_p0, rfl, hl16, hS24, zok_plan_Plan, (h_p0.mono hl16)⟩
  · replace hr := cond_f hc hr
    refine W.skip ?_
    refine En.next ?_
    refine W.seq ?_
    have hS25 := hS17.drew
    refine W.draw (l := [0, 1, 2, 3, 4, 5, 6, 7, 8, 9, 10, 11]) (by kernel_rfl) 11 (KR I15 [one b_p0 (.cells (cs_lru_Cache p0 w_p0).toArray 68 (0, 0)), w_p0.at_.C, one b5 (.cells (cs_lru_Entry (⟨p1, p2⟩ : lru_Entry)).toArray 74 (0, 0))]) qR (.ords [0, 1, 2, 3, 4, 5, 6, 7, 8, 9, 10, 11] [0, 1, 2, 3, 4, 5, 6, 7, 9, 10, 8, 11] (by kernel_rfl) (by kernel_rfl) (by kernel_rfl) (by kernel_rfl) (by kernel_rfl)) (by kernel_rfl) (KR.cons (hS25.rd (List.Mem.head _)) (KR.cons (hS25.rd (List.Mem.tail _ (List.Mem.head _))) (KR.cons (hS25.rd (List.Mem.tail _ (List.Mem.tail _ (List.Mem.head _)))) (KR.nil hS25.im)))) ?_
    generalize World.drew _ = w26 at *
    refine WO.vals [(0, 22, (.pointer (some ⟨b_p0, 0, none⟩))), (1, 23, (.pointer (some ⟨b_p0, 0, none⟩))), (2, 24, (.pointer (some ⟨b_p0, 0, none⟩)))] (by kernel_rfl) (fun _ => by kernel_rfl) ?_
    refine WO.load rfl (by kernel_rfl) (by kernel_rfl) rfl (v := (.map (some w_p0.at_.m))) (fun w' hw' => cell_one ((rd_c (List.Mem.head _) (hS25.rd (List.Mem.head _))) w' hw') (by kernel_rfl)) ?_
    refine WO.loadN rfl (by kernel_rfl) (by kernel_rfl) rfl ((cs_lru_Entry (⟨p1, p2⟩ : lru_Entry))) (by kernel_rfl) (fun w' hw' => cells_one ((rd_c (List.Mem.tail _ (List.Mem.tail _ (List.Mem.head _))) (hS25.rd (List.Mem.tail _ (List.Mem.tail _ (List.Mem.head _))))) w' hw') (by kernel_rfl)) ?_
    obtain ⟨x27, hx_x27, hr⟩ := bind_some hr
    obtain ⟨v_x27, hv_x27, hq_x27⟩ := OwnMap.lookup (OwnMap.mono h_p0.at_ hl16) (t := 66) (kt := 74) (et := 76) (by kernel_rfl) key_lru_Entry (⟨p1, p2⟩ : lru_Entry) (zv := (.agg (cs_lru_link z_lru_link zw_lru_link).toArray)) (z0 := z_lru_link) (by kernel_rfl) ⟨(cs_lru_link z_lru_link zw_lru_link), rfl, ⟨zw_lru_link, rfl, zok_lru_link⟩⟩
    rw [Option.some.inj hx_x27] at hv_x27
    obtain ⟨_, rfl, hv_x27⟩ := hv_x27
    obtain ⟨w_x27, rfl, h_x27⟩ := hv_x27
    refine WO.lookup rfl (by kernel_rfl) rfl rfl hq_x27 ((rd_c (List.Mem.tail _ (List.Mem.head _)) (hS25.rd (List.Mem.tail _ (List.Mem.head _))))) (.tuple #[(.agg (cs_lru_link x27 w_x27).toArray), (.bool (mhas eq_lru_Entry p0.at_ (⟨p1, p2⟩ : lru_Entry)))]) rfl ?_
    refine WO.vals [(6, 21, (.tuple #[(.agg (cs_lru_link x27 w_x27).toArray), (.bool (mhas eq_lru_Entry p0.at_ (⟨p1, p2⟩ : lru_Entry)))])), (7, 28, (.agg (cs_lru_link x27 w_x27).toArray)), (8, 29, (.bool (mhas eq_lru_Entry p0.at_ (⟨p1, p2⟩ : lru_Entry))))] (by kernel_rfl) (fun _ => by kernel_rfl) ?_
    refine WO.new hS25 rfl (by kernel_rfl) rfl (.cells (cs_lru_link z_lru_link zw_lru_link).toArray 76 (0, 0)) (fun b => .pointer (some ⟨b, 0, none⟩)) (by kernel_rfl) (fun b28 w31 hS30 => (KR.cons (hS30.rd (List.Mem.tail _ (List.Mem.head _))) (KR.cons (hS30.rd (List.Mem.tail _ (List.Mem.tail _ (List.Mem.head _)))) (KR.cons (hS30.rd (List.Mem.tail _ (List.Mem.tail _ (List.Mem.tail _ (List.Mem.head _))))) (KR.nil hS30.im))))) ?_
    intro b28 w31 hS30
    refine WO.storeBox hS30 rfl (by kernel_rfl) rfl 0 rfl rfl (by kernel_rfl) (all_one (rel := R_lru_link) (I := I15) (x := x27) ⟨w_x27, rfl, h_x27⟩) (by kernel_rfl) ((cs_lru_link x27 w_x27).toArray) (by kernel_rfl) (fun w33 hS32 => (KR.cons (hS32.rd (List.Mem.tail _ (List.Mem.head _))) (KR.cons (hS32.rd (List.Mem.tail _ (List.Mem.tail _ (List.Mem.head _)))) (KR.cons (hS32.rd (List.Mem.tail _ (List.Mem.tail _ (List.Mem.tail _ (List.Mem.head _))))) (KR.nil hS32.im))))) ?_
    intro w33 hS32
    refine WO.tail rfl ?_
    refine WO.vals [(11, 10, (.bool (mhas eq_lru_Entry p0.at_ (⟨p1, p2⟩ : lru_Entry))))] (by kernel_rfl) (fun _ => by kernel_rfl) ?_
    refine WO.nil ?_
    refine En.next ?_
    refine W.seq ?_
    refine W.seq ?_
    refine W.region (l := [0, 1]) (by kernel_rfl) ?_
    refine WO.vals [(0, 30, (.bool (mhas eq_lru_Entry p0.at_ (⟨p1, p2⟩ : lru_Entry)))), (1, 31, (.bool (!(mhas eq_lru_Entry p0.at_ (⟨p1, p2⟩ : lru_Entry)))))] (by kernel_rfl) (fun _ => by kernel_rfl) ?_
    refine WO.nil ?_
    refine En.next ?_
    refine W.cond (b := (!(mhas eq_lru_Entry p0.at_ (⟨p1, p2⟩ : lru_Entry)))) rfl rfl (fun hc => ?_) (fun hc => ?_)
    · replace hr := cond_t hc hr
      refine W.seq ?_
      refine W.region (l := [0, 1, 2]) (by kernel_rfl) ?_
      refine WO.vals [(0, 32, (.agg (cs_plan_Plan z_plan_Plan zw_plan_Plan).toArray))] (by kernel_rfl) (fun _ => by kernel_rfl) ?_
      have hS34 := hS32.front4
      refine WO.storeBox hS34 rfl (by kernel_rfl) rfl 0 rfl rfl (by kernel_rfl) (all_one (rel := R_plan_Plan) (I := I15) (x := z_plan_Plan) ⟨zw_plan_Plan, rfl, zok_plan_Plan⟩) (by kernel_rfl) ((cs_plan_Plan z_plan_Plan zw_plan_Plan).toArray) (by kernel_rfl) (fun _ _ => trivial) ?_
      intro w36 hS35
      refine WO.vals [(2, 7, (.bool false))] (by kernel_rfl) (fun _ => by kernel_rfl) ?_
      refine WO.nil ?_
      refine En.next ?_
      refine W.ret ?_
      refine En.nx_ret ?_
      have hS37 := hS35.drop
      have hS38 := hS37.drop
      have hS39 := hS38.front2
      have hS40 := hS39.drop
      have he := Option.some.inj hr
      subst r
      exact En.retc2 rfl (.agg (cs_plan_Plan z_plan_Plan zw_plan_Plan).toArray) (.bool false) ⟨_, _, rfl, run_loadVarN (cs := (cs_plan_Plan z_plan_Plan zw_plan_Plan)) (by kernel_rfl) (by kernel_rfl) (cells_one (hS35.rd (List.Mem.head _)) (by kernel_rfl))⟩ rfl ⟨I15, zw_plan_Plan, w_p0, rfl, hl16, hS40, zok_plan_Plan, (h_p0.mono hl16)⟩
    · replace hr := cond_f hc hr
      refine W.skip ?_
      refine En.next ?_
      refine W.seq ?_
      refine W.region (l := [0, 1, 2]) (by kernel_rfl) ?_
      refine WO.vals [(0, 33, (.pointer (some ⟨b_p0, 0, none⟩)))] (by kernel_rfl) (fun _ => by kernel_rfl) ?_
      refine WO.loadN rfl (by kernel_rfl) (by kernel_rfl) rfl ((cs_lru_Entry (⟨p1, p2⟩ : lru_Entry))) (by kernel_rfl) (fun w' hw' => cells_one ((rd_f (hS32.rd (List.Mem.tail _ (List.Mem.tail _ (List.Mem.tail _ (List.Mem.head _)))))) w' hw') (by kernel_rfl)) ?_
      have hS41 := hS32.front2
      have hS42 := hS41.front2
      obtain ⟨r48, hx_r43, hr⟩ := bind_some hr
      refine WO.call rfl (by kernel_rfl) rfl (f := 28) (args := #[(.pointer (some ⟨b_p0, 0, none⟩)), (.agg (cs_lru_Entry (⟨p1, p2⟩ : lru_Entry)).toArray)]) (by kernel_rfl) (lru_Cache_cut_ok (h_p0.mono hl16) hS42 hx_r43) ?_
      rintro _ w44 ⟨I45, w_r48, rfl, hl46, hS47, h_r48⟩
      refine ⟨_, rfl, trivial, ?_⟩
      refine WO.nil ?_
      refine En.next ?_
      refine W.seq ?_
      refine W.region (l := [0, 1, 2]) (by kernel_rfl) ?_
      refine WO.vals [(0, 36, (.pointer (some ⟨b_p0, 0, none⟩)))] (by kernel_rfl) (fun _ => by kernel_rfl) ?_
      refine WO.loadN rfl (by kernel_rfl) (by kernel_rfl) rfl ((cs_lru_Entry (⟨p1, p2⟩ : lru_Entry))) (by kernel_rfl) (fun w' hw' => cells_one ((rd_f (hS47.rd (List.Mem.tail _ (List.Mem.tail _ (List.Mem.tail _ (List.Mem.head _)))))) w' hw') (by kernel_rfl)) ?_
      have hS49 := hS47.front1
      have hS50 := hS49.front1
      obtain ⟨r56, hx_r51, hr⟩ := bind_some hr
      refine WO.call rfl (by kernel_rfl) rfl (f := 27) (args := #[(.pointer (some ⟨b_p0, 0, none⟩)), (.agg (cs_lru_Entry (⟨p1, p2⟩ : lru_Entry)).toArray)]) (by kernel_rfl) (lru_Cache_lead_ok h_r48 hS50 hx_r51) ?_
      rintro _ w52 ⟨I53, w_r56, rfl, hl54, hS55, h_r56⟩
      refine ⟨_, rfl, trivial, ?_⟩
      refine WO.nil ?_
      refine En.next ?_
      refine W.seq ?_
      refine W.region (l := [0, 1, 2, 3]) (by kernel_rfl) ?_
      refine WO.vals [(0, 39, (.pointer (some ⟨b28, 0, none⟩)))] (by kernel_rfl) (fun _ => by kernel_rfl) ?_
      refine WO.loadN rfl (by kernel_rfl) (by kernel_rfl) rfl ((cs_plan_Plan x27.p w_x27.p)) (by kernel_rfl) (fun w' hw' => cells_one ((rd_f (hS55.rd (List.Mem.tail _ (List.Mem.tail _ (List.Mem.head _))))) w' hw') (by kernel_rfl)) ?_
      have hS57 := hS55.front4
      refine WO.storeBox hS57 rfl (by kernel_rfl) rfl 0 rfl rfl (by kernel_rfl) (all_one (rel := R_plan_Plan) (I := I53) (x := x27.p) ⟨w_x27.p, rfl, (h_x27.p.mono (hl46.trans hl54))⟩) (by kernel_rfl) ((cs_plan_Plan x27.p w_x27.p).toArray) (by kernel_rfl) (fun _ _ => trivial) ?_
      intro w59 hS58
      refine WO.vals [(3, 7, (.bool true))] (by kernel_rfl) (fun _ => by kernel_rfl) ?_
      refine WO.nil ?_
      refine En.next ?_
      refine W.ret ?_
      have hS60 := hS58.drop
      have hS61 := hS60.front2
      have hS62 := hS61.drop
      have hS63 := hS62.front2
      have hS64 := hS63.drop
      have he := Option.some.inj hr
      subst r
      exact En.retc2 rfl (.agg (cs_plan_Plan x27.p w_x27.p).toArray) (.bool true) ⟨_, _, rfl, run_loadVarN (cs := (cs_plan_Plan x27.p w_x27.p)) (by kernel_rfl) (by kernel_rfl) (cells_one (hS58.rd (List.Mem.head _)) (by kernel_rfl))⟩ rfl ⟨I53, w_x27.p, w_r56, rfl, ((hl16.trans hl46).trans hl54), hS64, (h_x27.p.mono (hl46.trans hl54)), h_r56⟩
noncomputable def lru_Cache_All (p0 : lru_Cache) : Option (List lru_Entry) := (lru_Cache_dead p0).bind (fun (r8 : Bool) => (some ((mget eq_lru_Entry p0.at_ z_lru_Entry).getD z_lru_link)).bind (fun (x9 : lru_link) => (loopO (fun (s : (List lru_Entry) × lru_Entry × lru_Entry) => match s with | (s19, s20, s21) => (bif (!((s20.Who == 0) && sEq s20.Name (⟨#[]⟩ : ByteArray))) then (app 24 s19 ([s20] : List lru_Entry)).bind (fun (x40 : List lru_Entry) => (some ((mget eq_lru_Entry p0.at_ s20).getD z_lru_link)).bind (fun (x57 : lru_link) => some (.inl (x40, x57.behind, s21)))) else some (.inr (s19, s21)))) (([] : List lru_Entry), x9.behind, x9.behind)).bind (fun ((s66, s67) : (List lru_Entry) × lru_Entry) => some s66)))
set_option maxHeartbeats 1000000 in
theorem lru_Cache_All_ok {E w : World} {I : Mem} {Os : List Mem} {p0 : lru_Cache} {b_p0 : Nat} {w_p0 : W_lru_Cache} (h_p0 : ok_lru_Cache I p0 w_p0) (hS : St E w I ((one b_p0 (.cells (cs_lru_Cache p0 w_p0).toArray 68 (0, 0))) :: (w_p0.at_.C) :: Os)) {r : (List lru_Entry)} (hr : lru_Cache_All p0 = some r) :
    Calls P 16 #[(.pointer (some ⟨b_p0, 0, none⟩))] w (fun e w' => ∃ (I' : Mem) (ra0 : Option Addr) (rc0 : Nat), e = .returned (.slice ra0 r.length rc0) ∧ I.Le I' ∧ St E w' I' ((one b_p0 (.cells (cs_lru_Cache p0 w_p0).toArray 68 (0, 0))) :: w_p0.at_.C :: Os) ∧ RSl 2 R_lru_Entry I' ra0 rc0 r) := by
  refine calls_W (args := [(.pointer (some ⟨b_p0, 0, none⟩))]) (fn := Try.f16) rfl rfl rfl ?_
  unfold lru_Cache_All at hr
  refine W.seq ?_
  refine W.region (l := [0]) (by kernel_rfl) ?_
  refine WO.vals [(0, 2, (.slice none 0 0))] (by kernel_rfl) (fun _ => by kernel_rfl) ?_
  refine WO.nil ?_
  refine En.next ?_
  refine W.seq ?_
  refine W.seq ?_
  refine W.region (l := [0, 1]) (by kernel_rfl) ?_
  refine WO.vals [(0, 5, (.pointer (some ⟨b_p0, 0, none⟩)))] (by kernel_rfl) (fun _ => by kernel_rfl) ?_
  have hS1 := hS.front1
  have hS2 := hS1.front1
  obtain ⟨r8, hx_r3, hr⟩ := bind_some hr
  obtain rfl : false = r8 := Option.some.inj hx_r3
  refine WO.call rfl (by kernel_rfl) rfl (f := 25) (args := #[(.pointer (some ⟨b_p0, 0, none⟩))]) (by kernel_rfl) (lru_Cache_dead_ok h_p0 hS2 hx_r3) ?_
  rintro _ w4 ⟨I5, rfl, hl6, hS7⟩
  refine ⟨_, rfl, trivial, ?_⟩
  refine WO.nil ?_
  refine En.next ?_
  refine W.cond (b := false) rfl rfl (fun hc => ?_) (fun hc => ?_)
  · cases hc
  clear hc
  refine W.skip ?_
  refine En.next ?_
  refine W.seq ?_
  refine W.region (l := [0]) (by kernel_rfl) ?_
  refine WO.vals [(0, 3, (.slice none 0 0))] (by kernel_rfl) (fun _ => by kernel_rfl) ?_
  refine WO.nil ?_
  refine En.next ?_
  refine W.seq ?_
  refine W.seq ?_
  refine W.region (l := [0, 1, 2, 3, 4, 5, 6, 7, 8]) (by kernel_rfl) ?_
  refine WO.vals [(0, 7, (.pointer (some ⟨b_p0, 0, none⟩))), (1, 8, (.pointer (some ⟨b_p0, 0, none⟩))), (2, 9, (.pointer (some ⟨b_p0, 0, none⟩)))] (by kernel_rfl) (fun _ => by kernel_rfl) ?_
  refine WO.load rfl (by kernel_rfl) (by kernel_rfl) rfl (v := (.map (some w_p0.at_.m))) (fun w' hw' => cell_one ((rd_f (hS7.rd (List.Mem.head _))) w' hw') (by kernel_rfl)) ?_
  refine WO.vals [(4, 11, (.agg (cs_lru_Entry z_lru_Entry).toArray))] (by kernel_rfl) (fun _ => by kernel_rfl) ?_
  obtain ⟨x9, hx_x9, hr⟩ := bind_some hr
  obtain ⟨v_x9, hv_x9, hq_x9⟩ := OwnMap.lookup (OwnMap.mono h_p0.at_ hl6) (t := 66) (kt := 74) (et := 76) (by kernel_rfl) key_lru_Entry z_lru_Entry (zv := (.agg (cs_lru_link z_lru_link zw_lru_link).toArray)) (z0 := z_lru_link) (by kernel_rfl) ⟨(cs_lru_link z_lru_link zw_lru_link), rfl, ⟨zw_lru_link, rfl, zok_lru_link⟩⟩
  rw [Option.some.inj hx_x9] at hv_x9
  obtain ⟨_, rfl, hv_x9⟩ := hv_x9
  obtain ⟨w_x9, rfl, h_x9⟩ := hv_x9
  refine WO.lookup rfl (by kernel_rfl) rfl rfl hq_x9 ((rd_f (hS7.rd (List.Mem.tail _ (List.Mem.head _))))) (.agg (cs_lru_link x9 w_x9).toArray) rfl ?_
  refine WO.vals [(6, 13, (.agg (cs_lru_Entry x9.behind).toArray))] (by kernel_rfl) (fun _ => by kernel_rfl) ?_
  refine WO.new hS7 rfl (by kernel_rfl) rfl (.cells (cs_lru_Entry z_lru_Entry).toArray 74 (0, 0)) (fun b => .pointer (some ⟨b, 0, none⟩)) (by kernel_rfl) (fun _ _ _ => trivial) ?_
  intro b10 w13 hS12
  refine WO.storeBox hS12 rfl (by kernel_rfl) rfl 0 rfl rfl (by kernel_rfl) (by kernel_rfl) (by kernel_rfl) ((cs_lru_Entry x9.behind).toArray) (by kernel_rfl) (fun _ _ => trivial) ?_
  intro w15 hS14
  refine WO.nil ?_
  refine En.next ?_
  refine W.block ?_
  obtain ⟨t16, hloop22, hr⟩ := bind_some hr
  have hS24 := hS14.no
  have hS25 := hS24.front1
  have hS26 := hS25.front1
  have hS27 := hS26.front3
  have hS28 := hS27.front3
  refine W.weaken (fr' := [(0, (.pointer (some ⟨b_p0, 0, none⟩))), (3, (.slice none ([] : List lru_Entry).length 0)), (4, (.pointer (some ⟨b10, 0, none⟩)))]) (W.loopO hloop22 (fun (s : (List lru_Entry) × lru_Entry × lru_Entry) fr w => match s with | (s19, s20, s21) => ∃ (I17 : Mem), ∃ (a_s19 : Option Addr), ∃ (c_s19 : Nat), ∃ (C_s19 : Mem), ∃ (b_s20 : Nat), fr = [(0, (.pointer (some ⟨b_p0, 0, none⟩))), (3, (.slice a_s19 s19.length c_s19)), (4, (.pointer (some ⟨b_s20, 0, none⟩)))] ∧ I5.Le I17 ∧ St E w I17 ((one b_p0 (.cells (cs_lru_Cache p0 w_p0).toArray 68 (0, 0))) :: (w_p0.at_.C) :: (C_s19) :: (one b_s20 (.cells (cs_lru_Entry s20).toArray 74 (0, 0))) :: Os) ∧ OwnSl 74 2 R_lru_Entry I17 C_s19 a_s19 c_s19 s19) ⟨I5, none, 0, Mem.no, b10, rfl, Mem.Le.refl _, hS28, OwnSl.nil⟩ ?_) (Sub.cons rfl (Sub.cons rfl (Sub.cons rfl Sub.nil)))
  rintro ⟨s19, s20, s21⟩ _ w29 ⟨I17, a_s19, c_s19, C_s19, b_s20, rfl, hl18, hS30, h_s19⟩ x31 hr1 hext16
  refine W.seq ?_
  refine W.seq ?_
  refine W.region (l := [0, 1, 2]) (by kernel_rfl) ?_
  refine WO.loadN rfl (by kernel_rfl) (by kernel_rfl) rfl ((cs_lru_Entry s20)) (by kernel_rfl) (fun w' hw' => cells_one ((rd_f (hS30.rd (List.Mem.tail _ (List.Mem.tail _ (List.Mem.tail _ (List.Mem.head _)))))) w' hw') (by kernel_rfl)) ?_
  refine WO.vals [(1, 15, (.agg (cs_lru_Entry z_lru_Entry).toArray))] (by kernel_rfl) (fun _ => by kernel_rfl) ?_
  refine WO.eqStruct rfl (by kernel_rfl) rfl rfl (by kernel_rfl) 50 rfl (b := ((s20.Who == 0) && (sEq s20.Name (⟨#[]⟩ : ByteArray) && true))) (by kernel_rfl) (!((s20.Who == 0) && sEq s20.Name (⟨#[]⟩ : ByteArray))) (.inr ⟨rfl, by simp only [Bool.and_true]⟩) ?_
  refine WO.nil ?_
  refine En.next ?_
  refine W.cond (b := (!((s20.Who == 0) && sEq s20.Name (⟨#[]⟩ : ByteArray)))) rfl rfl (fun hc => ?_) (fun hc => ?_)
  · replace hr1 := cond_t hc hr1
    refine W.skip ?_
    refine En.next ?_
    refine W.seq ?_
    refine W.block ?_
    refine W.region (l := [0, 1, 2, 3, 4]) (by kernel_rfl) ?_
    refine WO.vals [(0, 24, (.slice a_s19 s19.length c_s19))] (by kernel_rfl) (fun _ => by kernel_rfl) ?_
    refine WO.loadN rfl (by kernel_rfl) (by kernel_rfl) rfl ((cs_lru_Entry s20)) (by kernel_rfl) (fun w' hw' => cells_one ((rd_f (hS30.rd (List.Mem.tail _ (List.Mem.tail _ (List.Mem.tail _ (List.Mem.head _)))))) w' hw') (by kernel_rfl)) ?_
    refine WO.newSlice (rel := R_lru_Entry) (xs := ([s20] : List lru_Entry)) hS30 rfl (by kernel_rfl) rfl 74 2 [(cs_lru_Entry s20)] (by kernel_rfl) rfl ((Elr.cons rfl Elr.nil)) (fun _ _ _ => trivial) ?_
    intro a35 C33 w37 hS36 ho34
    have hS39 := hS36.front3
    obtain ⟨x40, hx_x40, hr1⟩ := bind_some hr1
    obtain ⟨h0_x40, he_x40⟩ := app_some hx_x40
    refine WO.append (e' := 74) (b := 24) (zs := (cs_lru_Entry z_lru_Entry).toArray) hS39 h_s19 rfl (by kernel_rfl) rfl (by kernel_rfl) (by kernel_rfl) (by kernel_rfl) rfl rfl rfl rfl ho34.sl (hS39.rd (List.Mem.tail _ (List.Mem.head _))) h0_x40 he_x40 (fun _ _ _ => trivial) ?_
    intro a41 c42 w43 C44 hS45 ho46
    have hS47 := hS45.front1
    have hS48 := hS47.drop
    refine WO.vals [(4, 3, (.slice a41 x40.length c42))] (by kernel_rfl) (fun _ => by kernel_rfl) ?_
    refine WO.nil ?_
    refine En.in_normal ?_
    refine En.next ?_
    refine W.seq ?_
    refine W.seq ?_
    refine W.region (l := [0]) (by kernel_rfl) ?_
    refine WO.loadN rfl (by kernel_rfl) (by kernel_rfl) rfl ((cs_lru_Entry s20)) (by kernel_rfl) (fun w' hw' => cells_one ((rd_f (hS48.rd (List.Mem.tail _ (List.Mem.tail _ (List.Mem.tail _ (List.Mem.head _)))))) w' hw') (by kernel_rfl)) ?_
    refine WO.nil ?_
    refine En.next ?_
    refine W.region (l := [0, 1]) (by kernel_rfl) ?_
    refine WO.new hS48 rfl (by kernel_rfl) rfl (.cells (cs_lru_Entry z_lru_Entry).toArray 74 (0, 0)) (fun b => .pointer (some ⟨b, 0, none⟩)) (by kernel_rfl) (fun _ _ _ => trivial) ?_
    intro b49 w52 hS51
    refine WO.storeBox hS51 rfl (by kernel_rfl) rfl 0 rfl rfl (by kernel_rfl) (by kernel_rfl) (by kernel_rfl) ((cs_lru_Entry s20).toArray) (by kernel_rfl) (fun _ _ => trivial) ?_
    intro w54 hS53
    refine WO.nil ?_
    refine En.next ?_
    have hS55 := hS53.drew
    refine W.draw (l := [0, 1, 2, 3, 4, 5, 6, 7]) (by kernel_rfl) 5 (KR I17 [one b49 (.cells (cs_lru_Entry s20).toArray 74 (0, 0)), one b_p0 (.cells (cs_lru_Cache p0 w_p0).toArray 68 (0, 0)), w_p0.at_.C]) qR (.back (by kernel_rfl)) (by kernel_rfl) (KR.cons (hS55.rd (List.Mem.head _)) (KR.cons (hS55.rd (List.Mem.tail _ (List.Mem.tail _ (List.Mem.head _)))) (KR.cons (hS55.rd (List.Mem.tail _ (List.Mem.tail _ (List.Mem.tail _ (List.Mem.head _))))) (KR.nil hS55.im)))) ?_
    generalize World.drew _ = w56 at *
    refine WO.vals [(0, 17, (.pointer (some ⟨b_p0, 0, none⟩))), (1, 18, (.pointer (some ⟨b_p0, 0, none⟩))), (2, 19, (.pointer (some ⟨b_p0, 0, none⟩)))] (by kernel_rfl) (fun _ => by kernel_rfl) ?_
    refine WO.load rfl (by kernel_rfl) (by kernel_rfl) rfl (v := (.map (some w_p0.at_.m))) (fun w' hw' => cell_one ((rd_c (List.Mem.tail _ (List.Mem.head _)) (hS55.rd (List.Mem.tail _ (List.Mem.tail _ (List.Mem.head _))))) w' hw') (by kernel_rfl)) ?_
    refine WO.loadN rfl (by kernel_rfl) (by kernel_rfl) rfl ((cs_lru_Entry s20)) (by kernel_rfl) (fun w' hw' => cells_one ((rd_c (List.Mem.head _) (hS55.rd (List.Mem.head _))) w' hw') (by kernel_rfl)) ?_
    refine WO.tail rfl ?_
    obtain ⟨x57, hx_x57, hr1⟩ := bind_some hr1
    obtain ⟨v_x57, hv_x57, hq_x57⟩ := OwnMap.lookup (OwnMap.mono h_p0.at_ (hl6.trans hl18)) (t := 66) (kt := 74) (et := 76) (by kernel_rfl) key_lru_Entry s20 (zv := (.agg (cs_lru_link z_lru_link zw_lru_link).toArray)) (z0 := z_lru_link) (by kernel_rfl) ⟨(cs_lru_link z_lru_link zw_lru_link), rfl, ⟨zw_lru_link, rfl, zok_lru_link⟩⟩
    rw [Option.some.inj hx_x57] at hv_x57
    obtain ⟨_, rfl, hv_x57⟩ := hv_x57
    obtain ⟨w_x57, rfl, h_x57⟩ := hv_x57
    refine WO.lookup rfl (by kernel_rfl) rfl rfl hq_x57 ((rd_f (hS55.rd (List.Mem.tail _ (List.Mem.tail _ (List.Mem.tail _ (List.Mem.head _))))))) (.agg (cs_lru_link x57 w_x57).toArray) rfl ?_
    refine WO.vals [(6, 23, (.agg (cs_lru_Entry x57.behind).toArray))] (by kernel_rfl) (fun _ => by kernel_rfl) ?_
    refine WO.storeBox hS55 rfl (by kernel_rfl) rfl 0 rfl rfl (by kernel_rfl) (by kernel_rfl) (by kernel_rfl) ((cs_lru_Entry x57.behind).toArray) (by kernel_rfl) (fun _ _ => trivial) ?_
    intro w59 hS58
    refine WO.nil ?_
    have hS60 := hS58.front4
    have hS61 := hS60.drop
    have hS62 := hS61.front1
    have hS63 := hS62.front3
    have hS64 := hS63.front3
    refine En.weaken (fr' := [(0, (.pointer (some ⟨b_p0, 0, none⟩))), (3, (.slice a41 x40.length c42)), (4, (.pointer (some ⟨b49, 0, none⟩)))]) (En.round ⟨(x40, x57.behind, s21), (Option.some.inj hr1).symm, I17, a41, c42, C44, b49, rfl, hl18, hS64, ho46⟩) (Sub.cons rfl (Sub.cons rfl (Sub.cons rfl Sub.nil)))
  · replace hr1 := cond_f hc hr1
    refine W.exit ?_
    refine En.nx_exit ?_
    refine En.rd_exit ?_
    have ht := hext16 _ (Option.some.inj hr1).symm
    subst t16
    refine En.in_hit ?_
    refine En.next ?_
    refine W.seq ?_
    refine W.region (l := [0, 1]) (by kernel_rfl) ?_
    refine WO.vals [(0, 29, (.slice a_s19 s19.length c_s19))] (by kernel_rfl) (fun _ => by kernel_rfl) ?_
    have hS74 := hS30.front2
    obtain ⟨I75, hl76, hS78, hp77⟩ := OwnSl.pub h_s19 hS74
    refine WO.vals [(1, 2, (.slice a_s19 s19.length c_s19))] (by kernel_rfl) (fun _ => by kernel_rfl) ?_
    refine WO.nil ?_
    refine En.next ?_
    refine W.ret ?_
    have hS79 := hS78.front2
    have hS80 := hS79.drop
    have he := Option.some.inj hr
    subst r
    exact En.ret1 rfl (.slice a_s19 s19.length c_s19) rfl ⟨I75, a_s19, c_s19, rfl, ((hl6.trans hl18).trans hl76), hS80, hp77⟩
def registrarlaw26_mark (p0 : plan_Plan) : Option Int := (bif ((p0.Insert.length : Int) != 1) then some (-1) else (idx p0.Insert 0).bind (fun (x6 : Int) => some x6))
set_option maxHeartbeats 1000000 in
theorem registrarlaw26_mark_ok {E w : World} {I : Mem} {Os : List Mem} {p0 : plan_Plan} {w_p0 : W_plan_Plan} (h_p0 : ok_plan_Plan I p0 w_p0) (hS : St E w I Os) {r : Int} (hr : registrarlaw26_mark p0 = some r) :
    Calls P 15 #[(.agg (cs_plan_Plan p0 w_p0).toArray)] w (fun e w' => ∃ (I' : Mem), e = .returned (.int .i64 r) ∧ I.Le I' ∧ St E w' I' Os) := by
  refine calls_W (args := [(.agg (cs_plan_Plan p0 w_p0).toArray)]) (fn := Try.f15) rfl rfl rfl ?_
  unfold registrarlaw26_mark at hr
  refine W.seq ?_
  refine W.region (l := [0, 1]) (by kernel_rfl) ?_
  refine WO.new hS rfl (by kernel_rfl) rfl (.cells (cs_plan_Plan p0 w_p0).toArray 55 (0, 0)) (fun b => .pointer (some ⟨b, 0, none⟩)) (by kernel_rfl) (fun _ _ _ => trivial) ?_
  intro b1 w4 hS3
  refine WO.vals [(1, 2, (.int .i64 0))] (by kernel_rfl) (fun _ => by kernel_rfl) ?_
  refine WO.nil ?_
  refine En.next ?_
  refine W.seq ?_
  refine W.seq ?_
  refine W.region (l := [0, 1, 2, 3]) (by kernel_rfl) ?_
  refine WO.vals [(0, 3, (.pointer (some ⟨b1, 27, none⟩)))] (by kernel_rfl) (fun _ => by kernel_rfl) ?_
  refine WO.load rfl (by kernel_rfl) (by kernel_rfl) rfl (v := (.slice w_p0.Insert.a p0.Insert.length w_p0.Insert.c)) (fun w' hw' => cell_one ((rd_f (hS3.rd (List.Mem.head _))) w' hw') (by kernel_rfl)) ?_
  refine WO.vals [(2, 5, (.int .i64 (p0.Insert.length : Int))), (3, 6, (.bool ((p0.Insert.length : Int) != 1)))] (by kernel_rfl) (fun _ => by kernel_rfl) ?_
  refine WO.nil ?_
  refine En.next ?_
  refine W.cond (b := ((p0.Insert.length : Int) != 1)) rfl rfl (fun hc => ?_) (fun hc => ?_)
  · replace hr := cond_t hc hr
    refine W.seq ?_
    refine W.region (l := [0]) (by kernel_rfl) ?_
    refine WO.vals [(0, 2, (.int .i64 (-1)))] (by kernel_rfl) (fun _ => by kernel_rfl) ?_
    refine WO.nil ?_
    refine En.next ?_
    refine W.ret ?_
    refine En.nx_ret ?_
    have hS5 := hS3.drop
    have he := Option.some.inj hr
    subst r
    exact En.ret1 rfl (.int .i64 (-1)) rfl ⟨I, rfl, Mem.Le.refl _, hS5⟩
  · replace hr := cond_f hc hr
    refine W.skip ?_
    refine En.next ?_
    refine W.seq ?_
    refine W.region (l := [0, 1, 2, 3, 4]) (by kernel_rfl) ?_
    refine WO.vals [(0, 7, (.pointer (some ⟨b1, 27, none⟩)))] (by kernel_rfl) (fun _ => by kernel_rfl) ?_
    refine WO.load rfl (by kernel_rfl) (by kernel_rfl) rfl (v := (.slice w_p0.Insert.a p0.Insert.length w_p0.Insert.c)) (fun w' hw' => cell_one ((rd_f (hS3.rd (List.Mem.head _))) w' hw') (by kernel_rfl)) ?_
    obtain ⟨x6, hx_x6, hr⟩ := bind_some hr
    obtain ⟨h0_x6, h1_x6, hx_x6⟩ := idx_some hx_x6
    obtain ⟨ha_x6, cs_x6, hn_x6, hr_x6, hc_x6⟩ := (h_p0.Insert).el _ _ hx_x6
    obtain rfl := hr_x6
    refine WO.indexAddr (e := 3) (sz := 1) rfl (by kernel_rfl) (by kernel_rfl) (by kernel_rfl) rfl ha_x6 rfl h0_x6 h1_x6 ?_
    refine WO.load rfl (by kernel_rfl) (by kernel_rfl) rfl (v := (.int .i64 x6)) (fun w' hw' => hc_x6.cell0 (by kernel_rfl) ((rd_f hS3.im) w' hw')) ?_
    refine WO.vals [(4, 2, (.int .i64 x6))] (by kernel_rfl) (fun _ => by kernel_rfl) ?_
    refine WO.nil ?_
    refine En.next ?_
    refine W.ret ?_
    have hS7 := hS3.drop
    have he := Option.some.inj hr
    subst r
    exact En.ret1 rfl (.int .i64 x6) rfl ⟨I, rfl, Mem.Le.refl _, hS7⟩
noncomputable def registrarlaw26_works  : Option Bool := (lru_New 2).bind (fun (r6 : lru_Cache) => (registrarlaw26_made (⟨#[116]⟩ : ByteArray) 1).bind (fun (r12 : plan_Plan) => (lru_Cache_Put r6 1 (⟨#[97]⟩ : ByteArray) r12).bind (fun ((r20, r21) : Int × lru_Cache) => (registrarlaw26_made (⟨#[116]⟩ : ByteArray) 2).bind (fun (r27 : plan_Plan) => (lru_Cache_Put r21 1 (⟨#[98]⟩ : ByteArray) r27).bind (fun ((r35, r36) : Int × lru_Cache) => (lru_Cache_Get r36 1 (⟨#[97]⟩ : ByteArray)).bind (fun ((r44, r45, r46) : plan_Plan × Bool × lru_Cache) => (registrarlaw26_made (⟨#[117]⟩ : ByteArray) 3).bind (fun (r58 : plan_Plan) => (lru_Cache_Put r46 2 (⟨#[99]⟩ : ByteArray) r58).bind (fun ((r66, r67) : Int × lru_Cache) => (lru_Cache_All r67).bind (fun (r75 : List lru_Entry) => ((bif r45 then (registrarlaw26_mark r44).bind (fun (r85 : Int) => some (r85 == 1)) else some false)).bind (fun (j76 : Bool) => ((bif (j76 && ((r75.length : Int) == 2)) then (idx r75 0).bind (fun (x100 : lru_Entry) => some ((x100.Who == 2) && sEq x100.Name (⟨#[99]⟩ : ByteArray))) else some false)).bind (fun (j96 : Bool) => ((bif j96 then (idx r75 1).bind (fun (x107 : lru_Entry) => some ((x107.Who == 1) && sEq x107.Name (⟨#[97]⟩ : ByteArray))) else some false)).bind (fun (j103 : Bool) => some j103))))))))))))
set_option maxHeartbeats 1000000 in
theorem registrarlaw26_works_ok {E w : World} {I : Mem} {Os : List Mem} (hS : St E w I Os) {r : Bool} (hr : registrarlaw26_works = some r) :
    Calls P 9 #[] w (fun e w' => ∃ (I' : Mem), e = .returned (.bool r) ∧ I.Le I' ∧ St E w' I' Os) := by
  refine calls_W (args := []) (fn := Try.f9) rfl rfl rfl ?_
  unfold registrarlaw26_works at hr
  refine W.seq ?_
  refine W.region (l := [0]) (by kernel_rfl) ?_
  refine WO.vals [(0, 0, (.bool false))] (by kernel_rfl) (fun _ => by kernel_rfl) ?_
  refine WO.nil ?_
  refine En.next ?_
  refine W.seq ?_
  refine W.region (l := [0, 1]) (by kernel_rfl) ?_
  obtain ⟨r6, hx_r1, hr⟩ := bind_some hr
  refine WO.call rfl (by kernel_rfl) rfl (f := 6) (args := #[(.int .i64 2)]) (by kernel_rfl) (lru_New_ok  hS hx_r1) ?_
  rintro _ w2 ⟨I3, b_r6, w_r6, rfl, hl4, hS5, h_r6⟩
  refine ⟨_, rfl, trivial, ?_⟩
  refine WO.vals [(1, 1, (.pointer (some ⟨b_r6, 0, none⟩)))] (by kernel_rfl) (fun _ => by kernel_rfl) ?_
  refine WO.nil ?_
  refine En.next ?_
  refine W.seq ?_
  refine W.region (l := [0, 1, 2]) (by kernel_rfl) ?_
  refine WO.vals [(0, 6, (.pointer (some ⟨b_r6, 0, none⟩)))] (by kernel_rfl) (fun _ => by kernel_rfl) ?_
  obtain ⟨r12, hx_r7, hr⟩ := bind_some hr
  refine WO.call rfl (by kernel_rfl) rfl (f := 13) (args := #[(.string (⟨#[116]⟩ : ByteArray)), (.int .i64 1)]) (by kernel_rfl) (registrarlaw26_made_ok  hS5 hx_r7) ?_
  rintro _ w8 ⟨I9, w_r12, rfl, hl10, hS11, h_r12⟩
  refine ⟨_, rfl, trivial, ?_⟩
  have hS13 := hS11.front1
  have hS14 := hS13.front1
  obtain ⟨⟨r20, r21⟩, hx_r15, hr⟩ := bind_some hr
  refine WO.call rfl (by kernel_rfl) rfl (f := 12) (args := #[(.pointer (some ⟨b_r6, 0, none⟩)), (.int .i64 1), (.string (⟨#[97]⟩ : ByteArray)), (.agg (cs_plan_Plan r12 w_r12).toArray)]) (by kernel_rfl) (lru_Cache_Put_ok (h_r6.mono hl10) h_r12 hS14 hx_r15) ?_
  rintro _ w16 ⟨I17, w_r21, rfl, hl18, hS19, h_r21⟩
  refine ⟨_, rfl, trivial, ?_⟩
  refine WO.nil ?_
  refine En.next ?_
  refine W.seq ?_
  refine W.region (l := [0, 1, 2]) (by kernel_rfl) ?_
  refine WO.vals [(0, 9, (.pointer (some ⟨b_r6, 0, none⟩)))] (by kernel_rfl) (fun _ => by kernel_rfl) ?_
  obtain ⟨r27, hx_r22, hr⟩ := bind_some hr
  refine WO.call rfl (by kernel_rfl) rfl (f := 13) (args := #[(.string (⟨#[116]⟩ : ByteArray)), (.int .i64 2)]) (by kernel_rfl) (registrarlaw26_made_ok  hS19 hx_r22) ?_
  rintro _ w23 ⟨I24, w_r27, rfl, hl25, hS26, h_r27⟩
  refine ⟨_, rfl, trivial, ?_⟩
  have hS28 := hS26.front1
  have hS29 := hS28.front1
  obtain ⟨⟨r35, r36⟩, hx_r30, hr⟩ := bind_some hr
  refine WO.call rfl (by kernel_rfl) rfl (f := 12) (args := #[(.pointer (some ⟨b_r6, 0, none⟩)), (.int .i64 1), (.string (⟨#[98]⟩ : ByteArray)), (.agg (cs_plan_Plan r27 w_r27).toArray)]) (by kernel_rfl) (lru_Cache_Put_ok (h_r21.mono hl25) h_r27 hS29 hx_r30) ?_
  rintro _ w31 ⟨I32, w_r36, rfl, hl33, hS34, h_r36⟩
  refine ⟨_, rfl, trivial, ?_⟩
  refine WO.nil ?_
  refine En.next ?_
  refine W.seq ?_
  refine W.region (l := [0, 1, 2, 3, 4, 5, 6, 7]) (by kernel_rfl) ?_
  refine WO.vals [(0, 13, (.pointer (some ⟨b_r6, 0, none⟩)))] (by kernel_rfl) (fun _ => by kernel_rfl) ?_
  have hS37 := hS34.front1
  have hS38 := hS37.front1
  obtain ⟨⟨r44, r45, r46⟩, hx_r39, hr⟩ := bind_some hr
  refine WO.call rfl (by kernel_rfl) rfl (f := 14) (args := #[(.pointer (some ⟨b_r6, 0, none⟩)), (.int .i64 1), (.string (⟨#[97]⟩ : ByteArray))]) (by kernel_rfl) (lru_Cache_Get_ok h_r36 hS38 hx_r39) ?_
  rintro _ w40 ⟨I41, w_r44, w_r46, rfl, hl42, hS43, h_r44, h_r46⟩
  refine ⟨_, rfl, trivial, ?_⟩
  refine WO.vals [(2, 12, (.tuple #[(.agg (cs_plan_Plan r44 w_r44).toArray), (.bool r45)])), (3, 15, (.agg (cs_plan_Plan r44 w_r44).toArray)), (4, 16, (.bool r45))] (by kernel_rfl) (fun _ => by kernel_rfl) ?_
  refine WO.new hS43 rfl (by kernel_rfl) rfl (.cells (cs_plan_Plan z_plan_Plan zw_plan_Plan).toArray 55 (0, 0)) (fun b => .pointer (some ⟨b, 0, none⟩)) (by kernel_rfl) (fun _ _ _ => trivial) ?_
  intro b47 w50 hS49
  refine WO.storeBox hS49 rfl (by kernel_rfl) rfl 0 rfl rfl (by kernel_rfl) (all_one (rel := R_plan_Plan) (I := I41) (x := r44) ⟨w_r44, rfl, h_r44⟩) (by kernel_rfl) ((cs_plan_Plan r44 w_r44).toArray) (by kernel_rfl) (fun _ _ => trivial) ?_
  intro w52 hS51
  refine WO.vals [(7, 3, (.bool r45))] (by kernel_rfl) (fun _ => by kernel_rfl) ?_
  refine WO.nil ?_
  refine En.next ?_
  refine W.seq ?_
  refine W.region (l := [0, 1, 2]) (by kernel_rfl) ?_
  refine WO.vals [(0, 17, (.pointer (some ⟨b_r6, 0, none⟩)))] (by kernel_rfl) (fun _ => by kernel_rfl) ?_
  obtain ⟨r58, hx_r53, hr⟩ := bind_some hr
  refine WO.call rfl (by kernel_rfl) rfl (f := 13) (args := #[(.string (⟨#[117]⟩ : ByteArray)), (.int .i64 3)]) (by kernel_rfl) (registrarlaw26_made_ok  hS51 hx_r53) ?_
  rintro _ w54 ⟨I55, w_r58, rfl, hl56, hS57, h_r58⟩
  refine ⟨_, rfl, trivial, ?_⟩
  have hS59 := hS57.front2
  have hS60 := hS59.front2
  obtain ⟨⟨r66, r67⟩, hx_r61, hr⟩ := bind_some hr
  refine WO.call rfl (by kernel_rfl) rfl (f := 12) (args := #[(.pointer (some ⟨b_r6, 0, none⟩)), (.int .i64 2), (.string (⟨#[99]⟩ : ByteArray)), (.agg (cs_plan_Plan r58 w_r58).toArray)]) (by kernel_rfl) (lru_Cache_Put_ok (h_r46.mono hl56) h_r58 hS60 hx_r61) ?_
  rintro _ w62 ⟨I63, w_r67, rfl, hl64, hS65, h_r67⟩
  refine ⟨_, rfl, trivial, ?_⟩
  refine WO.nil ?_
  refine En.next ?_
  refine W.seq ?_
  refine W.region (l := [0, 1, 2]) (by kernel_rfl) ?_
  refine WO.vals [(0, 20, (.pointer (some ⟨b_r6, 0, none⟩)))] (by kernel_rfl) (fun _ => by kernel_rfl) ?_
  have hS68 := hS65.front1
  have hS69 := hS68.front1
  obtain ⟨r75, hx_r70, hr⟩ := bind_some hr
  refine WO.call rfl (by kernel_rfl) rfl (f := 16) (args := #[(.pointer (some ⟨b_r6, 0, none⟩))]) (by kernel_rfl) (lru_Cache_All_ok h_r67 hS69 hx_r70) ?_
  rintro _ w71 ⟨I72, a_r75, c_r75, rfl, hl73, hS74, h_r75⟩
  refine ⟨_, rfl, trivial, ?_⟩
  refine WO.vals [(2, 4, (.slice a_r75 r75.length c_r75))] (by kernel_rfl) (fun _ => by kernel_rfl) ?_
  refine WO.nil ?_
  refine En.next ?_
  refine W.seq ?_
  refine W.region (l := [0, 1, 2, 3, 4, 5, 6, 7, 8, 9, 10, 11, 12, 13, 14, 15, 16, 17, 18, 19, 20, 21, 22, 23, 24, 25]) (by kernel_rfl) ?_
  refine WO.vals [(0, 22, (.bool r45)), (1, 23, (.bool r45))] (by kernel_rfl) (fun _ => by kernel_rfl) ?_
  obtain ⟨j76, hr1, hr⟩ := bind_some hr
  refine WO.join (l1 := [2, 3, 4, 5]) (l2 := [6, 7, 8, 9, 10, 11, 12, 13, 14, 15, 16, 17, 18, 19, 20, 21, 22, 23, 24, 25]) (J := (fun fr w => ∃ (I78 : Mem), fr = [(4, (.slice a_r75 r75.length c_r75)), (27, (.bool j76))] ∧ I72.Le I78 ∧ St E w I78 Os)) ?restj76 ?waysj76
  case waysj76 =>
    refine WO.caseb r45 (fun hc => ?_) (fun hc => ?_)
    · replace hr1 := cond_t hc hr1
      refine WO.reslot 23 rfl (show Value.bool r45 = Value.bool true by rw [hc]) ?_
      refine WO.loadN rfl (by kernel_rfl) (by kernel_rfl) rfl ((cs_plan_Plan r44 w_r44)) (by kernel_rfl) (fun w' hw' => cells_one ((rd_f (hS74.rd (List.Mem.tail _ (List.Mem.tail _ (List.Mem.head _))))) w' hw') (by kernel_rfl)) ?_
      obtain ⟨r85, hx_r80, hr1⟩ := bind_some hr1
      refine WO.call rfl (by kernel_rfl) rfl (f := 15) (args := #[(.agg (cs_plan_Plan r44 w_r44).toArray)]) (by kernel_rfl) (registrarlaw26_mark_ok (h_r44.mono ((hl56.trans hl64).trans hl73)) hS74 hx_r80) ?_
      rintro _ w81 ⟨I82, rfl, hl83, hS84⟩
      refine ⟨_, rfl, trivial, ?_⟩
      refine WO.vals [(4, 26, (.bool (r85 == 1))), (5, 27, (.bool (r85 == 1)))] (by kernel_rfl) (fun _ => by kernel_rfl) ?_
      have hS86 := hS84.drop
      have hS87 := hS86.drop
      have hS88 := hS87.drop
      have he := Option.some.inj hr1
      subst j76
      refine WO.weaken (fr' := [(4, (.slice a_r75 r75.length c_r75)), (27, (.bool (r85 == 1)))]) (WO.meet ⟨I82, rfl, hl83, hS88⟩) (Sub.cons rfl (Sub.cons rfl Sub.nil))
    · replace hr1 := cond_f hc hr1
      refine WO.reslot 23 rfl (show Value.bool r45 = Value.bool false by rw [hc]) ?_
      refine WO.pass rfl (by kernel_rfl) rfl ?_
      refine WO.pass rfl (by kernel_rfl) rfl ?_
      refine WO.pass rfl (by kernel_rfl) rfl ?_
      refine WO.vals [(5, 27, (.bool false))] (by kernel_rfl) (fun _ => by kernel_rfl) ?_
      have hS89 := hS74.drop
      have hS90 := hS89.drop
      have hS91 := hS90.drop
      have he := Option.some.inj hr1
      subst j76
      refine WO.weaken (fr' := [(4, (.slice a_r75 r75.length c_r75)), (27, (.bool false))]) (WO.meet ⟨I72, rfl, Mem.Le.refl _, hS91⟩) (Sub.cons rfl (Sub.cons rfl Sub.nil))
  case restj76 =>
    rintro _ w92 ⟨I78, rfl, hl79, hS93⟩
    refine WO.vals [(6, 28, (.bool j76))] (by kernel_rfl) (fun _ => by kernel_rfl) ?_
    refine WO.join (l1 := [7, 8, 9, 10]) (l2 := [11, 12, 13, 14, 15, 16, 17, 18, 19, 20, 21, 22, 23, 24, 25]) (J := fun frx wx => frx = [(32, (.bool (j76 && ((r75.length : Int) == 2)))), (4, (.slice a_r75 r75.length c_r75))] ∧ w92 = wx) ?restm94 ?waysm94
    case waysm94 =>
      refine WO.caseb j76 (fun hc => ?_) (fun hc => ?_)
      · skip
        refine WO.reslot 28 rfl (show Value.bool j76 = Value.bool true by rw [hc]) ?_
        refine WO.vals [(7, 29, (.slice a_r75 r75.length c_r75)), (8, 30, (.int .i64 (r75.length : Int))), (9, 31, (.bool ((r75.length : Int) == 2))), (10, 32, (.bool ((r75.length : Int) == 2)))] (by kernel_rfl) (fun _ => by kernel_rfl) ?_
        refine WO.weaken (fr' := [(32, (.bool (j76 && ((r75.length : Int) == 2)))), (4, (.slice a_r75 r75.length c_r75))]) (WO.meet ⟨rfl, rfl⟩) (Sub.cons (by rw [hc]; rfl) (Sub.cons rfl Sub.nil))
      · skip
        refine WO.reslot 28 rfl (show Value.bool j76 = Value.bool false by rw [hc]) ?_
        refine WO.pass rfl (by kernel_rfl) rfl ?_
        refine WO.pass rfl (by kernel_rfl) rfl ?_
        refine WO.pass rfl (by kernel_rfl) rfl ?_
        refine WO.vals [(10, 32, (.bool false))] (by kernel_rfl) (fun _ => by kernel_rfl) ?_
        refine WO.weaken (fr' := [(32, (.bool (j76 && ((r75.length : Int) == 2)))), (4, (.slice a_r75 r75.length c_r75))]) (WO.meet ⟨rfl, rfl⟩) (Sub.cons (by rw [hc]; rfl) (Sub.cons rfl Sub.nil))
    case restm94 =>
      rintro _ _ ⟨rfl, rfl⟩
      refine WO.vals [(11, 33, (.bool (j76 && ((r75.length : Int) == 2))))] (by kernel_rfl) (fun _ => by kernel_rfl) ?_
      obtain ⟨j96, hr1, hr⟩ := bind_some hr
      refine WO.join (l1 := [12, 13, 14, 15, 16, 17]) (l2 := [18, 19, 20, 21, 22, 23, 24, 25]) (J := (fun fr w => ∃ (I98 : Mem), fr = [(4, (.slice a_r75 r75.length c_r75)), (39, (.bool j96))] ∧ I78.Le I98 ∧ St E w I98 Os)) ?restj96 ?waysj96
      case waysj96 =>
        refine WO.caseb (j76 && ((r75.length : Int) == 2)) (fun hc => ?_) (fun hc => ?_)
        · replace hr1 := cond_t hc hr1
          refine WO.reslot 33 rfl (show Value.bool (j76 && ((r75.length : Int) == 2)) = Value.bool true by rw [hc]) ?_
          refine WO.vals [(12, 34, (.slice a_r75 r75.length c_r75))] (by kernel_rfl) (fun _ => by kernel_rfl) ?_
          obtain ⟨x100, hx_x100, hr1⟩ := bind_some hr1
          obtain ⟨h0_x100, h1_x100, hx_x100⟩ := idx_some hx_x100
          obtain ⟨ha_x100, cs_x100, hn_x100, hr_x100, hc_x100⟩ := ((RSl.mono h_r75 hl79)).el _ _ hx_x100
          obtain rfl := hr_x100
          refine WO.indexAddr (e := 74) (sz := 2) rfl (by kernel_rfl) (by kernel_rfl) (by kernel_rfl) rfl ha_x100 rfl h0_x100 h1_x100 ?_
          refine WO.loadN rfl (by kernel_rfl) (by kernel_rfl) rfl ((cs_lru_Entry x100)) (by kernel_rfl) (fun w' hw' => hc_x100.cells (k := 0) (by kernel_rfl) rfl ((rd_f hS93.im) w' hw')) ?_
          refine WO.vals [(15, 37, (.agg (cs_lru_Entry (⟨2, (⟨#[99]⟩ : ByteArray)⟩ : lru_Entry)).toArray))] (by kernel_rfl) (fun _ => by kernel_rfl) ?_
          refine WO.eqStruct rfl (by kernel_rfl) rfl rfl (by kernel_rfl) 50 rfl (b := ((x100.Who == 2) && (sEq x100.Name (⟨#[99]⟩ : ByteArray) && true))) (by kernel_rfl) ((x100.Who == 2) && sEq x100.Name (⟨#[99]⟩ : ByteArray)) (.inl ⟨rfl, by simp only [Bool.and_true]⟩) ?_
          refine WO.vals [(17, 39, (.bool ((x100.Who == 2) && sEq x100.Name (⟨#[99]⟩ : ByteArray))))] (by kernel_rfl) (fun _ => by kernel_rfl) ?_
          have he := Option.some.inj hr1
          subst j96
          refine WO.weaken (fr' := [(4, (.slice a_r75 r75.length c_r75)), (39, (.bool ((x100.Who == 2) && sEq x100.Name (⟨#[99]⟩ : ByteArray))))]) (WO.meet ⟨I78, rfl, Mem.Le.refl _, hS93⟩) (Sub.cons rfl (Sub.cons rfl Sub.nil))
        · replace hr1 := cond_f hc hr1
          refine WO.reslot 33 rfl (show Value.bool (j76 && ((r75.length : Int) == 2)) = Value.bool false by rw [hc]) ?_
          refine WO.pass rfl (by kernel_rfl) rfl ?_
          refine WO.pass rfl (by kernel_rfl) rfl ?_
          refine WO.pass rfl (by kernel_rfl) rfl ?_
          refine WO.pass rfl (by kernel_rfl) rfl ?_
          refine WO.pass rfl (by kernel_rfl) rfl ?_
          refine WO.vals [(17, 39, (.bool false))] (by kernel_rfl) (fun _ => by kernel_rfl) ?_
          have he := Option.some.inj hr1
          subst j96
          refine WO.weaken (fr' := [(4, (.slice a_r75 r75.length c_r75)), (39, (.bool false))]) (WO.meet ⟨I78, rfl, Mem.Le.refl _, hS93⟩) (Sub.cons rfl (Sub.cons rfl Sub.nil))
      case restj96 =>
        rintro _ w101 ⟨I98, rfl, hl99, hS102⟩
        refine WO.vals [(18, 40, (.bool j96))] (by kernel_rfl) (fun _ => by kernel_rfl) ?_
        obtain ⟨j103, hr1, hr⟩ := bind_some hr
        refine WO.join (l1 := [19, 20, 21, 22, 23, 24]) (l2 := [25]) (J := (fun fr w => ∃ (I105 : Mem), fr = [(46, (.bool j103))] ∧ I98.Le I105 ∧ St E w I105 Os)) ?restj103 ?waysj103
        case waysj103 =>
          refine WO.caseb j96 (fun hc => ?_) (fun hc => ?_)
          · replace hr1 := cond_t hc hr1
            refine WO.reslot 40 rfl (show Value.bool j96 = Value.bool true by rw [hc]) ?_
            refine WO.vals [(19, 41, (.slice a_r75 r75.length c_r75))] (by kernel_rfl) (fun _ => by kernel_rfl) ?_
            obtain ⟨x107, hx_x107, hr1⟩ := bind_some hr1
            obtain ⟨h0_x107, h1_x107, hx_x107⟩ := idx_some hx_x107
            obtain ⟨ha_x107, cs_x107, hn_x107, hr_x107, hc_x107⟩ := ((RSl.mono h_r75 (hl79.trans hl99))).el _ _ hx_x107
            obtain rfl := hr_x107
            refine WO.indexAddr (e := 74) (sz := 2) rfl (by kernel_rfl) (by kernel_rfl) (by kernel_rfl) rfl ha_x107 rfl h0_x107 h1_x107 ?_
            refine WO.loadN rfl (by kernel_rfl) (by kernel_rfl) rfl ((cs_lru_Entry x107)) (by kernel_rfl) (fun w' hw' => hc_x107.cells (k := 0) (by kernel_rfl) rfl ((rd_f hS102.im) w' hw')) ?_
            refine WO.vals [(22, 44, (.agg (cs_lru_Entry (⟨1, (⟨#[97]⟩ : ByteArray)⟩ : lru_Entry)).toArray))] (by kernel_rfl) (fun _ => by kernel_rfl) ?_
            refine WO.eqStruct rfl (by kernel_rfl) rfl rfl (by kernel_rfl) 50 rfl (b := ((x107.Who == 1) && (sEq x107.Name (⟨#[97]⟩ : ByteArray) && true))) (by kernel_rfl) ((x107.Who == 1) && sEq x107.Name (⟨#[97]⟩ : ByteArray)) (.inl ⟨rfl, by simp only [Bool.and_true]⟩) ?_
            refine WO.vals [(24, 46, (.bool ((x107.Who == 1) && sEq x107.Name (⟨#[97]⟩ : ByteArray))))] (by kernel_rfl) (fun _ => by kernel_rfl) ?_
            have he := Option.some.inj hr1
            subst j103
            refine WO.weaken (fr' := [(46, (.bool ((x107.Who == 1) && sEq x107.Name (⟨#[97]⟩ : ByteArray))))]) (WO.meet ⟨I98, rfl, Mem.Le.refl _, hS102⟩) (Sub.cons rfl Sub.nil)
          · replace hr1 := cond_f hc hr1
            refine WO.reslot 40 rfl (show Value.bool j96 = Value.bool false by rw [hc]) ?_
            refine WO.pass rfl (by kernel_rfl) rfl ?_
            refine WO.pass rfl (by kernel_rfl) rfl ?_
            refine WO.pass rfl (by kernel_rfl) rfl ?_
            refine WO.pass rfl (by kernel_rfl) rfl ?_
            refine WO.pass rfl (by kernel_rfl) rfl ?_
            refine WO.vals [(24, 46, (.bool false))] (by kernel_rfl) (fun _ => by kernel_rfl) ?_
            have he := Option.some.inj hr1
            subst j103
            refine WO.weaken (fr' := [(46, (.bool false))]) (WO.meet ⟨I98, rfl, Mem.Le.refl _, hS102⟩) (Sub.cons rfl Sub.nil)
        case restj103 =>
          rintro _ w108 ⟨I105, rfl, hl106, hS109⟩
          refine WO.vals [(25, 0, (.bool j103))] (by kernel_rfl) (fun _ => by kernel_rfl) ?_
          refine WO.nil ?_
          refine En.next ?_
          refine W.ret ?_
          have he := Option.some.inj hr
          subst r
          exact En.ret1 rfl (.bool j103) rfl ⟨I105, rfl, (((((((((((hl4.trans hl10).trans hl18).trans hl25).trans hl33).trans hl42).trans hl56).trans hl64).trans hl73).trans hl79).trans hl99).trans hl106), hS109⟩
end Go.Proofs.Ytmclgkomnpdgjaa
