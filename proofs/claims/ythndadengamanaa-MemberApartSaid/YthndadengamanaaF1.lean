/- What functions of the program come to, each by a plain one. Conditions: none. -/
import Derived.Test.YthndadengamanaaGv24
import Derived.Test.YthndadengamanaaProg
import Derived.Test.YthndadengamanaaGvS
import Derived.Test.YthndadengamanaaShelf
set_option maxRecDepth 100000
namespace Go.Proofs.Ythndadengamanaa
open Go.Gv
noncomputable abbrev P := Try.prog
structure registrarlaw18_Act where
  Do : Int
  Name : ByteArray
  Role : ByteArray
def cs_registrarlaw18_Act (x : registrarlaw18_Act) : List Value := [.int .i64 x.Do, .string x.Name, .string x.Role]
def R_registrarlaw18_Act (I : Mem) (cs : List Value) (x : registrarlaw18_Act) : Prop := cs = cs_registrarlaw18_Act x
instance : Mono R_registrarlaw18_Act := ⟨fun hl h => (by obtain rfl := h; exact rfl), fun h c hv => (by obtain rfl := h; exact (by simp only [cs_registrarlaw18_Act, List.mem_cons, List.not_mem_nil, or_false] at hv; rcases hv with rfl | rfl | rfl <;> first | rfl | rfl))⟩
def z_registrarlaw18_Act : registrarlaw18_Act := ⟨0, (⟨#[]⟩ : ByteArray), (⟨#[]⟩ : ByteArray)⟩
structure api_Role where
  Name : ByteArray
  In : List ByteArray
structure W_api_Role where
  In : SW
def cs_api_Role (x : api_Role) (v : W_api_Role) : List Value := [.string x.Name, .slice v.In.a x.In.length v.In.c]
structure ok_api_Role (I : Mem) (x : api_Role) (v : W_api_Role) : Prop where
  In : RSl 1 RStr I v.In.a v.In.c x.In
theorem ok_api_Role.mono {I J : Mem} {x : api_Role} {v : W_api_Role} (h : ok_api_Role I x v) (hl : I.Le J) : ok_api_Role J x v := ⟨RSl.mono h.In hl⟩
def R_api_Role (I : Mem) (cs : List Value) (x : api_Role) : Prop := ∃ v : W_api_Role, cs = cs_api_Role x v ∧ ok_api_Role I x v
instance : Mono R_api_Role := ⟨fun hl h => (by obtain ⟨v, rfl, h⟩ := h; exact ⟨v, rfl, h.mono hl⟩), fun h c hv => (by obtain ⟨v, rfl, h⟩ := h; exact (by simp only [cs_api_Role, List.mem_cons, List.not_mem_nil, or_false] at hv; rcases hv with rfl | rfl <;> first | rfl | rfl))⟩
def z_api_Role : api_Role := ⟨(⟨#[]⟩ : ByteArray), []⟩
def zw_api_Role : W_api_Role := ⟨⟨none, 0⟩⟩
theorem zok_api_Role {I : Mem} : ok_api_Role I z_api_Role zw_api_Role := ⟨SlAt.nil⟩
structure lex_Token where
  Kind : Int
  Text : ByteArray
  At : Int
def cs_lex_Token (x : lex_Token) : List Value := [.int .i64 x.Kind, .string x.Text, .int .i64 x.At]
def R_lex_Token (I : Mem) (cs : List Value) (x : lex_Token) : Prop := cs = cs_lex_Token x
instance : Mono R_lex_Token := ⟨fun hl h => (by obtain rfl := h; exact rfl), fun h c hv => (by obtain rfl := h; exact (by simp only [cs_lex_Token, List.mem_cons, List.not_mem_nil, or_false] at hv; rcases hv with rfl | rfl | rfl <;> first | rfl | rfl))⟩
def z_lex_Token : lex_Token := ⟨0, (⟨#[]⟩ : ByteArray), 0⟩
def registrarlaw18_long (p0 : registrarlaw18_Act) : Option Bool := some ((decide ((p0.Name.size : Int) > 100)) || (decide ((p0.Role.size : Int) > 100)))
set_option maxHeartbeats 1000000 in
theorem registrarlaw18_long_ok {E w : World} {I : Mem} {Os : List Mem} {p0 : registrarlaw18_Act} (hS : St E w I Os) {r : Bool} (hr : registrarlaw18_long p0 = some r) :
    Calls P 16 #[(.agg (cs_registrarlaw18_Act p0).toArray)] w (fun e w' => ∃ (I' : Mem), e = .returned (.bool r) ∧ I.Le I' ∧ St E w' I' Os) := by
  refine calls_W (args := [(.agg (cs_registrarlaw18_Act p0).toArray)]) (fn := Try.f16) rfl rfl rfl ?_
  unfold registrarlaw18_long at hr
  refine W.seq ?_
  refine W.region (l := [0, 1]) (by kernel_rfl) ?_
  refine WO.new hS rfl (by kernel_rfl) rfl (.cells (cs_registrarlaw18_Act p0).toArray 38 (0, 0)) (fun b => .pointer (some ⟨b, 0, none⟩)) (by kernel_rfl) (fun _ _ _ => trivial) ?_
  intro b1 w4 hS3
  refine WO.vals [(1, 2, (.bool false))] (by kernel_rfl) (fun _ => by kernel_rfl) ?_
  refine WO.nil ?_
  refine En.next ?_
  refine W.seq ?_
  refine W.region (l := [0, 1, 2, 3, 4, 5, 6, 7, 8, 9, 10]) (by kernel_rfl) ?_
  refine WO.vals [(0, 3, (.pointer (some ⟨b1, 1, none⟩)))] (by kernel_rfl) (fun _ => by kernel_rfl) ?_
  refine WO.load rfl (by kernel_rfl) (by kernel_rfl) rfl (v := (.string p0.Name)) (fun w' hw' => cell_one ((rd_f (hS3.rd (List.Mem.head _))) w' hw') (by kernel_rfl)) ?_
  refine WO.vals [(2, 5, (.int .i64 (p0.Name.size : Int))), (3, 6, (.bool (decide ((p0.Name.size : Int) > 100)))), (4, 7, (.bool (decide ((p0.Name.size : Int) > 100))))] (by kernel_rfl) (fun _ => by kernel_rfl) ?_
  refine WO.join (l1 := [5, 6, 7, 8, 9]) (l2 := [10]) (J := fun frx wx => frx = [(12, (.bool ((decide ((p0.Name.size : Int) > 100)) || (decide ((p0.Role.size : Int) > 100)))))] ∧ w4 = wx) ?restm5 ?waysm5
  case waysm5 =>
    refine WO.caseb (decide ((p0.Name.size : Int) > 100)) (fun hc => ?_) (fun hc => ?_)
    · skip
      refine WO.reslot 7 rfl (show Value.bool (decide ((p0.Name.size : Int) > 100)) = Value.bool true by rw [hc]) ?_
      refine WO.pass rfl (by kernel_rfl) rfl ?_
      refine WO.pass rfl (by kernel_rfl) rfl ?_
      refine WO.pass rfl (by kernel_rfl) rfl ?_
      refine WO.pass rfl (by kernel_rfl) rfl ?_
      refine WO.vals [(9, 12, (.bool true))] (by kernel_rfl) (fun _ => by kernel_rfl) ?_
      refine WO.weaken (fr' := [(12, (.bool ((decide ((p0.Name.size : Int) > 100)) || (decide ((p0.Role.size : Int) > 100)))))]) (WO.meet ⟨rfl, rfl⟩) (Sub.cons (by rw [hc]; rfl) Sub.nil)
    · skip
      refine WO.reslot 7 rfl (show Value.bool (decide ((p0.Name.size : Int) > 100)) = Value.bool false by rw [hc]) ?_
      refine WO.vals [(5, 8, (.pointer (some ⟨b1, 2, none⟩)))] (by kernel_rfl) (fun _ => by kernel_rfl) ?_
      refine WO.load rfl (by kernel_rfl) (by kernel_rfl) rfl (v := (.string p0.Role)) (fun w' hw' => cell_one ((rd_f (hS3.rd (List.Mem.head _))) w' hw') (by kernel_rfl)) ?_
      refine WO.vals [(7, 10, (.int .i64 (p0.Role.size : Int))), (8, 11, (.bool (decide ((p0.Role.size : Int) > 100)))), (9, 12, (.bool (decide ((p0.Role.size : Int) > 100))))] (by kernel_rfl) (fun _ => by kernel_rfl) ?_
      refine WO.weaken (fr' := [(12, (.bool ((decide ((p0.Name.size : Int) > 100)) || (decide ((p0.Role.size : Int) > 100)))))]) (WO.meet ⟨rfl, rfl⟩) (Sub.cons (by rw [hc]; rfl) Sub.nil)
  case restm5 =>
    rintro _ _ ⟨rfl, rfl⟩
    refine WO.vals [(10, 2, (.bool ((decide ((p0.Name.size : Int) > 100)) || (decide ((p0.Role.size : Int) > 100)))))] (by kernel_rfl) (fun _ => by kernel_rfl) ?_
    refine WO.nil ?_
    refine En.next ?_
    refine W.ret ?_
    have hS7 := hS3.drop
    have he := Option.some.inj hr
    subst r
    exact En.ret1 rfl (.bool ((decide ((p0.Name.size : Int) > 100)) || (decide ((p0.Role.size : Int) > 100)))) rfl ⟨I, rfl, Mem.Le.refl _, hS7⟩
def member_names (p0 : List api_Role) : Option (List ByteArray) := (forE (fun (i5 : Nat) => fun (s4 : List ByteArray) => (idx p0 (i5 : Int)).bind (fun (x14 : api_Role) => (app 16 s4 ([x14.Name] : List ByteArray)).bind (fun (x29 : List ByteArray) => some x29))) p0.length 0 ([] : List ByteArray)).bind (fun (s4 : (List ByteArray)) => some s4)
set_option maxHeartbeats 1000000 in
theorem member_names_ok {E w : World} {I : Mem} {Os : List Mem} {p0 : List api_Role} {a_p0 : Option Addr} {c_p0 : Nat} (h_p0 : RSl 2 R_api_Role I a_p0 c_p0 p0) (hS : St E w I Os) {r : (List ByteArray)} (hr : member_names p0 = some r) :
    Calls P 31 #[(.slice a_p0 p0.length c_p0)] w (fun e w' => ∃ (I' : Mem) (ra0 : Option Addr) (rc0 : Nat) (rC0 : Mem), e = .returned (.slice ra0 r.length rc0) ∧ I.Le I' ∧ St E w' I' (rC0 :: Os) ∧ OwnSl 9 1 RStr I' rC0 ra0 rc0 r) := by
  refine calls_W (args := [(.slice a_p0 p0.length c_p0)]) (fn := Try.f31) rfl rfl rfl ?_
  unfold member_names at hr
  refine W.seq ?_
  refine W.region (l := [0]) (by kernel_rfl) ?_
  refine WO.vals [(0, 2, (.slice none 0 0))] (by kernel_rfl) (fun _ => by kernel_rfl) ?_
  refine WO.nil ?_
  refine En.next ?_
  refine W.seq ?_
  refine W.region (l := [0]) (by kernel_rfl) ?_
  refine WO.vals [(0, 3, (.slice none 0 0))] (by kernel_rfl) (fun _ => by kernel_rfl) ?_
  refine WO.nil ?_
  refine En.next ?_
  refine W.seq ?_
  refine W.seq ?_
  refine W.region (l := [0, 1, 2]) (by kernel_rfl) ?_
  refine WO.vals [(0, 6, (.slice a_p0 p0.length c_p0)), (1, 7, (.int .i64 (p0.length : Int))), (2, 8, (.int .i64 0))] (by kernel_rfl) (fun _ => by kernel_rfl) ?_
  refine WO.nil ?_
  refine En.next ?_
  refine W.block ?_
  obtain ⟨s4, hloop6, hr⟩ := bind_some hr
  have hS8 := hS.no
  have hlt12 := (h_p0).len_lt
  refine W.weaken (fr' := [(3, (.slice none ([] : List ByteArray).length 0)), (6, (.slice a_p0 p0.length c_p0)), (7, (.int .i64 (p0.length : Int))), (8, (.int .i64 ((0 : Nat) : Int)))]) (W.forE (m := p0.length) hloop6 (fun (i5 : Nat) => fun (s4 : List ByteArray) fr w => ∃ (I2 : Mem), ∃ (a_s4 : Option Addr), ∃ (c_s4 : Nat), ∃ (C_s4 : Mem), fr = [(3, (.slice a_s4 s4.length c_s4)), (6, (.slice a_p0 p0.length c_p0)), (7, (.int .i64 (p0.length : Int))), (8, (.int .i64 (i5 : Int)))] ∧ I.Le I2 ∧ St E w I2 ((C_s4) :: Os) ∧ OwnSl 9 1 RStr I2 C_s4 a_s4 c_s4 s4) ⟨I, none, 0, Mem.no, rfl, Mem.Le.refl _, hS8, OwnSl.nil⟩ ?roundt1 ?lastt1) (Sub.cons rfl (Sub.cons rfl (Sub.cons rfl (Sub.cons rfl Sub.nil))))
  case roundt1 =>
    rintro i5 s4 _ w9 hi13 ⟨I2, a_s4, c_s4, C_s4, rfl, hl3, hS10, h_s4⟩ x11 hr1
    refine W.seq ?_
    refine W.region (l := [0]) (by kernel_rfl) ?_
    refine WO.vals [(0, 9, (.bool (decide ((i5 : Int) < (p0.length : Int)))))] (by kernel_rfl) (fun _ => by kernel_rfl) ?_
    refine WO.nil ?_
    refine En.next ?_
    refine W.seq ?_
    refine W.cond (b := (decide ((i5 : Int) < (p0.length : Int)))) rfl rfl (fun hc => ?_) (fun hc => ?_)
    rotate_left
    · exact absurd hc (by first | (simp; done) | (simp; omega))
    clear hc
    refine W.skip ?_
    refine En.next ?_
    refine W.seq ?_
    refine W.block ?_
    refine W.seq ?_
    refine W.region (l := [0, 1, 2, 3]) (by kernel_rfl) ?_
    obtain ⟨x14, hx_x14, hr1⟩ := bind_some hr1
    obtain ⟨h0_x14, h1_x14, hx_x14⟩ := idx_some hx_x14
    obtain ⟨ha_x14, cs_x14, hn_x14, hr_x14, hc_x14⟩ := ((RSl.mono h_p0 hl3)).el _ _ hx_x14
    obtain ⟨w_x14, rfl, h_x14⟩ := hr_x14
    refine WO.indexAddr (e := 27) (sz := 2) rfl (by kernel_rfl) (by kernel_rfl) (by kernel_rfl) rfl ha_x14 rfl h0_x14 h1_x14 ?_
    refine WO.loadN rfl (by kernel_rfl) (by kernel_rfl) rfl ((cs_api_Role x14 w_x14)) (by kernel_rfl) (fun w' hw' => hc_x14.cells (k := 0) (by kernel_rfl) rfl ((rd_f hS10.im) w' hw')) ?_
    refine WO.new hS10 rfl (by kernel_rfl) rfl (.cells (cs_api_Role z_api_Role zw_api_Role).toArray 27 (0, 0)) (fun b => .pointer (some ⟨b, 0, none⟩)) (by kernel_rfl) (fun _ _ _ => trivial) ?_
    intro b15 w18 hS17
    refine WO.storeBox hS17 rfl (by kernel_rfl) rfl 0 rfl rfl (by kernel_rfl) (by kernel_rfl) (by kernel_rfl) ((cs_api_Role x14 w_x14).toArray) (by kernel_rfl) (fun _ _ => trivial) ?_
    intro w20 hS19
    refine WO.nil ?_
    refine En.next ?_
    refine W.region (l := [0, 1, 2, 3, 4, 5]) (by kernel_rfl) ?_
    refine WO.vals [(0, 12, (.slice a_s4 s4.length c_s4)), (1, 13, (.pointer (some ⟨b15, 0, none⟩)))] (by kernel_rfl) (fun _ => by kernel_rfl) ?_
    refine WO.load rfl (by kernel_rfl) (by kernel_rfl) rfl (v := (.string x14.Name)) (fun w' hw' => cell_one ((rd_f (hS19.rd (List.Mem.head _))) w' hw') (by kernel_rfl)) ?_
    refine WO.newSlice (rel := RStr) (xs := ([x14.Name] : List ByteArray)) hS19 rfl (by kernel_rfl) rfl 9 1 [[(.string x14.Name)]] (by kernel_rfl) rfl ((Elr.cons rfl Elr.nil)) (fun _ _ _ => trivial) ?_
    intro a24 C22 w26 hS25 ho23
    have hS28 := hS25.front2
    obtain ⟨x29, hx_x29, hr1⟩ := bind_some hr1
    obtain ⟨h0_x29, he_x29⟩ := app_some hx_x29
    refine WO.append (e' := 9) (b := 16) (zs := #[(.string (⟨#[]⟩ : ByteArray))]) hS28 h_s4 rfl (by kernel_rfl) rfl (by kernel_rfl) (by kernel_rfl) (by kernel_rfl) rfl rfl rfl rfl ho23.sl (hS28.rd (List.Mem.tail _ (List.Mem.head _))) h0_x29 he_x29 (fun _ _ _ => trivial) ?_
    intro a30 c31 w32 C33 hS34 ho35
    have hS36 := hS34.front1
    have hS37 := hS36.drop
    refine WO.vals [(5, 3, (.slice a30 x29.length c31))] (by kernel_rfl) (fun _ => by kernel_rfl) ?_
    refine WO.nil ?_
    refine En.in_normal ?_
    refine En.next ?_
    refine W.region (l := [0, 1]) (by kernel_rfl) ?_
    refine WO.incr (j := i5) rfl (by kernel_rfl) rfl (by first | omega | (dsimp only at *; omega)) ?_
    refine WO.vals [(1, 8, (.int .i64 ((i5 + 1 : Nat) : Int)))] (by kernel_rfl) (fun _ => by kernel_rfl) ?_
    refine WO.nil ?_
    have hS38 := hS37.front1
    have hS39 := hS38.drop
    have he := Option.some.inj hr1
    subst x11
    refine En.weaken (fr' := [(3, (.slice a30 x29.length c31)), (6, (.slice a_p0 p0.length c_p0)), (7, (.int .i64 (p0.length : Int))), (8, (.int .i64 ((i5 + 1 : Nat) : Int)))]) (En.round ⟨I2, a30, c31, C33, rfl, hl3, hS39, ho35⟩) (Sub.cons rfl (Sub.cons rfl (Sub.cons rfl (Sub.cons rfl Sub.nil))))
  case lastt1 =>
    rintro _ w40 ⟨I2, a_s4, c_s4, C_s4, rfl, hl3, hS41, h_s4⟩
    refine W.seq ?_
    refine W.region (l := [0]) (by kernel_rfl) ?_
    refine WO.vals [(0, 9, (.bool (decide ((p0.length : Int) < (p0.length : Int)))))] (by kernel_rfl) (fun _ => by kernel_rfl) ?_
    refine WO.nil ?_
    refine En.next ?_
    refine W.seq ?_
    refine W.cond (b := (decide ((p0.length : Int) < (p0.length : Int)))) rfl rfl (fun hc => ?_) (fun hc => ?_)
    · exact absurd hc (by first | (simp; done) | (simp; omega))
    clear hc
    refine W.exit ?_
    refine En.nx_exit ?_
    refine En.rd_exit ?_
    refine En.in_hit ?_
    refine En.next ?_
    refine W.seq ?_
    refine W.region (l := [0, 1]) (by kernel_rfl) ?_
    refine WO.vals [(0, 18, (.slice a_s4 s4.length c_s4)), (1, 2, (.slice a_s4 s4.length c_s4))] (by kernel_rfl) (fun _ => by kernel_rfl) ?_
    refine WO.nil ?_
    refine En.next ?_
    refine W.ret ?_
    have he := Option.some.inj hr
    subst r
    exact En.ret1 rfl (.slice a_s4 s4.length c_s4) rfl ⟨I2, a_s4, c_s4, C_s4, rfl, hl3, hS41, h_s4⟩
noncomputable def member_rising (p0 : List ByteArray) : Option Bool := (loopO (fun (s4 : Int) => (bif (decide (s4 < (p0.length : Int))) then (idx p0 (w64 (s4 - 1))).bind (fun (x11 : ByteArray) => (idx p0 s4).bind (fun (x12 : ByteArray) => (bif (!sLt x11 x12) then some (.inr (.inl false)) else some (.inl (w64 (s4 + 1)))))) else some (.inr (.inr ())))) 1).bind (fun (t : Bool ⊕ Unit) => match t with | (.inl s14) => some s14 | (.inr ()) => some true)
set_option maxHeartbeats 1000000 in
theorem member_rising_ok {E w : World} {I : Mem} {Os : List Mem} {p0 : List ByteArray} {a_p0 : Option Addr} {c_p0 : Nat} (h_p0 : RSl 1 RStr I a_p0 c_p0 p0) (hS : St E w I Os) {r : Bool} (hr : member_rising p0 = some r) :
    Calls P 32 #[(.slice a_p0 p0.length c_p0)] w (fun e w' => ∃ (I' : Mem), e = .returned (.bool r) ∧ I.Le I' ∧ St E w' I' Os) := by
  refine calls_W (args := [(.slice a_p0 p0.length c_p0)]) (fn := Try.f32) rfl rfl rfl ?_
  unfold member_rising at hr
  refine W.seq ?_
  refine W.region (l := [0]) (by kernel_rfl) ?_
  refine WO.vals [(0, 2, (.bool false))] (by kernel_rfl) (fun _ => by kernel_rfl) ?_
  refine WO.nil ?_
  refine En.next ?_
  refine W.seq ?_
  refine W.seq ?_
  refine W.region (l := [0]) (by kernel_rfl) ?_
  refine WO.vals [(0, 3, (.int .i64 1))] (by kernel_rfl) (fun _ => by kernel_rfl) ?_
  refine WO.nil ?_
  refine En.next ?_
  refine W.block ?_
  obtain ⟨t1, hloop5, hr⟩ := bind_some hr
  refine W.weaken (fr' := [(0, (.slice a_p0 p0.length c_p0)), (3, (.int .i64 1))]) (W.loopO hloop5 (fun (s4 : Int) fr w => ∃ (I2 : Mem), fr = [(0, (.slice a_p0 p0.length c_p0)), (3, (.int .i64 s4))] ∧ I.Le I2 ∧ St E w I2 Os) ⟨I, rfl, Mem.Le.refl _, hS⟩ ?_) (Sub.cons rfl (Sub.cons rfl Sub.nil))
  rintro s4 _ w6 ⟨I2, rfl, hl3, hS7⟩ x8 hr1 hext1
  refine W.seq ?_
  refine W.seq ?_
  refine W.region (l := [0, 1, 2, 3]) (by kernel_rfl) ?_
  refine WO.vals [(0, 4, (.int .i64 s4)), (1, 5, (.slice a_p0 p0.length c_p0)), (2, 6, (.int .i64 (p0.length : Int))), (3, 7, (.bool (decide (s4 < (p0.length : Int)))))] (by kernel_rfl) (fun _ => by kernel_rfl) ?_
  refine WO.nil ?_
  refine En.next ?_
  refine W.cond (b := (decide (s4 < (p0.length : Int)))) rfl rfl (fun hc => ?_) (fun hc => ?_)
  · replace hr1 := cond_t hc hr1
    refine W.skip ?_
    refine En.next ?_
    refine W.seq ?_
    refine W.block ?_
    refine W.seq ?_
    have hS9 := hS7.drew
    refine W.draw (l := [0, 1, 2, 3, 4, 5, 6, 7, 8, 9]) (by kernel_rfl) 9 (KR I2 []) qR (.back (by kernel_rfl)) (by kernel_rfl) (KR.nil hS9.im) ?_
    generalize World.drew _ = w10 at *
    refine WO.vals [(0, 10, (.slice a_p0 p0.length c_p0)), (1, 11, (.int .i64 s4)), (2, 12, (.int .i64 (w64 (s4 - 1))))] (by kernel_rfl) (fun _ => by kernel_rfl) ?_
    obtain ⟨x11, hx_x11, hr1⟩ := bind_some hr1
    obtain ⟨h0_x11, h1_x11, hx_x11⟩ := idx_some hx_x11
    obtain ⟨ha_x11, cs_x11, hn_x11, hr_x11, hc_x11⟩ := ((RSl.mono h_p0 hl3)).el _ _ hx_x11
    obtain rfl := hr_x11
    refine WO.indexAddr (e := 9) (sz := 1) rfl (by kernel_rfl) (by kernel_rfl) (by kernel_rfl) rfl ha_x11 rfl h0_x11 h1_x11 ?_
    refine WO.load rfl (by kernel_rfl) (by kernel_rfl) rfl (v := (.string x11)) (fun w' hw' => hc_x11.cell0 (by kernel_rfl) ((rd_i hS9.im) w' hw')) ?_
    refine WO.vals [(5, 15, (.slice a_p0 p0.length c_p0)), (6, 16, (.int .i64 s4))] (by kernel_rfl) (fun _ => by kernel_rfl) ?_
    obtain ⟨x12, hx_x12, hr1⟩ := bind_some hr1
    obtain ⟨h0_x12, h1_x12, hx_x12⟩ := idx_some hx_x12
    obtain ⟨ha_x12, cs_x12, hn_x12, hr_x12, hc_x12⟩ := ((RSl.mono h_p0 hl3)).el _ _ hx_x12
    obtain rfl := hr_x12
    refine WO.indexAddr (e := 9) (sz := 1) rfl (by kernel_rfl) (by kernel_rfl) (by kernel_rfl) rfl ha_x12 rfl h0_x12 h1_x12 ?_
    refine WO.load rfl (by kernel_rfl) (by kernel_rfl) rfl (v := (.string x12)) (fun w' hw' => hc_x12.cell0 (by kernel_rfl) ((rd_i hS9.im) w' hw')) ?_
    refine WO.tail rfl ?_
    refine WO.vals [(9, 19, (.bool (!sLt x11 x12)))] (by kernel_rfl) (fun _ => by kernel_rfl) ?_
    refine WO.nil ?_
    refine En.next ?_
    refine W.cond (b := (!sLt x11 x12)) rfl rfl (fun hc => ?_) (fun hc => ?_)
    · replace hr1 := cond_t hc hr1
      refine W.seq ?_
      refine W.region (l := [0]) (by kernel_rfl) ?_
      refine WO.vals [(0, 2, (.bool false))] (by kernel_rfl) (fun _ => by kernel_rfl) ?_
      refine WO.nil ?_
      refine En.next ?_
      refine W.ret ?_
      refine En.in_ret ?_
      refine En.nx_ret ?_
      refine En.rd_ret ?_
      have ht := hext1 _ (Option.some.inj hr1).symm
      subst t1
      refine En.in_ret ?_
      refine En.nx_ret ?_
      have he := Option.some.inj hr
      subst r
      exact En.ret1 rfl (.bool false) rfl ⟨I2, rfl, hl3, hS9⟩
    · replace hr1 := cond_f hc hr1
      refine W.skip ?_
      refine En.in_normal ?_
      refine En.next ?_
      refine W.region (l := [0, 1, 2]) (by kernel_rfl) ?_
      refine WO.vals [(0, 8, (.int .i64 s4)), (1, 9, (.int .i64 (w64 (s4 + 1)))), (2, 3, (.int .i64 (w64 (s4 + 1))))] (by kernel_rfl) (fun _ => by kernel_rfl) ?_
      refine WO.nil ?_
      refine En.weaken (fr' := [(0, (.slice a_p0 p0.length c_p0)), (3, (.int .i64 (w64 (s4 + 1))))]) (En.round ⟨(w64 (s4 + 1)), (Option.some.inj hr1).symm, I2, rfl, hl3, hS9⟩) (Sub.cons rfl (Sub.cons rfl Sub.nil))
  · replace hr1 := cond_f hc hr1
    refine W.exit ?_
    refine En.nx_exit ?_
    refine En.rd_exit ?_
    have ht := hext1 _ (Option.some.inj hr1).symm
    subst t1
    refine En.in_hit ?_
    refine En.next ?_
    refine W.seq ?_
    refine W.region (l := [0]) (by kernel_rfl) ?_
    refine WO.vals [(0, 2, (.bool true))] (by kernel_rfl) (fun _ => by kernel_rfl) ?_
    refine WO.nil ?_
    refine En.next ?_
    refine W.ret ?_
    have he := Option.some.inj hr
    subst r
    exact En.ret1 rfl (.bool true) rfl ⟨I2, rfl, hl3, hS7⟩
def lex_small (p0 : Int) : Option Bool := some ((decide (p0 ≥ 97)) && (decide (p0 ≤ 122)))
set_option maxHeartbeats 1000000 in
theorem lex_small_ok {E w : World} {I : Mem} {Os : List Mem} {p0 : Int} (hS : St E w I Os) {r : Bool} (hr : lex_small p0 = some r) :
    Calls P 80 #[(.int .u8 p0)] w (fun e w' => ∃ (I' : Mem), e = .returned (.bool r) ∧ I.Le I' ∧ St E w' I' Os) := by
  refine calls_W (args := [(.int .u8 p0)]) (fn := Try.f80) rfl rfl rfl ?_
  unfold lex_small at hr
  refine W.seq ?_
  refine W.region (l := [0]) (by kernel_rfl) ?_
  refine WO.vals [(0, 2, (.bool false))] (by kernel_rfl) (fun _ => by kernel_rfl) ?_
  refine WO.nil ?_
  refine En.next ?_
  refine W.seq ?_
  refine W.region (l := [0, 1, 2, 3, 4, 5, 6]) (by kernel_rfl) ?_
  refine WO.vals [(0, 3, (.int .u8 p0)), (1, 4, (.bool (decide (p0 ≥ 97)))), (2, 5, (.bool (decide (p0 ≥ 97))))] (by kernel_rfl) (fun _ => by kernel_rfl) ?_
  refine WO.join (l1 := [3, 4, 5]) (l2 := [6]) (J := fun frx wx => frx = [(8, (.bool ((decide (p0 ≥ 97)) && (decide (p0 ≤ 122)))))] ∧ w = wx) ?restm1 ?waysm1
  case waysm1 =>
    refine WO.caseb (decide (p0 ≥ 97)) (fun hc => ?_) (fun hc => ?_)
    · skip
      refine WO.reslot 5 rfl (show Value.bool (decide (p0 ≥ 97)) = Value.bool true by rw [hc]) ?_
      refine WO.vals [(3, 6, (.int .u8 p0)), (4, 7, (.bool (decide (p0 ≤ 122)))), (5, 8, (.bool (decide (p0 ≤ 122))))] (by kernel_rfl) (fun _ => by kernel_rfl) ?_
      refine WO.weaken (fr' := [(8, (.bool ((decide (p0 ≥ 97)) && (decide (p0 ≤ 122)))))]) (WO.meet ⟨rfl, rfl⟩) (Sub.cons (by rw [hc]; rfl) Sub.nil)
    · skip
      refine WO.reslot 5 rfl (show Value.bool (decide (p0 ≥ 97)) = Value.bool false by rw [hc]) ?_
      refine WO.pass rfl (by kernel_rfl) rfl ?_
      refine WO.pass rfl (by kernel_rfl) rfl ?_
      refine WO.vals [(5, 8, (.bool false))] (by kernel_rfl) (fun _ => by kernel_rfl) ?_
      refine WO.weaken (fr' := [(8, (.bool ((decide (p0 ≥ 97)) && (decide (p0 ≤ 122)))))]) (WO.meet ⟨rfl, rfl⟩) (Sub.cons (by rw [hc]; rfl) Sub.nil)
  case restm1 =>
    rintro _ _ ⟨rfl, rfl⟩
    refine WO.vals [(6, 2, (.bool ((decide (p0 ≥ 97)) && (decide (p0 ≤ 122)))))] (by kernel_rfl) (fun _ => by kernel_rfl) ?_
    refine WO.nil ?_
    refine En.next ?_
    refine W.ret ?_
    have he := Option.some.inj hr
    subst r
    exact En.ret1 rfl (.bool ((decide (p0 ≥ 97)) && (decide (p0 ≤ 122)))) rfl ⟨I, rfl, Mem.Le.refl _, hS⟩
noncomputable def lex_while (p0 : ByteArray) (p1 : Int) (p2 : Int) (p3 : Int → Option Bool) : Option Int := (loopO (fun (s4 : Int) => ((bif ((decide ((w64 (p1 + s4)) < (p0.size : Int))) && (decide (s4 < p2))) then (sAt p0 (w64 (p1 + s4))).bind (fun (y15 : Int) => (p3 y15).bind (fun (r21 : Bool) => some r21)) else some false)).bind (fun (j11 : Bool) => (bif j11 then some (.inl (w64 (s4 + 1))) else some (.inr s4)))) 0).bind (fun (s25 : Int) => some s25)
set_option maxHeartbeats 1000000 in
theorem lex_while_ok {E w : World} {I : Mem} {Os : List Mem} {p0 : ByteArray} {p1 : Int} {p2 : Int} {p3 : Int → Option Bool} {g_p3 : FuncId} {k_p3 : List Value} (h_p3 : ∀ {F : List Mem} {I' : Mem} {w : World} {u0 : Int}, I.Le I' → St E w I' (F ++ Os) → ∀ {r : Bool}, p3 u0 = some r → Calls P g_p3 (([(.int .u8 u0)] : List Value) ++ k_p3).toArray w (fun e w' => ∃ (I'' : Mem), e = .returned (.bool r) ∧ I'.Le I'' ∧ St E w' I'' (F ++ Os))) (hcall_p3 : Callable P g_p3) (hS : St E w I Os) {r : Int} (hr : lex_while p0 p1 p2 p3 = some r) :
    Calls P 81 #[(.string p0), (.int .i64 p1), (.int .i64 p2), (.func (.func g_p3) #[] k_p3.toArray)] w (fun e w' => ∃ (I' : Mem), e = .returned (.int .i64 r) ∧ I.Le I' ∧ St E w' I' Os) := by
  refine calls_W (args := [(.string p0), (.int .i64 p1), (.int .i64 p2), (.func (.func g_p3) #[] k_p3.toArray)]) (fn := Try.f81) rfl rfl rfl ?_
  unfold lex_while at hr
  refine W.seq ?_
  refine W.region (l := [0]) (by kernel_rfl) ?_
  refine WO.vals [(0, 8, (.int .i64 0))] (by kernel_rfl) (fun _ => by kernel_rfl) ?_
  refine WO.nil ?_
  refine En.next ?_
  refine W.seq ?_
  refine W.region (l := [0]) (by kernel_rfl) ?_
  refine WO.vals [(0, 9, (.int .i64 0))] (by kernel_rfl) (fun _ => by kernel_rfl) ?_
  refine WO.nil ?_
  refine En.next ?_
  refine W.seq ?_
  refine W.block ?_
  obtain ⟨t1, hloop5, hr⟩ := bind_some hr
  refine W.weaken (fr' := [(0, (.string p0)), (1, (.int .i64 p1)), (2, (.int .i64 p2)), (3, (.func (.func g_p3) #[] k_p3.toArray)), (9, (.int .i64 0))]) (W.loopO hloop5 (fun (s4 : Int) fr w => ∃ (I2 : Mem), fr = [(0, (.string p0)), (1, (.int .i64 p1)), (2, (.int .i64 p2)), (3, (.func (.func g_p3) #[] k_p3.toArray)), (9, (.int .i64 s4))] ∧ I.Le I2 ∧ St E w I2 Os) ⟨I, rfl, Mem.Le.refl _, hS⟩ ?_) (Sub.cons rfl (Sub.cons rfl (Sub.cons rfl (Sub.cons rfl (Sub.cons rfl Sub.nil)))))
  rintro s4 _ w6 ⟨I2, rfl, hl3, hS7⟩ x8 hr1 hext1
  refine W.seq ?_
  refine W.seq ?_
  refine W.region (l := [0, 1, 2, 3, 4, 5, 6, 7, 8, 9, 10, 11, 12, 13, 14, 15, 16, 17, 18, 19]) (by kernel_rfl) ?_
  refine WO.vals [(0, 10, (.int .i64 p1)), (1, 11, (.int .i64 s4)), (2, 12, (.int .i64 (w64 (p1 + s4)))), (3, 13, (.string p0)), (4, 14, (.int .i64 (p0.size : Int))), (5, 15, (.bool (decide ((w64 (p1 + s4)) < (p0.size : Int))))), (6, 16, (.bool (decide ((w64 (p1 + s4)) < (p0.size : Int)))))] (by kernel_rfl) (fun _ => by kernel_rfl) ?_
  refine WO.join (l1 := [7, 8, 9, 10]) (l2 := [11, 12, 13, 14, 15, 16, 17, 18, 19]) (J := fun frx wx => frx = [(20, (.bool ((decide ((w64 (p1 + s4)) < (p0.size : Int))) && (decide (s4 < p2))))), (0, (.string p0)), (1, (.int .i64 p1)), (2, (.int .i64 p2)), (3, (.func (.func g_p3) #[] k_p3.toArray)), (9, (.int .i64 s4))] ∧ w6 = wx) ?restm9 ?waysm9
  case waysm9 =>
    refine WO.caseb (decide ((w64 (p1 + s4)) < (p0.size : Int))) (fun hc => ?_) (fun hc => ?_)
    · skip
      refine WO.reslot 16 rfl (show Value.bool (decide ((w64 (p1 + s4)) < (p0.size : Int))) = Value.bool true by rw [hc]) ?_
      refine WO.vals [(7, 17, (.int .i64 s4)), (8, 18, (.int .i64 p2)), (9, 19, (.bool (decide (s4 < p2)))), (10, 20, (.bool (decide (s4 < p2))))] (by kernel_rfl) (fun _ => by kernel_rfl) ?_
      refine WO.weaken (fr' := [(20, (.bool ((decide ((w64 (p1 + s4)) < (p0.size : Int))) && (decide (s4 < p2))))), (0, (.string p0)), (1, (.int .i64 p1)), (2, (.int .i64 p2)), (3, (.func (.func g_p3) #[] k_p3.toArray)), (9, (.int .i64 s4))]) (WO.meet ⟨rfl, rfl⟩) (Sub.cons (by rw [hc]; rfl) (Sub.cons rfl (Sub.cons rfl (Sub.cons rfl (Sub.cons rfl (Sub.cons rfl Sub.nil))))))
    · skip
      refine WO.reslot 16 rfl (show Value.bool (decide ((w64 (p1 + s4)) < (p0.size : Int))) = Value.bool false by rw [hc]) ?_
      refine WO.pass rfl (by kernel_rfl) rfl ?_
      refine WO.pass rfl (by kernel_rfl) rfl ?_
      refine WO.pass rfl (by kernel_rfl) rfl ?_
      refine WO.vals [(10, 20, (.bool false))] (by kernel_rfl) (fun _ => by kernel_rfl) ?_
      refine WO.weaken (fr' := [(20, (.bool ((decide ((w64 (p1 + s4)) < (p0.size : Int))) && (decide (s4 < p2))))), (0, (.string p0)), (1, (.int .i64 p1)), (2, (.int .i64 p2)), (3, (.func (.func g_p3) #[] k_p3.toArray)), (9, (.int .i64 s4))]) (WO.meet ⟨rfl, rfl⟩) (Sub.cons (by rw [hc]; rfl) (Sub.cons rfl (Sub.cons rfl (Sub.cons rfl (Sub.cons rfl (Sub.cons rfl Sub.nil))))))
  case restm9 =>
    rintro _ _ ⟨rfl, rfl⟩
    refine WO.vals [(11, 21, (.bool ((decide ((w64 (p1 + s4)) < (p0.size : Int))) && (decide (s4 < p2)))))] (by kernel_rfl) (fun _ => by kernel_rfl) ?_
    obtain ⟨j11, hr2, hr1⟩ := bind_some hr1
    refine WO.join (l1 := [12, 13, 14, 15, 16, 17, 18, 19]) (l2 := []) (J := (fun fr w => ∃ (I13 : Mem), fr = [(0, (.string p0)), (1, (.int .i64 p1)), (2, (.int .i64 p2)), (3, (.func (.func g_p3) #[] k_p3.toArray)), (9, (.int .i64 s4)), (29, (.bool j11))] ∧ I2.Le I13 ∧ St E w I13 Os)) ?restj11 ?waysj11
    case waysj11 =>
      refine WO.caseb ((decide ((w64 (p1 + s4)) < (p0.size : Int))) && (decide (s4 < p2))) (fun hc => ?_) (fun hc => ?_)
      · replace hr2 := cond_t hc hr2
        refine WO.reslot 21 rfl (show Value.bool ((decide ((w64 (p1 + s4)) < (p0.size : Int))) && (decide (s4 < p2))) = Value.bool true by rw [hc]) ?_
        refine WO.vals [(12, 22, (.func (.func g_p3) #[] k_p3.toArray)), (13, 23, (.string p0)), (14, 24, (.int .i64 p1)), (15, 25, (.int .i64 s4)), (16, 26, (.int .i64 (w64 (p1 + s4))))] (by kernel_rfl) (fun _ => by kernel_rfl) ?_
        obtain ⟨y15, hx_y15, hr2⟩ := bind_some hr2
        refine WO.indexStr rfl (by kernel_rfl) (by kernel_rfl) rfl rfl hx_y15 ?_
        obtain ⟨r21, hx_r16, hr2⟩ := bind_some hr2
        refine WO.callv rfl (by kernel_rfl) rfl (g := g_p3) (kk := k_p3) (args := [(.int .u8 y15)]) rfl (by kernel_rfl) hcall_p3 (h_p3 (F := []) hl3 hS7  hx_r16) ?_
        rintro _ w17 ⟨I18, rfl, hl19, hS20⟩
        refine ⟨_, rfl, trivial, ?_⟩
        refine WO.vals [(19, 29, (.bool r21))] (by kernel_rfl) (fun _ => by kernel_rfl) ?_
        have he := Option.some.inj hr2
        subst j11
        refine WO.weaken (fr' := [(0, (.string p0)), (1, (.int .i64 p1)), (2, (.int .i64 p2)), (3, (.func (.func g_p3) #[] k_p3.toArray)), (9, (.int .i64 s4)), (29, (.bool r21))]) (WO.meet ⟨I18, rfl, hl19, hS20⟩) (Sub.cons rfl (Sub.cons rfl (Sub.cons rfl (Sub.cons rfl (Sub.cons rfl (Sub.cons rfl Sub.nil))))))
      · replace hr2 := cond_f hc hr2
        refine WO.reslot 21 rfl (show Value.bool ((decide ((w64 (p1 + s4)) < (p0.size : Int))) && (decide (s4 < p2))) = Value.bool false by rw [hc]) ?_
        refine WO.pass rfl (by kernel_rfl) rfl ?_
        refine WO.pass rfl (by kernel_rfl) rfl ?_
        refine WO.pass rfl (by kernel_rfl) rfl ?_
        refine WO.pass rfl (by kernel_rfl) rfl ?_
        refine WO.pass rfl (by kernel_rfl) rfl ?_
        refine WO.pass rfl (by kernel_rfl) rfl ?_
        refine WO.pass rfl (by kernel_rfl) rfl ?_
        refine WO.vals [(19, 29, (.bool false))] (by kernel_rfl) (fun _ => by kernel_rfl) ?_
        have he := Option.some.inj hr2
        subst j11
        refine WO.weaken (fr' := [(0, (.string p0)), (1, (.int .i64 p1)), (2, (.int .i64 p2)), (3, (.func (.func g_p3) #[] k_p3.toArray)), (9, (.int .i64 s4)), (29, (.bool false))]) (WO.meet ⟨I2, rfl, Mem.Le.refl _, hS7⟩) (Sub.cons rfl (Sub.cons rfl (Sub.cons rfl (Sub.cons rfl (Sub.cons rfl (Sub.cons rfl Sub.nil))))))
    case restj11 =>
      rintro _ w22 ⟨I13, rfl, hl14, hS23⟩
      refine WO.nil ?_
      refine En.next ?_
      refine W.cond (b := j11) rfl rfl (fun hc => ?_) (fun hc => ?_)
      · replace hr1 := cond_t hc hr1
        refine W.skip ?_
        refine En.next ?_
        refine W.block ?_
        refine W.region (l := [0, 1, 2]) (by kernel_rfl) ?_
        refine WO.vals [(0, 30, (.int .i64 s4)), (1, 31, (.int .i64 (w64 (s4 + 1)))), (2, 9, (.int .i64 (w64 (s4 + 1))))] (by kernel_rfl) (fun _ => by kernel_rfl) ?_
        refine WO.nil ?_
        refine En.in_normal ?_
        refine En.weaken (fr' := [(0, (.string p0)), (1, (.int .i64 p1)), (2, (.int .i64 p2)), (3, (.func (.func g_p3) #[] k_p3.toArray)), (9, (.int .i64 (w64 (s4 + 1))))]) (En.round ⟨(w64 (s4 + 1)), (Option.some.inj hr1).symm, I13, rfl, (hl3.trans hl14), hS23⟩) (Sub.cons rfl (Sub.cons rfl (Sub.cons rfl (Sub.cons rfl (Sub.cons rfl Sub.nil)))))
      · replace hr1 := cond_f hc hr1
        refine W.exit ?_
        refine En.nx_exit ?_
        refine En.rd_exit ?_
        have ht := hext1 _ (Option.some.inj hr1).symm
        subst t1
        refine En.in_hit ?_
        refine En.next ?_
        refine W.seq ?_
        refine W.region (l := [0, 1]) (by kernel_rfl) ?_
        refine WO.vals [(0, 32, (.int .i64 s4)), (1, 8, (.int .i64 s4))] (by kernel_rfl) (fun _ => by kernel_rfl) ?_
        refine WO.nil ?_
        refine En.next ?_
        refine W.ret ?_
        have he := Option.some.inj hr
        subst r
        exact En.ret1 rfl (.int .i64 s4) rfl ⟨I13, rfl, (hl3.trans hl14), hS23⟩
def lex_digit (p0 : Int) : Option Bool := some ((decide (p0 ≥ 48)) && (decide (p0 ≤ 57)))
set_option maxHeartbeats 1000000 in
theorem lex_digit_ok {E w : World} {I : Mem} {Os : List Mem} {p0 : Int} (hS : St E w I Os) {r : Bool} (hr : lex_digit p0 = some r) :
    Calls P 83 #[(.int .u8 p0)] w (fun e w' => ∃ (I' : Mem), e = .returned (.bool r) ∧ I.Le I' ∧ St E w' I' Os) := by
  refine calls_W (args := [(.int .u8 p0)]) (fn := Try.f83) rfl rfl rfl ?_
  unfold lex_digit at hr
  refine W.seq ?_
  refine W.region (l := [0]) (by kernel_rfl) ?_
  refine WO.vals [(0, 2, (.bool false))] (by kernel_rfl) (fun _ => by kernel_rfl) ?_
  refine WO.nil ?_
  refine En.next ?_
  refine W.seq ?_
  refine W.region (l := [0, 1, 2, 3, 4, 5, 6]) (by kernel_rfl) ?_
  refine WO.vals [(0, 3, (.int .u8 p0)), (1, 4, (.bool (decide (p0 ≥ 48)))), (2, 5, (.bool (decide (p0 ≥ 48))))] (by kernel_rfl) (fun _ => by kernel_rfl) ?_
  refine WO.join (l1 := [3, 4, 5]) (l2 := [6]) (J := fun frx wx => frx = [(8, (.bool ((decide (p0 ≥ 48)) && (decide (p0 ≤ 57)))))] ∧ w = wx) ?restm1 ?waysm1
  case waysm1 =>
    refine WO.caseb (decide (p0 ≥ 48)) (fun hc => ?_) (fun hc => ?_)
    · skip
      refine WO.reslot 5 rfl (show Value.bool (decide (p0 ≥ 48)) = Value.bool true by rw [hc]) ?_
      refine WO.vals [(3, 6, (.int .u8 p0)), (4, 7, (.bool (decide (p0 ≤ 57)))), (5, 8, (.bool (decide (p0 ≤ 57))))] (by kernel_rfl) (fun _ => by kernel_rfl) ?_
      refine WO.weaken (fr' := [(8, (.bool ((decide (p0 ≥ 48)) && (decide (p0 ≤ 57)))))]) (WO.meet ⟨rfl, rfl⟩) (Sub.cons (by rw [hc]; rfl) Sub.nil)
    · skip
      refine WO.reslot 5 rfl (show Value.bool (decide (p0 ≥ 48)) = Value.bool false by rw [hc]) ?_
      refine WO.pass rfl (by kernel_rfl) rfl ?_
      refine WO.pass rfl (by kernel_rfl) rfl ?_
      refine WO.vals [(5, 8, (.bool false))] (by kernel_rfl) (fun _ => by kernel_rfl) ?_
      refine WO.weaken (fr' := [(8, (.bool ((decide (p0 ≥ 48)) && (decide (p0 ≤ 57)))))]) (WO.meet ⟨rfl, rfl⟩) (Sub.cons (by rw [hc]; rfl) Sub.nil)
  case restm1 =>
    rintro _ _ ⟨rfl, rfl⟩
    refine WO.vals [(6, 2, (.bool ((decide (p0 ≥ 48)) && (decide (p0 ≤ 57)))))] (by kernel_rfl) (fun _ => by kernel_rfl) ?_
    refine WO.nil ?_
    refine En.next ?_
    refine W.ret ?_
    have he := Option.some.inj hr
    subst r
    exact En.ret1 rfl (.bool ((decide (p0 ≥ 48)) && (decide (p0 ≤ 57)))) rfl ⟨I, rfl, Mem.Le.refl _, hS⟩
def lex_one_1 (p0 : Int) : Option Bool := (lex_small p0).bind (fun (r6 : Bool) => ((bif r6 then some true else (lex_digit p0).bind (fun (r16 : Bool) => some r16))).bind (fun (j7 : Bool) => some (j7 || (p0 == 95))))
set_option maxHeartbeats 1000000 in
theorem lex_one_1_ok {E w : World} {I : Mem} {Os : List Mem} {p0 : Int} (hS : St E w I Os) {r : Bool} (hr : lex_one_1 p0 = some r) :
    Calls P 82 #[(.int .u8 p0)] w (fun e w' => ∃ (I' : Mem), e = .returned (.bool r) ∧ I.Le I' ∧ St E w' I' Os) := by
  refine calls_W (args := [(.int .u8 p0)]) (fn := Try.f82) rfl rfl rfl ?_
  unfold lex_one_1 at hr
  refine W.seq ?_
  refine W.region (l := [0]) (by kernel_rfl) ?_
  refine WO.vals [(0, 2, (.bool false))] (by kernel_rfl) (fun _ => by kernel_rfl) ?_
  refine WO.nil ?_
  refine En.next ?_
  refine W.seq ?_
  refine W.region (l := [0, 1, 2, 3, 4, 5, 6, 7, 8, 9, 10]) (by kernel_rfl) ?_
  refine WO.vals [(0, 3, (.int .u8 p0))] (by kernel_rfl) (fun _ => by kernel_rfl) ?_
  obtain ⟨r6, hx_r1, hr⟩ := bind_some hr
  refine WO.call rfl (by kernel_rfl) rfl (f := 80) (args := #[(.int .u8 p0)]) (by kernel_rfl) (lex_small_ok  hS hx_r1) ?_
  rintro _ w2 ⟨I3, rfl, hl4, hS5⟩
  refine ⟨_, rfl, trivial, ?_⟩
  refine WO.vals [(2, 5, (.bool r6))] (by kernel_rfl) (fun _ => by kernel_rfl) ?_
  obtain ⟨j7, hr1, hr⟩ := bind_some hr
  refine WO.join (l1 := [3, 4, 5]) (l2 := [6, 7, 8, 9, 10]) (J := (fun fr w => ∃ (I9 : Mem), fr = [(0, (.int .u8 p0)), (8, (.bool j7))] ∧ I3.Le I9 ∧ St E w I9 Os)) ?restj7 ?waysj7
  case waysj7 =>
    refine WO.caseb r6 (fun hc => ?_) (fun hc => ?_)
    · replace hr1 := cond_t hc hr1
      refine WO.reslot 5 rfl (show Value.bool r6 = Value.bool true by rw [hc]) ?_
      refine WO.pass rfl (by kernel_rfl) rfl ?_
      refine WO.pass rfl (by kernel_rfl) rfl ?_
      refine WO.vals [(5, 8, (.bool true))] (by kernel_rfl) (fun _ => by kernel_rfl) ?_
      have he := Option.some.inj hr1
      subst j7
      refine WO.weaken (fr' := [(0, (.int .u8 p0)), (8, (.bool true))]) (WO.meet ⟨I3, rfl, Mem.Le.refl _, hS5⟩) (Sub.cons rfl (Sub.cons rfl Sub.nil))
    · replace hr1 := cond_f hc hr1
      refine WO.reslot 5 rfl (show Value.bool r6 = Value.bool false by rw [hc]) ?_
      refine WO.vals [(3, 6, (.int .u8 p0))] (by kernel_rfl) (fun _ => by kernel_rfl) ?_
      obtain ⟨r16, hx_r11, hr1⟩ := bind_some hr1
      refine WO.call rfl (by kernel_rfl) rfl (f := 83) (args := #[(.int .u8 p0)]) (by kernel_rfl) (lex_digit_ok  hS5 hx_r11) ?_
      rintro _ w12 ⟨I13, rfl, hl14, hS15⟩
      refine ⟨_, rfl, trivial, ?_⟩
      refine WO.vals [(5, 8, (.bool r16))] (by kernel_rfl) (fun _ => by kernel_rfl) ?_
      have he := Option.some.inj hr1
      subst j7
      refine WO.weaken (fr' := [(0, (.int .u8 p0)), (8, (.bool r16))]) (WO.meet ⟨I13, rfl, hl14, hS15⟩) (Sub.cons rfl (Sub.cons rfl Sub.nil))
  case restj7 =>
    rintro _ w17 ⟨I9, rfl, hl10, hS18⟩
    refine WO.vals [(6, 9, (.bool j7))] (by kernel_rfl) (fun _ => by kernel_rfl) ?_
    refine WO.join (l1 := [7, 8, 9]) (l2 := [10]) (J := fun frx wx => frx = [(12, (.bool (j7 || (p0 == 95))))] ∧ w17 = wx) ?restm19 ?waysm19
    case waysm19 =>
      refine WO.caseb j7 (fun hc => ?_) (fun hc => ?_)
      · skip
        refine WO.reslot 9 rfl (show Value.bool j7 = Value.bool true by rw [hc]) ?_
        refine WO.pass rfl (by kernel_rfl) rfl ?_
        refine WO.pass rfl (by kernel_rfl) rfl ?_
        refine WO.vals [(9, 12, (.bool true))] (by kernel_rfl) (fun _ => by kernel_rfl) ?_
        refine WO.weaken (fr' := [(12, (.bool (j7 || (p0 == 95))))]) (WO.meet ⟨rfl, rfl⟩) (Sub.cons (by rw [hc]; rfl) Sub.nil)
      · skip
        refine WO.reslot 9 rfl (show Value.bool j7 = Value.bool false by rw [hc]) ?_
        refine WO.vals [(7, 10, (.int .u8 p0)), (8, 11, (.bool (p0 == 95))), (9, 12, (.bool (p0 == 95)))] (by kernel_rfl) (fun _ => by kernel_rfl) ?_
        refine WO.weaken (fr' := [(12, (.bool (j7 || (p0 == 95))))]) (WO.meet ⟨rfl, rfl⟩) (Sub.cons (by rw [hc]; rfl) Sub.nil)
    case restm19 =>
      rintro _ _ ⟨rfl, rfl⟩
      refine WO.vals [(10, 2, (.bool (j7 || (p0 == 95))))] (by kernel_rfl) (fun _ => by kernel_rfl) ?_
      refine WO.nil ?_
      refine En.next ?_
      refine W.ret ?_
      have he := Option.some.inj hr
      subst r
      exact En.ret1 rfl (.bool (j7 || (p0 == 95))) rfl ⟨I9, rfl, (hl4.trans hl10), hS18⟩
def lex_capital (p0 : Int) : Option Bool := some ((decide (p0 ≥ 65)) && (decide (p0 ≤ 90)))
set_option maxHeartbeats 1000000 in
theorem lex_capital_ok {E w : World} {I : Mem} {Os : List Mem} {p0 : Int} (hS : St E w I Os) {r : Bool} (hr : lex_capital p0 = some r) :
    Calls P 85 #[(.int .u8 p0)] w (fun e w' => ∃ (I' : Mem), e = .returned (.bool r) ∧ I.Le I' ∧ St E w' I' Os) := by
  refine calls_W (args := [(.int .u8 p0)]) (fn := Try.f85) rfl rfl rfl ?_
  unfold lex_capital at hr
  refine W.seq ?_
  refine W.region (l := [0]) (by kernel_rfl) ?_
  refine WO.vals [(0, 2, (.bool false))] (by kernel_rfl) (fun _ => by kernel_rfl) ?_
  refine WO.nil ?_
  refine En.next ?_
  refine W.seq ?_
  refine W.region (l := [0, 1, 2, 3, 4, 5, 6]) (by kernel_rfl) ?_
  refine WO.vals [(0, 3, (.int .u8 p0)), (1, 4, (.bool (decide (p0 ≥ 65)))), (2, 5, (.bool (decide (p0 ≥ 65))))] (by kernel_rfl) (fun _ => by kernel_rfl) ?_
  refine WO.join (l1 := [3, 4, 5]) (l2 := [6]) (J := fun frx wx => frx = [(8, (.bool ((decide (p0 ≥ 65)) && (decide (p0 ≤ 90)))))] ∧ w = wx) ?restm1 ?waysm1
  case waysm1 =>
    refine WO.caseb (decide (p0 ≥ 65)) (fun hc => ?_) (fun hc => ?_)
    · skip
      refine WO.reslot 5 rfl (show Value.bool (decide (p0 ≥ 65)) = Value.bool true by rw [hc]) ?_
      refine WO.vals [(3, 6, (.int .u8 p0)), (4, 7, (.bool (decide (p0 ≤ 90)))), (5, 8, (.bool (decide (p0 ≤ 90))))] (by kernel_rfl) (fun _ => by kernel_rfl) ?_
      refine WO.weaken (fr' := [(8, (.bool ((decide (p0 ≥ 65)) && (decide (p0 ≤ 90)))))]) (WO.meet ⟨rfl, rfl⟩) (Sub.cons (by rw [hc]; rfl) Sub.nil)
    · skip
      refine WO.reslot 5 rfl (show Value.bool (decide (p0 ≥ 65)) = Value.bool false by rw [hc]) ?_
      refine WO.pass rfl (by kernel_rfl) rfl ?_
      refine WO.pass rfl (by kernel_rfl) rfl ?_
      refine WO.vals [(5, 8, (.bool false))] (by kernel_rfl) (fun _ => by kernel_rfl) ?_
      refine WO.weaken (fr' := [(8, (.bool ((decide (p0 ≥ 65)) && (decide (p0 ≤ 90)))))]) (WO.meet ⟨rfl, rfl⟩) (Sub.cons (by rw [hc]; rfl) Sub.nil)
  case restm1 =>
    rintro _ _ ⟨rfl, rfl⟩
    refine WO.vals [(6, 2, (.bool ((decide (p0 ≥ 65)) && (decide (p0 ≤ 90)))))] (by kernel_rfl) (fun _ => by kernel_rfl) ?_
    refine WO.nil ?_
    refine En.next ?_
    refine W.ret ?_
    have he := Option.some.inj hr
    subst r
    exact En.ret1 rfl (.bool ((decide (p0 ≥ 65)) && (decide (p0 ≤ 90)))) rfl ⟨I, rfl, Mem.Le.refl _, hS⟩
def lex_glued (p0 : Int) : Option Bool := (lex_small p0).bind (fun (r6 : Bool) => ((bif r6 then some true else (lex_capital p0).bind (fun (r16 : Bool) => some r16))).bind (fun (j7 : Bool) => ((bif j7 then some true else (lex_digit p0).bind (fun (r28 : Bool) => some r28))).bind (fun (j19 : Bool) => some ((j19 || (p0 == 95)) || (p0 == 36)))))
set_option maxHeartbeats 1000000 in
theorem lex_glued_ok {E w : World} {I : Mem} {Os : List Mem} {p0 : Int} (hS : St E w I Os) {r : Bool} (hr : lex_glued p0 = some r) :
    Calls P 96 #[(.int .u8 p0)] w (fun e w' => ∃ (I' : Mem), e = .returned (.bool r) ∧ I.Le I' ∧ St E w' I' Os) := by
  refine calls_W (args := [(.int .u8 p0)]) (fn := Try.f96) rfl rfl rfl ?_
  unfold lex_glued at hr
  refine W.seq ?_
  refine W.region (l := [0]) (by kernel_rfl) ?_
  refine WO.vals [(0, 2, (.bool false))] (by kernel_rfl) (fun _ => by kernel_rfl) ?_
  refine WO.nil ?_
  refine En.next ?_
  refine W.seq ?_
  refine W.region (l := [0, 1, 2, 3, 4, 5, 6, 7, 8, 9, 10, 11, 12, 13, 14, 15, 16, 17, 18]) (by kernel_rfl) ?_
  refine WO.vals [(0, 3, (.int .u8 p0))] (by kernel_rfl) (fun _ => by kernel_rfl) ?_
  obtain ⟨r6, hx_r1, hr⟩ := bind_some hr
  refine WO.call rfl (by kernel_rfl) rfl (f := 80) (args := #[(.int .u8 p0)]) (by kernel_rfl) (lex_small_ok  hS hx_r1) ?_
  rintro _ w2 ⟨I3, rfl, hl4, hS5⟩
  refine ⟨_, rfl, trivial, ?_⟩
  refine WO.vals [(2, 5, (.bool r6))] (by kernel_rfl) (fun _ => by kernel_rfl) ?_
  obtain ⟨j7, hr1, hr⟩ := bind_some hr
  refine WO.join (l1 := [3, 4, 5]) (l2 := [6, 7, 8, 9, 10, 11, 12, 13, 14, 15, 16, 17, 18]) (J := (fun fr w => ∃ (I9 : Mem), fr = [(0, (.int .u8 p0)), (8, (.bool j7))] ∧ I3.Le I9 ∧ St E w I9 Os)) ?restj7 ?waysj7
  case waysj7 =>
    refine WO.caseb r6 (fun hc => ?_) (fun hc => ?_)
    · replace hr1 := cond_t hc hr1
      refine WO.reslot 5 rfl (show Value.bool r6 = Value.bool true by rw [hc]) ?_
      refine WO.pass rfl (by kernel_rfl) rfl ?_
      refine WO.pass rfl (by kernel_rfl) rfl ?_
      refine WO.vals [(5, 8, (.bool true))] (by kernel_rfl) (fun _ => by kernel_rfl) ?_
      have he := Option.some.inj hr1
      subst j7
      refine WO.weaken (fr' := [(0, (.int .u8 p0)), (8, (.bool true))]) (WO.meet ⟨I3, rfl, Mem.Le.refl _, hS5⟩) (Sub.cons rfl (Sub.cons rfl Sub.nil))
    · replace hr1 := cond_f hc hr1
      refine WO.reslot 5 rfl (show Value.bool r6 = Value.bool false by rw [hc]) ?_
      refine WO.vals [(3, 6, (.int .u8 p0))] (by kernel_rfl) (fun _ => by kernel_rfl) ?_
      obtain ⟨r16, hx_r11, hr1⟩ := bind_some hr1
      refine WO.call rfl (by kernel_rfl) rfl (f := 85) (args := #[(.int .u8 p0)]) (by kernel_rfl) (lex_capital_ok  hS5 hx_r11) ?_
      rintro _ w12 ⟨I13, rfl, hl14, hS15⟩
      refine ⟨_, rfl, trivial, ?_⟩
      refine WO.vals [(5, 8, (.bool r16))] (by kernel_rfl) (fun _ => by kernel_rfl) ?_
      have he := Option.some.inj hr1
      subst j7
      refine WO.weaken (fr' := [(0, (.int .u8 p0)), (8, (.bool r16))]) (WO.meet ⟨I13, rfl, hl14, hS15⟩) (Sub.cons rfl (Sub.cons rfl Sub.nil))
  case restj7 =>
    rintro _ w17 ⟨I9, rfl, hl10, hS18⟩
    refine WO.vals [(6, 9, (.bool j7))] (by kernel_rfl) (fun _ => by kernel_rfl) ?_
    obtain ⟨j19, hr1, hr⟩ := bind_some hr
    refine WO.join (l1 := [7, 8, 9]) (l2 := [10, 11, 12, 13, 14, 15, 16, 17, 18]) (J := (fun fr w => ∃ (I21 : Mem), fr = [(0, (.int .u8 p0)), (12, (.bool j19))] ∧ I9.Le I21 ∧ St E w I21 Os)) ?restj19 ?waysj19
    case waysj19 =>
      refine WO.caseb j7 (fun hc => ?_) (fun hc => ?_)
      · replace hr1 := cond_t hc hr1
        refine WO.reslot 9 rfl (show Value.bool j7 = Value.bool true by rw [hc]) ?_
        refine WO.pass rfl (by kernel_rfl) rfl ?_
        refine WO.pass rfl (by kernel_rfl) rfl ?_
        refine WO.vals [(9, 12, (.bool true))] (by kernel_rfl) (fun _ => by kernel_rfl) ?_
        have he := Option.some.inj hr1
        subst j19
        refine WO.weaken (fr' := [(0, (.int .u8 p0)), (12, (.bool true))]) (WO.meet ⟨I9, rfl, Mem.Le.refl _, hS18⟩) (Sub.cons rfl (Sub.cons rfl Sub.nil))
      · replace hr1 := cond_f hc hr1
        refine WO.reslot 9 rfl (show Value.bool j7 = Value.bool false by rw [hc]) ?_
        refine WO.vals [(7, 10, (.int .u8 p0))] (by kernel_rfl) (fun _ => by kernel_rfl) ?_
        obtain ⟨r28, hx_r23, hr1⟩ := bind_some hr1
        refine WO.call rfl (by kernel_rfl) rfl (f := 83) (args := #[(.int .u8 p0)]) (by kernel_rfl) (lex_digit_ok  hS18 hx_r23) ?_
        rintro _ w24 ⟨I25, rfl, hl26, hS27⟩
        refine ⟨_, rfl, trivial, ?_⟩
        refine WO.vals [(9, 12, (.bool r28))] (by kernel_rfl) (fun _ => by kernel_rfl) ?_
        have he := Option.some.inj hr1
        subst j19
        refine WO.weaken (fr' := [(0, (.int .u8 p0)), (12, (.bool r28))]) (WO.meet ⟨I25, rfl, hl26, hS27⟩) (Sub.cons rfl (Sub.cons rfl Sub.nil))
    case restj19 =>
      rintro _ w29 ⟨I21, rfl, hl22, hS30⟩
      refine WO.vals [(10, 13, (.bool j19))] (by kernel_rfl) (fun _ => by kernel_rfl) ?_
      refine WO.join (l1 := [11, 12, 13]) (l2 := [14, 15, 16, 17, 18]) (J := fun frx wx => frx = [(16, (.bool (j19 || (p0 == 95)))), (0, (.int .u8 p0))] ∧ w29 = wx) ?restm31 ?waysm31
      case waysm31 =>
        refine WO.caseb j19 (fun hc => ?_) (fun hc => ?_)
        · skip
          refine WO.reslot 13 rfl (show Value.bool j19 = Value.bool true by rw [hc]) ?_
          refine WO.pass rfl (by kernel_rfl) rfl ?_
          refine WO.pass rfl (by kernel_rfl) rfl ?_
          refine WO.vals [(13, 16, (.bool true))] (by kernel_rfl) (fun _ => by kernel_rfl) ?_
          refine WO.weaken (fr' := [(16, (.bool (j19 || (p0 == 95)))), (0, (.int .u8 p0))]) (WO.meet ⟨rfl, rfl⟩) (Sub.cons (by rw [hc]; rfl) (Sub.cons rfl Sub.nil))
        · skip
          refine WO.reslot 13 rfl (show Value.bool j19 = Value.bool false by rw [hc]) ?_
          refine WO.vals [(11, 14, (.int .u8 p0)), (12, 15, (.bool (p0 == 95))), (13, 16, (.bool (p0 == 95)))] (by kernel_rfl) (fun _ => by kernel_rfl) ?_
          refine WO.weaken (fr' := [(16, (.bool (j19 || (p0 == 95)))), (0, (.int .u8 p0))]) (WO.meet ⟨rfl, rfl⟩) (Sub.cons (by rw [hc]; rfl) (Sub.cons rfl Sub.nil))
      case restm31 =>
        rintro _ _ ⟨rfl, rfl⟩
        refine WO.vals [(14, 17, (.bool (j19 || (p0 == 95))))] (by kernel_rfl) (fun _ => by kernel_rfl) ?_
        refine WO.join (l1 := [15, 16, 17]) (l2 := [18]) (J := fun frx wx => frx = [(20, (.bool ((j19 || (p0 == 95)) || (p0 == 36))))] ∧ w29 = wx) ?restm33 ?waysm33
        case waysm33 =>
          refine WO.caseb (j19 || (p0 == 95)) (fun hc => ?_) (fun hc => ?_)
          · skip
            refine WO.reslot 17 rfl (show Value.bool (j19 || (p0 == 95)) = Value.bool true by rw [hc]) ?_
            refine WO.pass rfl (by kernel_rfl) rfl ?_
            refine WO.pass rfl (by kernel_rfl) rfl ?_
            refine WO.vals [(17, 20, (.bool true))] (by kernel_rfl) (fun _ => by kernel_rfl) ?_
            refine WO.weaken (fr' := [(20, (.bool ((j19 || (p0 == 95)) || (p0 == 36))))]) (WO.meet ⟨rfl, rfl⟩) (Sub.cons (by rw [hc]; rfl) Sub.nil)
          · skip
            refine WO.reslot 17 rfl (show Value.bool (j19 || (p0 == 95)) = Value.bool false by rw [hc]) ?_
            refine WO.vals [(15, 18, (.int .u8 p0)), (16, 19, (.bool (p0 == 36))), (17, 20, (.bool (p0 == 36)))] (by kernel_rfl) (fun _ => by kernel_rfl) ?_
            refine WO.weaken (fr' := [(20, (.bool ((j19 || (p0 == 95)) || (p0 == 36))))]) (WO.meet ⟨rfl, rfl⟩) (Sub.cons (by rw [hc]; rfl) Sub.nil)
        case restm33 =>
          rintro _ _ ⟨rfl, rfl⟩
          refine WO.vals [(18, 2, (.bool ((j19 || (p0 == 95)) || (p0 == 36))))] (by kernel_rfl) (fun _ => by kernel_rfl) ?_
          refine WO.nil ?_
          refine En.next ?_
          refine W.ret ?_
          have he := Option.some.inj hr
          subst r
          exact En.ret1 rfl (.bool ((j19 || (p0 == 95)) || (p0 == 36))) rfl ⟨I21, rfl, ((hl4.trans hl10).trans hl22), hS30⟩
def lex_alone (p0 : ByteArray) (p1 : Int) : Option Int := ((bif (decide (p1 < (p0.size : Int))) then (sAt p0 p1).bind (fun (y5 : Int) => (lex_glued y5).bind (fun (r11 : Bool) => some r11)) else some false)).bind (fun (j1 : Bool) => (bif j1 then some 0 else some p1))
set_option maxHeartbeats 1000000 in
theorem lex_alone_ok {E w : World} {I : Mem} {Os : List Mem} {p0 : ByteArray} {p1 : Int} (hS : St E w I Os) {r : Int} (hr : lex_alone p0 p1 = some r) :
    Calls P 84 #[(.string p0), (.int .i64 p1)] w (fun e w' => ∃ (I' : Mem), e = .returned (.int .i64 r) ∧ I.Le I' ∧ St E w' I' Os) := by
  refine calls_W (args := [(.string p0), (.int .i64 p1)]) (fn := Try.f84) rfl rfl rfl ?_
  unfold lex_alone at hr
  refine W.seq ?_
  refine W.region (l := [0]) (by kernel_rfl) ?_
  refine WO.vals [(0, 4, (.int .i64 0))] (by kernel_rfl) (fun _ => by kernel_rfl) ?_
  refine WO.nil ?_
  refine En.next ?_
  refine W.seq ?_
  refine W.seq ?_
  refine W.region (l := [0, 1, 2, 3, 4, 5, 6, 7, 8, 9]) (by kernel_rfl) ?_
  refine WO.vals [(0, 5, (.int .i64 p1)), (1, 6, (.string p0)), (2, 7, (.int .i64 (p0.size : Int))), (3, 8, (.bool (decide (p1 < (p0.size : Int))))), (4, 9, (.bool (decide (p1 < (p0.size : Int)))))] (by kernel_rfl) (fun _ => by kernel_rfl) ?_
  obtain ⟨j1, hr1, hr⟩ := bind_some hr
  refine WO.join (l1 := [5, 6, 7, 8, 9]) (l2 := []) (J := (fun fr w => ∃ (I3 : Mem), fr = [(1, (.int .i64 p1)), (14, (.bool j1))] ∧ I.Le I3 ∧ St E w I3 Os)) ?restj1 ?waysj1
  case waysj1 =>
    refine WO.caseb (decide (p1 < (p0.size : Int))) (fun hc => ?_) (fun hc => ?_)
    · replace hr1 := cond_t hc hr1
      refine WO.reslot 9 rfl (show Value.bool (decide (p1 < (p0.size : Int))) = Value.bool true by rw [hc]) ?_
      refine WO.vals [(5, 10, (.string p0)), (6, 11, (.int .i64 p1))] (by kernel_rfl) (fun _ => by kernel_rfl) ?_
      obtain ⟨y5, hx_y5, hr1⟩ := bind_some hr1
      refine WO.indexStr rfl (by kernel_rfl) (by kernel_rfl) rfl rfl hx_y5 ?_
      obtain ⟨r11, hx_r6, hr1⟩ := bind_some hr1
      refine WO.call rfl (by kernel_rfl) rfl (f := 96) (args := #[(.int .u8 y5)]) (by kernel_rfl) (lex_glued_ok  hS hx_r6) ?_
      rintro _ w7 ⟨I8, rfl, hl9, hS10⟩
      refine ⟨_, rfl, trivial, ?_⟩
      refine WO.vals [(9, 14, (.bool r11))] (by kernel_rfl) (fun _ => by kernel_rfl) ?_
      have he := Option.some.inj hr1
      subst j1
      refine WO.weaken (fr' := [(1, (.int .i64 p1)), (14, (.bool r11))]) (WO.meet ⟨I8, rfl, hl9, hS10⟩) (Sub.cons rfl (Sub.cons rfl Sub.nil))
    · replace hr1 := cond_f hc hr1
      refine WO.reslot 9 rfl (show Value.bool (decide (p1 < (p0.size : Int))) = Value.bool false by rw [hc]) ?_
      refine WO.pass rfl (by kernel_rfl) rfl ?_
      refine WO.pass rfl (by kernel_rfl) rfl ?_
      refine WO.pass rfl (by kernel_rfl) rfl ?_
      refine WO.pass rfl (by kernel_rfl) rfl ?_
      refine WO.vals [(9, 14, (.bool false))] (by kernel_rfl) (fun _ => by kernel_rfl) ?_
      have he := Option.some.inj hr1
      subst j1
      refine WO.weaken (fr' := [(1, (.int .i64 p1)), (14, (.bool false))]) (WO.meet ⟨I, rfl, Mem.Le.refl _, hS⟩) (Sub.cons rfl (Sub.cons rfl Sub.nil))
  case restj1 =>
    rintro _ w12 ⟨I3, rfl, hl4, hS13⟩
    refine WO.nil ?_
    refine En.next ?_
    refine W.cond (b := j1) rfl rfl (fun hc => ?_) (fun hc => ?_)
    · replace hr := cond_t hc hr
      refine W.seq ?_
      refine W.region (l := [0]) (by kernel_rfl) ?_
      refine WO.vals [(0, 4, (.int .i64 0))] (by kernel_rfl) (fun _ => by kernel_rfl) ?_
      refine WO.nil ?_
      refine En.next ?_
      refine W.ret ?_
      refine En.nx_ret ?_
      have he := Option.some.inj hr
      subst r
      exact En.ret1 rfl (.int .i64 0) rfl ⟨I3, rfl, hl4, hS13⟩
    · replace hr := cond_f hc hr
      refine W.skip ?_
      refine En.next ?_
      refine W.seq ?_
      refine W.region (l := [0, 1]) (by kernel_rfl) ?_
      refine WO.vals [(0, 15, (.int .i64 p1)), (1, 4, (.int .i64 p1))] (by kernel_rfl) (fun _ => by kernel_rfl) ?_
      refine WO.nil ?_
      refine En.next ?_
      refine W.ret ?_
      have he := Option.some.inj hr
      subst r
      exact En.ret1 rfl (.int .i64 p1) rfl ⟨I3, rfl, hl4, hS13⟩
def lex_one_2 (p0 : Int) : Option Bool := (lex_capital p0).bind (fun (r6 : Bool) => some (r6 || (p0 == 95)))
set_option maxHeartbeats 1000000 in
theorem lex_one_2_ok {E w : World} {I : Mem} {Os : List Mem} {p0 : Int} (hS : St E w I Os) {r : Bool} (hr : lex_one_2 p0 = some r) :
    Calls P 86 #[(.int .u8 p0)] w (fun e w' => ∃ (I' : Mem), e = .returned (.bool r) ∧ I.Le I' ∧ St E w' I' Os) := by
  refine calls_W (args := [(.int .u8 p0)]) (fn := Try.f86) rfl rfl rfl ?_
  unfold lex_one_2 at hr
  refine W.seq ?_
  refine W.region (l := [0]) (by kernel_rfl) ?_
  refine WO.vals [(0, 2, (.bool false))] (by kernel_rfl) (fun _ => by kernel_rfl) ?_
  refine WO.nil ?_
  refine En.next ?_
  refine W.seq ?_
  refine W.region (l := [0, 1, 2, 3, 4, 5, 6]) (by kernel_rfl) ?_
  refine WO.vals [(0, 3, (.int .u8 p0))] (by kernel_rfl) (fun _ => by kernel_rfl) ?_
  obtain ⟨r6, hx_r1, hr⟩ := bind_some hr
  refine WO.call rfl (by kernel_rfl) rfl (f := 85) (args := #[(.int .u8 p0)]) (by kernel_rfl) (lex_capital_ok  hS hx_r1) ?_
  rintro _ w2 ⟨I3, rfl, hl4, hS5⟩
  refine ⟨_, rfl, trivial, ?_⟩
  refine WO.vals [(2, 5, (.bool r6))] (by kernel_rfl) (fun _ => by kernel_rfl) ?_
  refine WO.join (l1 := [3, 4, 5]) (l2 := [6]) (J := fun frx wx => frx = [(8, (.bool (r6 || (p0 == 95))))] ∧ w2 = wx) ?restm7 ?waysm7
  case waysm7 =>
    refine WO.caseb r6 (fun hc => ?_) (fun hc => ?_)
    · skip
      refine WO.reslot 5 rfl (show Value.bool r6 = Value.bool true by rw [hc]) ?_
      refine WO.pass rfl (by kernel_rfl) rfl ?_
      refine WO.pass rfl (by kernel_rfl) rfl ?_
      refine WO.vals [(5, 8, (.bool true))] (by kernel_rfl) (fun _ => by kernel_rfl) ?_
      refine WO.weaken (fr' := [(8, (.bool (r6 || (p0 == 95))))]) (WO.meet ⟨rfl, rfl⟩) (Sub.cons (by rw [hc]; rfl) Sub.nil)
    · skip
      refine WO.reslot 5 rfl (show Value.bool r6 = Value.bool false by rw [hc]) ?_
      refine WO.vals [(3, 6, (.int .u8 p0)), (4, 7, (.bool (p0 == 95))), (5, 8, (.bool (p0 == 95)))] (by kernel_rfl) (fun _ => by kernel_rfl) ?_
      refine WO.weaken (fr' := [(8, (.bool (r6 || (p0 == 95))))]) (WO.meet ⟨rfl, rfl⟩) (Sub.cons (by rw [hc]; rfl) Sub.nil)
  case restm7 =>
    rintro _ _ ⟨rfl, rfl⟩
    refine WO.vals [(6, 2, (.bool (r6 || (p0 == 95))))] (by kernel_rfl) (fun _ => by kernel_rfl) ?_
    refine WO.nil ?_
    refine En.next ?_
    refine W.ret ?_
    have he := Option.some.inj hr
    subst r
    exact En.ret1 rfl (.bool (r6 || (p0 == 95))) rfl ⟨I3, rfl, hl4, hS5⟩
noncomputable def lex_quoted (p0 : ByteArray) : Option Int := (loopO (fun (s4 : Int) => (bif (decide (s4 < (p0.size : Int))) then (sAt p0 s4).bind (fun (y9 : Int) => ((bif (decide (y9 < 32)) then some true else (sAt p0 s4).bind (fun (y14 : Int) => some (decide (y14 > 126))))).bind (fun (j10 : Bool) => (bif j10 then some (.inr (.inl 0)) else (sAt p0 s4).bind (fun (y19 : Int) => ((bif (y19 != 39) then some (.inl s4) else ((bif (decide ((w64 (s4 + 1)) < (p0.size : Int))) then (sAt p0 (w64 (s4 + 1))).bind (fun (y29 : Int) => some (y29 == 39)) else some false)).bind (fun (j25 : Bool) => (bif j25 then some (.inl (w64 (s4 + 1))) else some (.inr (w64 (s4 + 1))))))).bind (fun (t : Int ⊕ Int) => match t with | (.inl s24) => some (.inl (w64 (s24 + 1))) | (.inr s33) => some (.inr (.inl s33))))))) else some (.inr (.inr ())))) 1).bind (fun (t : Int ⊕ Unit) => match t with | (.inl s18) => some s18 | (.inr ()) => some 0)
set_option maxHeartbeats 1000000 in
theorem lex_quoted_ok {E w : World} {I : Mem} {Os : List Mem} {p0 : ByteArray} (hS : St E w I Os) {r : Int} (hr : lex_quoted p0 = some r) :
    Calls P 87 #[(.string p0)] w (fun e w' => ∃ (I' : Mem), e = .returned (.int .i64 r) ∧ I.Le I' ∧ St E w' I' Os) := by
  refine calls_W (args := [(.string p0)]) (fn := Try.f87) rfl rfl rfl ?_
  unfold lex_quoted at hr
  refine W.seq ?_
  refine W.region (l := [0]) (by kernel_rfl) ?_
  refine WO.vals [(0, 2, (.int .i64 0))] (by kernel_rfl) (fun _ => by kernel_rfl) ?_
  refine WO.nil ?_
  refine En.next ?_
  refine W.seq ?_
  refine W.seq ?_
  refine W.region (l := [0]) (by kernel_rfl) ?_
  refine WO.vals [(0, 3, (.int .i64 1))] (by kernel_rfl) (fun _ => by kernel_rfl) ?_
  refine WO.nil ?_
  refine En.next ?_
  refine W.block ?_
  obtain ⟨t1, hloop5, hr⟩ := bind_some hr
  refine W.weaken (fr' := [(0, (.string p0)), (3, (.int .i64 1))]) (W.loopO hloop5 (fun (s4 : Int) fr w => ∃ (I2 : Mem), fr = [(0, (.string p0)), (3, (.int .i64 s4))] ∧ I.Le I2 ∧ St E w I2 Os) ⟨I, rfl, Mem.Le.refl _, hS⟩ ?_) (Sub.cons rfl (Sub.cons rfl Sub.nil))
  rintro s4 _ w6 ⟨I2, rfl, hl3, hS7⟩ x8 hr1 hext1
  refine W.seq ?_
  refine W.seq ?_
  refine W.region (l := [0, 1, 2, 3]) (by kernel_rfl) ?_
  refine WO.vals [(0, 4, (.int .i64 s4)), (1, 5, (.string p0)), (2, 6, (.int .i64 (p0.size : Int))), (3, 7, (.bool (decide (s4 < (p0.size : Int)))))] (by kernel_rfl) (fun _ => by kernel_rfl) ?_
  refine WO.nil ?_
  refine En.next ?_
  refine W.cond (b := (decide (s4 < (p0.size : Int)))) rfl rfl (fun hc => ?_) (fun hc => ?_)
  · replace hr1 := cond_t hc hr1
    refine W.skip ?_
    refine En.next ?_
    refine W.seq ?_
    refine W.block ?_
    refine W.block ?_
    refine W.seq ?_
    refine W.region (l := [0, 1, 2, 3, 4, 5, 6, 7, 8, 9, 10]) (by kernel_rfl) ?_
    refine WO.vals [(0, 13, (.string p0)), (1, 14, (.int .i64 s4))] (by kernel_rfl) (fun _ => by kernel_rfl) ?_
    obtain ⟨y9, hx_y9, hr1⟩ := bind_some hr1
    refine WO.indexStr rfl (by kernel_rfl) (by kernel_rfl) rfl rfl hx_y9 ?_
    refine WO.vals [(3, 16, (.bool (decide (y9 < 32)))), (4, 17, (.bool (decide (y9 < 32))))] (by kernel_rfl) (fun _ => by kernel_rfl) ?_
    obtain ⟨j10, hr2, hr1⟩ := bind_some hr1
    refine WO.join (l1 := [5, 6, 7, 8, 9]) (l2 := [10]) (J := (fun fr w => ∃ (I12 : Mem), fr = [(0, (.string p0)), (3, (.int .i64 s4)), (22, (.bool j10))] ∧ I2.Le I12 ∧ St E w I12 Os)) ?restj10 ?waysj10
    case waysj10 =>
      refine WO.caseb (decide (y9 < 32)) (fun hc => ?_) (fun hc => ?_)
      · replace hr2 := cond_t hc hr2
        refine WO.reslot 17 rfl (show Value.bool (decide (y9 < 32)) = Value.bool true by rw [hc]) ?_
        refine WO.pass rfl (by kernel_rfl) rfl ?_
        refine WO.pass rfl (by kernel_rfl) rfl ?_
        refine WO.pass rfl (by kernel_rfl) rfl ?_
        refine WO.pass rfl (by kernel_rfl) rfl ?_
        refine WO.vals [(9, 22, (.bool true))] (by kernel_rfl) (fun _ => by kernel_rfl) ?_
        have he := Option.some.inj hr2
        subst j10
        refine WO.weaken (fr' := [(0, (.string p0)), (3, (.int .i64 s4)), (22, (.bool true))]) (WO.meet ⟨I2, rfl, Mem.Le.refl _, hS7⟩) (Sub.cons rfl (Sub.cons rfl (Sub.cons rfl Sub.nil)))
      · replace hr2 := cond_f hc hr2
        refine WO.reslot 17 rfl (show Value.bool (decide (y9 < 32)) = Value.bool false by rw [hc]) ?_
        refine WO.vals [(5, 18, (.string p0)), (6, 19, (.int .i64 s4))] (by kernel_rfl) (fun _ => by kernel_rfl) ?_
        obtain ⟨y14, hx_y14, hr2⟩ := bind_some hr2
        refine WO.indexStr rfl (by kernel_rfl) (by kernel_rfl) rfl rfl hx_y14 ?_
        refine WO.vals [(8, 21, (.bool (decide (y14 > 126)))), (9, 22, (.bool (decide (y14 > 126))))] (by kernel_rfl) (fun _ => by kernel_rfl) ?_
        have he := Option.some.inj hr2
        subst j10
        refine WO.weaken (fr' := [(0, (.string p0)), (3, (.int .i64 s4)), (22, (.bool (decide (y14 > 126))))]) (WO.meet ⟨I2, rfl, Mem.Le.refl _, hS7⟩) (Sub.cons rfl (Sub.cons rfl (Sub.cons rfl Sub.nil)))
    case restj10 =>
      rintro _ w15 ⟨I12, rfl, hl13, hS16⟩
      refine WO.vals [(10, 12, (.bool j10))] (by kernel_rfl) (fun _ => by kernel_rfl) ?_
      refine WO.nil ?_
      refine En.next ?_
      refine W.cond (b := j10) rfl rfl (fun hc => ?_) (fun hc => ?_)
      · replace hr1 := cond_t hc hr1
        refine W.seq ?_
        refine W.region (l := [0]) (by kernel_rfl) ?_
        refine WO.vals [(0, 2, (.int .i64 0))] (by kernel_rfl) (fun _ => by kernel_rfl) ?_
        refine WO.nil ?_
        refine En.next ?_
        refine W.ret ?_
        refine En.in_ret ?_
        refine En.in_ret ?_
        refine En.nx_ret ?_
        refine En.rd_ret ?_
        have ht := hext1 _ (Option.some.inj hr1).symm
        subst t1
        refine En.in_ret ?_
        refine En.nx_ret ?_
        have he := Option.some.inj hr
        subst r
        exact En.ret1 rfl (.int .i64 0) rfl ⟨I12, rfl, (hl3.trans hl13), hS16⟩
      · replace hr1 := cond_f hc hr1
        refine W.seq ?_
        refine W.region (l := [0, 1, 2, 3, 4]) (by kernel_rfl) ?_
        refine WO.vals [(0, 24, (.string p0)), (1, 25, (.int .i64 s4))] (by kernel_rfl) (fun _ => by kernel_rfl) ?_
        obtain ⟨y19, hx_y19, hr1⟩ := bind_some hr1
        refine WO.indexStr rfl (by kernel_rfl) (by kernel_rfl) rfl rfl hx_y19 ?_
        refine WO.vals [(3, 27, (.bool (y19 != 39))), (4, 23, (.bool (y19 != 39)))] (by kernel_rfl) (fun _ => by kernel_rfl) ?_
        refine WO.nil ?_
        refine En.next ?_
        obtain ⟨j20, hr2, hr1⟩ := bind_some hr1
        refine W.join (J := (fun fr w => ∃ (s24 : Int), ∃ (I22 : Mem), (.inl s24) = j20 ∧ fr = [(0, (.string p0)), (3, (.int .i64 s24))] ∧ I12.Le I22 ∧ St E w I22 Os)) ?restj20 ?waysj20
        case waysj20 =>
          refine W.cond (b := (y19 != 39)) rfl rfl (fun hc => ?_) (fun hc => ?_)
          · replace hr2 := cond_t hc hr2
            refine W.skip ?_
            refine En.weaken (fr' := [(0, (.string p0)), (3, (.int .i64 s4))]) (En.round ⟨s4, I12, Option.some.inj hr2, rfl, Mem.Le.refl _, hS16⟩) (Sub.cons rfl (Sub.cons rfl Sub.nil))
          · replace hr2 := cond_f hc hr2
            refine W.seq ?_
            refine W.region (l := [0, 1, 2, 3, 4, 5, 6, 7, 8, 9, 10, 11, 12]) (by kernel_rfl) ?_
            refine WO.vals [(0, 29, (.int .i64 s4)), (1, 30, (.int .i64 (w64 (s4 + 1)))), (2, 31, (.string p0)), (3, 32, (.int .i64 (p0.size : Int))), (4, 33, (.bool (decide ((w64 (s4 + 1)) < (p0.size : Int))))), (5, 34, (.bool (decide ((w64 (s4 + 1)) < (p0.size : Int)))))] (by kernel_rfl) (fun _ => by kernel_rfl) ?_
            obtain ⟨j25, hr3, hr2⟩ := bind_some hr2
            refine WO.join (l1 := [6, 7, 8, 9, 10, 11]) (l2 := [12]) (J := (fun fr w => ∃ (I27 : Mem), fr = [(0, (.string p0)), (3, (.int .i64 s4)), (40, (.bool j25))] ∧ I12.Le I27 ∧ St E w I27 Os)) ?restj25 ?waysj25
            case waysj25 =>
              refine WO.caseb (decide ((w64 (s4 + 1)) < (p0.size : Int))) (fun hc => ?_) (fun hc => ?_)
              · replace hr3 := cond_t hc hr3
                refine WO.reslot 34 rfl (show Value.bool (decide ((w64 (s4 + 1)) < (p0.size : Int))) = Value.bool true by rw [hc]) ?_
                refine WO.vals [(6, 35, (.string p0)), (7, 36, (.int .i64 s4)), (8, 37, (.int .i64 (w64 (s4 + 1))))] (by kernel_rfl) (fun _ => by kernel_rfl) ?_
                obtain ⟨y29, hx_y29, hr3⟩ := bind_some hr3
                refine WO.indexStr rfl (by kernel_rfl) (by kernel_rfl) rfl rfl hx_y29 ?_
                refine WO.vals [(10, 39, (.bool (y29 == 39))), (11, 40, (.bool (y29 == 39)))] (by kernel_rfl) (fun _ => by kernel_rfl) ?_
                have he := Option.some.inj hr3
                subst j25
                refine WO.weaken (fr' := [(0, (.string p0)), (3, (.int .i64 s4)), (40, (.bool (y29 == 39)))]) (WO.meet ⟨I12, rfl, Mem.Le.refl _, hS16⟩) (Sub.cons rfl (Sub.cons rfl (Sub.cons rfl Sub.nil)))
              · replace hr3 := cond_f hc hr3
                refine WO.reslot 34 rfl (show Value.bool (decide ((w64 (s4 + 1)) < (p0.size : Int))) = Value.bool false by rw [hc]) ?_
                refine WO.pass rfl (by kernel_rfl) rfl ?_
                refine WO.pass rfl (by kernel_rfl) rfl ?_
                refine WO.pass rfl (by kernel_rfl) rfl ?_
                refine WO.pass rfl (by kernel_rfl) rfl ?_
                refine WO.pass rfl (by kernel_rfl) rfl ?_
                refine WO.vals [(11, 40, (.bool false))] (by kernel_rfl) (fun _ => by kernel_rfl) ?_
                have he := Option.some.inj hr3
                subst j25
                refine WO.weaken (fr' := [(0, (.string p0)), (3, (.int .i64 s4)), (40, (.bool false))]) (WO.meet ⟨I12, rfl, Mem.Le.refl _, hS16⟩) (Sub.cons rfl (Sub.cons rfl (Sub.cons rfl Sub.nil)))
            case restj25 =>
              rintro _ w30 ⟨I27, rfl, hl28, hS31⟩
              refine WO.vals [(12, 28, (.bool j25))] (by kernel_rfl) (fun _ => by kernel_rfl) ?_
              refine WO.nil ?_
              refine En.next ?_
              refine W.cond (b := j25) rfl rfl (fun hc => ?_) (fun hc => ?_)
              · replace hr2 := cond_t hc hr2
                refine W.region (l := [0, 1, 2]) (by kernel_rfl) ?_
                refine WO.vals [(0, 41, (.int .i64 s4)), (1, 42, (.int .i64 (w64 (s4 + 1)))), (2, 3, (.int .i64 (w64 (s4 + 1))))] (by kernel_rfl) (fun _ => by kernel_rfl) ?_
                refine WO.nil ?_
                refine En.weaken (fr' := [(0, (.string p0)), (3, (.int .i64 (w64 (s4 + 1))))]) (En.round ⟨(w64 (s4 + 1)), I27, Option.some.inj hr2, rfl, hl28, hS31⟩) (Sub.cons rfl (Sub.cons rfl Sub.nil))
              · replace hr2 := cond_f hc hr2
                refine W.seq ?_
                refine W.region (l := [0, 1, 2]) (by kernel_rfl) ?_
                refine WO.vals [(0, 10, (.int .i64 s4)), (1, 11, (.int .i64 (w64 (s4 + 1)))), (2, 2, (.int .i64 (w64 (s4 + 1))))] (by kernel_rfl) (fun _ => by kernel_rfl) ?_
                refine WO.nil ?_
                refine En.next ?_
                refine W.ret ?_
                refine En.rd_ret ?_
                have ht := Option.some.inj hr2
                subst j20
                refine En.in_ret ?_
                refine En.in_ret ?_
                refine En.nx_ret ?_
                refine En.rd_ret ?_
                have ht := hext1 _ (Option.some.inj hr1).symm
                subst t1
                refine En.in_ret ?_
                refine En.nx_ret ?_
                have he := Option.some.inj hr
                subst r
                exact En.ret1 rfl (.int .i64 (w64 (s4 + 1))) rfl ⟨I27, rfl, ((hl3.trans hl13).trans hl28), hS31⟩
        case restj20 =>
          rintro _ w34 ⟨s24, I22, rfl, rfl, hl23, hS35⟩
          refine En.in_normal ?_
          refine En.in_normal ?_
          refine En.next ?_
          refine W.region (l := [0, 1, 2]) (by kernel_rfl) ?_
          refine WO.vals [(0, 8, (.int .i64 s24)), (1, 9, (.int .i64 (w64 (s24 + 1)))), (2, 3, (.int .i64 (w64 (s24 + 1))))] (by kernel_rfl) (fun _ => by kernel_rfl) ?_
          refine WO.nil ?_
          refine En.weaken (fr' := [(0, (.string p0)), (3, (.int .i64 (w64 (s24 + 1))))]) (En.round ⟨(w64 (s24 + 1)), (Option.some.inj hr1).symm, I22, rfl, ((hl3.trans hl13).trans hl23), hS35⟩) (Sub.cons rfl (Sub.cons rfl Sub.nil))
  · replace hr1 := cond_f hc hr1
    refine W.exit ?_
    refine En.nx_exit ?_
    refine En.rd_exit ?_
    have ht := hext1 _ (Option.some.inj hr1).symm
    subst t1
    refine En.in_hit ?_
    refine En.next ?_
    refine W.seq ?_
    refine W.region (l := [0]) (by kernel_rfl) ?_
    refine WO.vals [(0, 2, (.int .i64 0))] (by kernel_rfl) (fun _ => by kernel_rfl) ?_
    refine WO.nil ?_
    refine En.next ?_
    refine W.ret ?_
    have he := Option.some.inj hr
    subst r
    exact En.ret1 rfl (.int .i64 0) rfl ⟨I2, rfl, hl3, hS7⟩
def internal_stringslite_HasPrefix (p0 : ByteArray) (p1 : ByteArray) : Option Bool := ((bif (decide ((p0.size : Int) ≥ (p1.size : Int))) then (ssub p0 0 (p1.size : Int)).bind (fun (x5 : ByteArray) => some (sEq x5 p1)) else some false)).bind (fun (j1 : Bool) => some j1)
set_option maxHeartbeats 1000000 in
theorem internal_stringslite_HasPrefix_ok {E w : World} {I : Mem} {Os : List Mem} {p0 : ByteArray} {p1 : ByteArray} (hS : St E w I Os) {r : Bool} (hr : internal_stringslite_HasPrefix p0 p1 = some r) :
    Calls P 99 #[(.string p0), (.string p1)] w (fun e w' => ∃ (I' : Mem), e = .returned (.bool r) ∧ I.Le I' ∧ St E w' I' Os) := by
  refine calls_W (args := [(.string p0), (.string p1)]) (fn := Try.f99) rfl rfl rfl ?_
  unfold internal_stringslite_HasPrefix at hr
  refine W.seq ?_
  refine W.region (l := [0]) (by kernel_rfl) ?_
  refine WO.vals [(0, 4, (.bool false))] (by kernel_rfl) (fun _ => by kernel_rfl) ?_
  refine WO.nil ?_
  refine En.next ?_
  refine W.seq ?_
  refine W.region (l := [0, 1, 2, 3, 4, 5, 6, 7, 8, 9, 10, 11, 12, 13]) (by kernel_rfl) ?_
  refine WO.vals [(0, 5, (.string p0)), (1, 6, (.int .i64 (p0.size : Int))), (2, 7, (.string p1)), (3, 8, (.int .i64 (p1.size : Int))), (4, 9, (.bool (decide ((p0.size : Int) ≥ (p1.size : Int))))), (5, 10, (.bool (decide ((p0.size : Int) ≥ (p1.size : Int)))))] (by kernel_rfl) (fun _ => by kernel_rfl) ?_
  obtain ⟨j1, hr1, hr⟩ := bind_some hr
  refine WO.join (l1 := [6, 7, 8, 9, 10, 11, 12]) (l2 := [13]) (J := (fun fr w => ∃ (I3 : Mem), fr = [(17, (.bool j1))] ∧ I.Le I3 ∧ St E w I3 Os)) ?restj1 ?waysj1
  case waysj1 =>
    refine WO.caseb (decide ((p0.size : Int) ≥ (p1.size : Int))) (fun hc => ?_) (fun hc => ?_)
    · replace hr1 := cond_t hc hr1
      refine WO.reslot 10 rfl (show Value.bool (decide ((p0.size : Int) ≥ (p1.size : Int))) = Value.bool true by rw [hc]) ?_
      refine WO.vals [(6, 11, (.string p0)), (7, 12, (.string p1)), (8, 13, (.int .i64 (p1.size : Int)))] (by kernel_rfl) (fun _ => by kernel_rfl) ?_
      obtain ⟨x5, hx_x5, hr1⟩ := bind_some hr1
      refine WO.sliceS rfl (by kernel_rfl) (by kernel_rfl) rfl (0 : Int) ((p1.size : Int) : Int) (.inl ⟨rfl, rfl⟩) (.inr ⟨_, _, rfl, rfl⟩) hx_x5 ?_
      refine WO.vals [(10, 15, (.string p1)), (11, 16, (.bool (sEq x5 p1))), (12, 17, (.bool (sEq x5 p1)))] (by kernel_rfl) (fun _ => by kernel_rfl) ?_
      have he := Option.some.inj hr1
      subst j1
      refine WO.weaken (fr' := [(17, (.bool (sEq x5 p1)))]) (WO.meet ⟨I, rfl, Mem.Le.refl _, hS⟩) (Sub.cons rfl Sub.nil)
    · replace hr1 := cond_f hc hr1
      refine WO.reslot 10 rfl (show Value.bool (decide ((p0.size : Int) ≥ (p1.size : Int))) = Value.bool false by rw [hc]) ?_
      refine WO.pass rfl (by kernel_rfl) rfl ?_
      refine WO.pass rfl (by kernel_rfl) rfl ?_
      refine WO.pass rfl (by kernel_rfl) rfl ?_
      refine WO.pass rfl (by kernel_rfl) rfl ?_
      refine WO.pass rfl (by kernel_rfl) rfl ?_
      refine WO.pass rfl (by kernel_rfl) rfl ?_
      refine WO.vals [(12, 17, (.bool false))] (by kernel_rfl) (fun _ => by kernel_rfl) ?_
      have he := Option.some.inj hr1
      subst j1
      refine WO.weaken (fr' := [(17, (.bool false))]) (WO.meet ⟨I, rfl, Mem.Le.refl _, hS⟩) (Sub.cons rfl Sub.nil)
  case restj1 =>
    rintro _ w6 ⟨I3, rfl, hl4, hS7⟩
    refine WO.vals [(13, 4, (.bool j1))] (by kernel_rfl) (fun _ => by kernel_rfl) ?_
    refine WO.nil ?_
    refine En.next ?_
    refine W.ret ?_
    have he := Option.some.inj hr
    subst r
    exact En.ret1 rfl (.bool j1) rfl ⟨I3, rfl, hl4, hS7⟩
def strings_HasPrefix (p0 : ByteArray) (p1 : ByteArray) : Option Bool := (internal_stringslite_HasPrefix p0 p1).bind (fun (r6 : Bool) => some r6)
set_option maxHeartbeats 1000000 in
theorem strings_HasPrefix_ok {E w : World} {I : Mem} {Os : List Mem} {p0 : ByteArray} {p1 : ByteArray} (hS : St E w I Os) {r : Bool} (hr : strings_HasPrefix p0 p1 = some r) :
    Calls P 97 #[(.string p0), (.string p1)] w (fun e w' => ∃ (I' : Mem), e = .returned (.bool r) ∧ I.Le I' ∧ St E w' I' Os) := by
  refine calls_W (args := [(.string p0), (.string p1)]) (fn := Try.f97) rfl rfl rfl ?_
  unfold strings_HasPrefix at hr
  refine W.seq ?_
  refine W.region (l := [0]) (by kernel_rfl) ?_
  refine WO.vals [(0, 4, (.bool false))] (by kernel_rfl) (fun _ => by kernel_rfl) ?_
  refine WO.nil ?_
  refine En.next ?_
  refine W.seq ?_
  refine W.region (l := [0, 1, 2, 3]) (by kernel_rfl) ?_
  refine WO.vals [(0, 5, (.string p0)), (1, 6, (.string p1))] (by kernel_rfl) (fun _ => by kernel_rfl) ?_
  obtain ⟨r6, hx_r1, hr⟩ := bind_some hr
  refine WO.call rfl (by kernel_rfl) rfl (f := 99) (args := #[(.string p0), (.string p1)]) (by kernel_rfl) (internal_stringslite_HasPrefix_ok  hS hx_r1) ?_
  rintro _ w2 ⟨I3, rfl, hl4, hS5⟩
  refine ⟨_, rfl, trivial, ?_⟩
  refine WO.vals [(3, 4, (.bool r6))] (by kernel_rfl) (fun _ => by kernel_rfl) ?_
  refine WO.nil ?_
  refine En.next ?_
  refine W.ret ?_
  have he := Option.some.inj hr
  subst r
  exact En.ret1 rfl (.bool r6) rfl ⟨I3, rfl, hl4, hS5⟩
def lex_sign (p0 : ByteArray) : Option Int := ((forN (fun (i32 : Nat) => fun (s31 : Int) => (idx ([(⟨#[60, 62]⟩ : ByteArray), (⟨#[60, 61]⟩ : ByteArray), (⟨#[62, 61]⟩ : ByteArray), (⟨#[124, 124]⟩ : ByteArray)] : List ByteArray) (i32 : Int)).bind (fun (x39 : ByteArray) => (strings_HasPrefix p0 x39).bind (fun (r45 : Bool) => (bif r45 then some (.inr (x39.size : Int)) else some (.inl s31))))) 4 0 0).bind (fun (t : Int ⊕ (Int)) => match t with | .inl s31 => (forN (fun (i54 : Nat) => fun (s53 : Int) => (idx ([(⟨#[40]⟩ : ByteArray), (⟨#[41]⟩ : ByteArray), (⟨#[44]⟩ : ByteArray), (⟨#[61]⟩ : ByteArray), (⟨#[60]⟩ : ByteArray), (⟨#[62]⟩ : ByteArray), (⟨#[43]⟩ : ByteArray), (⟨#[45]⟩ : ByteArray), (⟨#[42]⟩ : ByteArray), (⟨#[47]⟩ : ByteArray), (⟨#[37]⟩ : ByteArray)] : List ByteArray) (i54 : Int)).bind (fun (x61 : ByteArray) => (strings_HasPrefix p0 x61).bind (fun (r67 : Bool) => (bif r67 then some (.inr (x61.size : Int)) else some (.inl s53))))) 11 0 s31).bind (fun (t : Int ⊕ (Int)) => match t with | .inl s53 => some s53 | .inr s69 => some s69) | .inr s47 => some s47)).bind (fun (j24 : Int) => some j24)
set_option maxHeartbeats 1000000 in
theorem lex_sign_ok {E w : World} {I : Mem} {Os : List Mem} {p0 : ByteArray} (hS : St E w I Os) {r : Int} (hr : lex_sign p0 = some r) :
    Calls P 88 #[(.string p0)] w (fun e w' => ∃ (I' : Mem), e = .returned (.int .i64 r) ∧ I.Le I' ∧ St E w' I' Os) := by
  refine calls_W (args := [(.string p0)]) (fn := Try.f88) rfl rfl rfl ?_
  unfold lex_sign at hr
  refine W.seq ?_
  refine W.region (l := [0]) (by kernel_rfl) ?_
  refine WO.vals [(0, 2, (.int .i64 0))] (by kernel_rfl) (fun _ => by kernel_rfl) ?_
  refine WO.nil ?_
  refine En.next ?_
  refine W.scope ?_
  refine W.seq ?_
  refine W.region (l := [0]) (by kernel_rfl) ?_
  refine WO.vals [(0, 3, (.int .i64 0))] (by kernel_rfl) (fun _ => by kernel_rfl) ?_
  refine WO.nil ?_
  refine En.next ?_
  refine W.seq ?_
  refine W.label ?_
  refine En.next ?_
  refine W.seq ?_
  refine W.seq ?_
  refine W.region (l := [0, 1, 2, 3]) (by kernel_rfl) ?_
  refine WO.newSlice (rel := RStr) (xs := ([(⟨#[60, 62]⟩ : ByteArray), (⟨#[60, 61]⟩ : ByteArray), (⟨#[62, 61]⟩ : ByteArray), (⟨#[124, 124]⟩ : ByteArray)] : List ByteArray)) hS rfl (by kernel_rfl) rfl 9 1 [[(.string (⟨#[60, 62]⟩ : ByteArray))], [(.string (⟨#[60, 61]⟩ : ByteArray))], [(.string (⟨#[62, 61]⟩ : ByteArray))], [(.string (⟨#[124, 124]⟩ : ByteArray))]] (by kernel_rfl) rfl ((Elr.cons rfl (Elr.cons rfl (Elr.cons rfl (Elr.cons rfl Elr.nil))))) (fun _ _ _ => trivial) ?_
  intro a4 C2 w6 hS5 ho3
  refine WO.newSlice (rel := RStr) (xs := ([(⟨#[40]⟩ : ByteArray), (⟨#[41]⟩ : ByteArray), (⟨#[44]⟩ : ByteArray), (⟨#[61]⟩ : ByteArray), (⟨#[60]⟩ : ByteArray), (⟨#[62]⟩ : ByteArray), (⟨#[43]⟩ : ByteArray), (⟨#[45]⟩ : ByteArray), (⟨#[42]⟩ : ByteArray), (⟨#[47]⟩ : ByteArray), (⟨#[37]⟩ : ByteArray)] : List ByteArray)) hS5 rfl (by kernel_rfl) rfl 9 1 [[(.string (⟨#[40]⟩ : ByteArray))], [(.string (⟨#[41]⟩ : ByteArray))], [(.string (⟨#[44]⟩ : ByteArray))], [(.string (⟨#[61]⟩ : ByteArray))], [(.string (⟨#[60]⟩ : ByteArray))], [(.string (⟨#[62]⟩ : ByteArray))], [(.string (⟨#[43]⟩ : ByteArray))], [(.string (⟨#[45]⟩ : ByteArray))], [(.string (⟨#[42]⟩ : ByteArray))], [(.string (⟨#[47]⟩ : ByteArray))], [(.string (⟨#[37]⟩ : ByteArray))]] (by kernel_rfl) rfl ((Elr.cons rfl (Elr.cons rfl (Elr.cons rfl (Elr.cons rfl (Elr.cons rfl (Elr.cons rfl (Elr.cons rfl (Elr.cons rfl (Elr.cons rfl (Elr.cons rfl (Elr.cons rfl Elr.nil)))))))))))) (fun _ _ _ => trivial) ?_
  intro a11 C9 w13 hS12 ho10
  have hS15 := hS12.front1
  obtain ⟨I16, hl17, hS19, hp18⟩ := OwnSl.pub ho3 hS15
  obtain ⟨I20, hl21, hS23, hp22⟩ := OwnSl.pub (ho10.mono hl17) hS19
  refine WO.vals [(2, 10, (.agg #[(.slice a4 4 4), (.slice a11 11 11)])), (3, 11, (.int .i64 0))] (by kernel_rfl) (fun _ => by kernel_rfl) ?_
  refine WO.nil ?_
  refine En.next ?_
  obtain ⟨j24, hr1, hr⟩ := bind_some hr
  refine W.join (J := (fun fr w => ∃ (I26 : Mem), fr = [(3, (.int .i64 j24))] ∧ I20.Le I26 ∧ St E w I26 Os)) ?restj24 ?waysj24
  case waysj24 =>
    refine W.block ?_
    refine W.unroll 2 ?_
    refine W.seq ?_
    refine W.region (l := [0]) (by kernel_rfl) ?_
    refine WO.vals [(0, 12, (.bool true))] (by kernel_rfl) (fun _ => by kernel_rfl) ?_
    refine WO.nil ?_
    refine En.next ?_
    refine W.seq ?_
    refine W.cond (b := true) rfl rfl (fun hc => ?_) (fun hc => ?_)
    rotate_left
    · cases hc
    clear hc
    refine W.skip ?_
    refine En.next ?_
    refine W.seq ?_
    refine W.block ?_
    refine W.seq ?_
    refine W.region (l := [0, 1]) (by kernel_rfl) ?_
    refine WO.vals [(0, 13, (.slice a4 4 4)), (1, 5, (.slice a4 4 4))] (by kernel_rfl) (fun _ => by kernel_rfl) ?_
    refine WO.nil ?_
    refine En.next ?_
    refine W.seq ?_
    refine W.region (l := [0, 1, 2]) (by kernel_rfl) ?_
    refine WO.vals [(0, 14, (.slice a4 4 4)), (1, 15, (.int .i64 (4 : Int))), (2, 16, (.int .i64 0))] (by kernel_rfl) (fun _ => by kernel_rfl) ?_
    refine WO.nil ?_
    refine En.next ?_
    refine W.block ?_
    obtain ⟨t28, hloop33, hr1⟩ := bind_some hr1
    have hlt37 := ((RSl.mono hp18 hl21)).len_lt
    refine W.weaken (fr' := [(0, (.string p0)), (3, (.int .i64 0)), (10, (.agg #[(.slice a4 4 4), (.slice a11 11 11)])), (11, (.int .i64 0)), (14, (.slice a4 4 4)), (15, (.int .i64 (4 : Int))), (16, (.int .i64 ((0 : Nat) : Int)))]) (W.forN (m := 4) hloop33 (fun (i32 : Nat) => fun (s31 : Int) fr w => ∃ (I29 : Mem), fr = [(0, (.string p0)), (3, (.int .i64 s31)), (10, (.agg #[(.slice a4 4 4), (.slice a11 11 11)])), (11, (.int .i64 0)), (14, (.slice a4 4 4)), (15, (.int .i64 (4 : Int))), (16, (.int .i64 (i32 : Int)))] ∧ I20.Le I29 ∧ St E w I29 Os) ⟨I20, rfl, Mem.Le.refl _, hS23⟩ ?roundt28 ?lastt28) (Sub.cons rfl (Sub.cons rfl (Sub.cons rfl (Sub.cons rfl (Sub.cons rfl (Sub.cons rfl (Sub.cons rfl Sub.nil)))))))
    case roundt28 =>
      rintro i32 s31 _ w34 hi38 ⟨I29, rfl, hl30, hS35⟩ x36 hr2 hext28
      refine W.seq ?_
      refine W.region (l := [0]) (by kernel_rfl) ?_
      refine WO.vals [(0, 17, (.bool (decide ((i32 : Int) < (4 : Int)))))] (by kernel_rfl) (fun _ => by kernel_rfl) ?_
      refine WO.nil ?_
      refine En.next ?_
      refine W.seq ?_
      refine W.cond (b := (decide ((i32 : Int) < (4 : Int)))) rfl rfl (fun hc => ?_) (fun hc => ?_)
      rotate_left
      · exact absurd hc (by first | (simp; done) | (simp; omega))
      clear hc
      refine W.skip ?_
      refine En.next ?_
      refine W.seq ?_
      refine W.block ?_
      refine W.seq ?_
      refine W.region (l := [0, 1, 2]) (by kernel_rfl) ?_
      refine WO.reslot 14 rfl (show Value.slice a4 4 4 = Value.slice a4 ([(⟨#[60, 62]⟩ : ByteArray), (⟨#[60, 61]⟩ : ByteArray), (⟨#[62, 61]⟩ : ByteArray), (⟨#[124, 124]⟩ : ByteArray)] : List ByteArray).length 4 from rfl) ?_
      obtain ⟨x39, hx_x39, hr2⟩ := bind_some hr2
      obtain ⟨h0_x39, h1_x39, hx_x39⟩ := idx_some hx_x39
      obtain ⟨ha_x39, cs_x39, hn_x39, hr_x39, hc_x39⟩ := ((RSl.mono hp18 (hl21.trans hl30))).el _ _ hx_x39
      obtain rfl := hr_x39
      refine WO.indexAddr (e := 9) (sz := 1) rfl (by kernel_rfl) (by kernel_rfl) (by kernel_rfl) rfl ha_x39 rfl h0_x39 h1_x39 ?_
      refine WO.load rfl (by kernel_rfl) (by kernel_rfl) rfl (v := (.string x39)) (fun w' hw' => hc_x39.cell0 (by kernel_rfl) ((rd_f hS35.im) w' hw')) ?_
      refine WO.vals [(2, 7, (.string x39))] (by kernel_rfl) (fun _ => by kernel_rfl) ?_
      refine WO.nil ?_
      refine En.next ?_
      refine W.seq ?_
      refine W.region (l := [0, 1, 2]) (by kernel_rfl) ?_
      refine WO.vals [(0, 20, (.string p0)), (1, 21, (.string x39))] (by kernel_rfl) (fun _ => by kernel_rfl) ?_
      obtain ⟨r45, hx_r40, hr2⟩ := bind_some hr2
      refine WO.call rfl (by kernel_rfl) rfl (f := 97) (args := #[(.string p0), (.string x39)]) (by kernel_rfl) (strings_HasPrefix_ok  hS35 hx_r40) ?_
      rintro _ w41 ⟨I42, rfl, hl43, hS44⟩
      refine ⟨_, rfl, trivial, ?_⟩
      refine WO.nil ?_
      refine En.next ?_
      refine W.cond (b := r45) rfl rfl (fun hc => ?_) (fun hc => ?_)
      · replace hr2 := cond_t hc hr2
        refine W.seq ?_
        refine W.region (l := [0, 1, 2]) (by kernel_rfl) ?_
        refine WO.vals [(0, 23, (.string x39)), (1, 24, (.int .i64 (x39.size : Int))), (2, 3, (.int .i64 (x39.size : Int)))] (by kernel_rfl) (fun _ => by kernel_rfl) ?_
        refine WO.nil ?_
        refine En.next ?_
        refine W.exit ?_
        refine En.in_miss rfl ?_
        refine En.nx_exit ?_
        refine En.rd_exit ?_
        have ht := hext28 _ (Option.some.inj hr2).symm
        subst t28
        refine En.in_miss rfl ?_
        refine En.in_miss rfl ?_
        refine En.nx_exit ?_
        refine En.un_exit ?_
        refine En.in_hit ?_
        have he := Option.some.inj hr1
        subst j24
        refine En.weaken (fr' := [(3, (.int .i64 (x39.size : Int)))]) (En.round ⟨I42, rfl, (hl30.trans hl43), hS44⟩) (Sub.cons rfl Sub.nil)
      · replace hr2 := cond_f hc hr2
        refine W.skip ?_
        refine En.in_normal ?_
        refine En.next ?_
        refine W.region (l := [0, 1]) (by kernel_rfl) ?_
        refine WO.incr (j := i32) rfl (by kernel_rfl) rfl (by first | omega | (dsimp only at *; omega)) ?_
        refine WO.vals [(1, 16, (.int .i64 ((i32 + 1 : Nat) : Int)))] (by kernel_rfl) (fun _ => by kernel_rfl) ?_
        refine WO.nil ?_
        refine En.weaken (fr' := [(0, (.string p0)), (3, (.int .i64 s31)), (10, (.agg #[(.slice a4 4 4), (.slice a11 11 11)])), (11, (.int .i64 0)), (14, (.slice a4 ([(⟨#[60, 62]⟩ : ByteArray), (⟨#[60, 61]⟩ : ByteArray), (⟨#[62, 61]⟩ : ByteArray), (⟨#[124, 124]⟩ : ByteArray)] : List ByteArray).length 4)), (15, (.int .i64 (4 : Int))), (16, (.int .i64 ((i32 + 1 : Nat) : Int)))]) (En.round ⟨s31, (Option.some.inj hr2).symm, I42, rfl, (hl30.trans hl43), hS44⟩) (Sub.cons rfl (Sub.cons rfl (Sub.cons rfl (Sub.cons rfl (Sub.cons rfl (Sub.cons rfl (Sub.cons rfl Sub.nil)))))))
    case lastt28 =>
      rintro s31 _ w48 ⟨I29, rfl, hl30, hS49⟩ he
      cases he
      refine W.seq ?_
      refine W.region (l := [0]) (by kernel_rfl) ?_
      refine WO.vals [(0, 17, (.bool (decide ((([(⟨#[60, 62]⟩ : ByteArray), (⟨#[60, 61]⟩ : ByteArray), (⟨#[62, 61]⟩ : ByteArray), (⟨#[124, 124]⟩ : ByteArray)] : List ByteArray).length : Int) < (4 : Int)))))] (by kernel_rfl) (fun _ => by kernel_rfl) ?_
      refine WO.nil ?_
      refine En.next ?_
      refine W.seq ?_
      refine W.cond (b := (decide ((([(⟨#[60, 62]⟩ : ByteArray), (⟨#[60, 61]⟩ : ByteArray), (⟨#[62, 61]⟩ : ByteArray), (⟨#[124, 124]⟩ : ByteArray)] : List ByteArray).length : Int) < (4 : Int)))) rfl rfl (fun hc => ?_) (fun hc => ?_)
      · exact absurd hc (by first | (simp; done) | (simp; omega))
      clear hc
      refine W.exit ?_
      refine En.nx_exit ?_
      refine En.rd_exit ?_
      refine En.in_hit ?_
      refine En.in_normal ?_
      refine En.next ?_
      refine W.region (l := [0, 1]) (by kernel_rfl) ?_
      refine WO.vals [(0, 26, (.int .i64 1)), (1, 11, (.int .i64 1))] (by kernel_rfl) (fun _ => by kernel_rfl) ?_
      refine WO.nil ?_
      refine En.again ?_
      show W _ _ _ _ _ _
      refine W.seq ?_
      refine W.region (l := [0]) (by kernel_rfl) ?_
      refine WO.vals [(0, 12, (.bool true))] (by kernel_rfl) (fun _ => by kernel_rfl) ?_
      refine WO.nil ?_
      refine En.next ?_
      refine W.seq ?_
      refine W.cond (b := true) rfl rfl (fun hc => ?_) (fun hc => ?_)
      rotate_left
      · cases hc
      clear hc
      refine W.skip ?_
      refine En.next ?_
      refine W.seq ?_
      refine W.block ?_
      refine W.seq ?_
      refine W.region (l := [0, 1]) (by kernel_rfl) ?_
      refine WO.vals [(0, 13, (.slice a11 11 11)), (1, 5, (.slice a11 11 11))] (by kernel_rfl) (fun _ => by kernel_rfl) ?_
      refine WO.nil ?_
      refine En.next ?_
      refine W.seq ?_
      refine W.region (l := [0, 1, 2]) (by kernel_rfl) ?_
      refine WO.vals [(0, 14, (.slice a11 11 11)), (1, 15, (.int .i64 (11 : Int))), (2, 16, (.int .i64 0))] (by kernel_rfl) (fun _ => by kernel_rfl) ?_
      refine WO.nil ?_
      refine En.next ?_
      refine W.block ?_
      obtain ⟨t50, hloop55, hr1⟩ := bind_some hr1
      have hlt59 := ((RSl.mono hp22 hl30)).len_lt
      refine W.weaken (fr' := [(0, (.string p0)), (3, (.int .i64 s31)), (10, (.agg #[(.slice a4 4 4), (.slice a11 11 11)])), (11, (.int .i64 1)), (14, (.slice a11 11 11)), (15, (.int .i64 (11 : Int))), (16, (.int .i64 ((0 : Nat) : Int)))]) (W.forN (m := 11) hloop55 (fun (i54 : Nat) => fun (s53 : Int) fr w => ∃ (I51 : Mem), fr = [(0, (.string p0)), (3, (.int .i64 s53)), (10, (.agg #[(.slice a4 4 4), (.slice a11 11 11)])), (11, (.int .i64 1)), (14, (.slice a11 11 11)), (15, (.int .i64 (11 : Int))), (16, (.int .i64 (i54 : Int)))] ∧ I29.Le I51 ∧ St E w I51 Os) ⟨I29, rfl, Mem.Le.refl _, hS49⟩ ?roundt50 ?lastt50) (Sub.cons rfl (Sub.cons rfl (Sub.cons rfl (Sub.cons rfl (Sub.cons rfl (Sub.cons rfl (Sub.cons rfl Sub.nil)))))))
      case roundt50 =>
        rintro i54 s53 _ w56 hi60 ⟨I51, rfl, hl52, hS57⟩ x58 hr2 hext50
        refine W.seq ?_
        refine W.region (l := [0]) (by kernel_rfl) ?_
        refine WO.vals [(0, 17, (.bool (decide ((i54 : Int) < (11 : Int)))))] (by kernel_rfl) (fun _ => by kernel_rfl) ?_
        refine WO.nil ?_
        refine En.next ?_
        refine W.seq ?_
        refine W.cond (b := (decide ((i54 : Int) < (11 : Int)))) rfl rfl (fun hc => ?_) (fun hc => ?_)
        rotate_left
        · exact absurd hc (by first | (simp; done) | (simp; omega))
        clear hc
        refine W.skip ?_
        refine En.next ?_
        refine W.seq ?_
        refine W.block ?_
        refine W.seq ?_
        refine W.region (l := [0, 1, 2]) (by kernel_rfl) ?_
        refine WO.reslot 14 rfl (show Value.slice a11 11 11 = Value.slice a11 ([(⟨#[40]⟩ : ByteArray), (⟨#[41]⟩ : ByteArray), (⟨#[44]⟩ : ByteArray), (⟨#[61]⟩ : ByteArray), (⟨#[60]⟩ : ByteArray), (⟨#[62]⟩ : ByteArray), (⟨#[43]⟩ : ByteArray), (⟨#[45]⟩ : ByteArray), (⟨#[42]⟩ : ByteArray), (⟨#[47]⟩ : ByteArray), (⟨#[37]⟩ : ByteArray)] : List ByteArray).length 11 from rfl) ?_
        obtain ⟨x61, hx_x61, hr2⟩ := bind_some hr2
        obtain ⟨h0_x61, h1_x61, hx_x61⟩ := idx_some hx_x61
        obtain ⟨ha_x61, cs_x61, hn_x61, hr_x61, hc_x61⟩ := ((RSl.mono hp22 (hl30.trans hl52))).el _ _ hx_x61
        obtain rfl := hr_x61
        refine WO.indexAddr (e := 9) (sz := 1) rfl (by kernel_rfl) (by kernel_rfl) (by kernel_rfl) rfl ha_x61 rfl h0_x61 h1_x61 ?_
        refine WO.load rfl (by kernel_rfl) (by kernel_rfl) rfl (v := (.string x61)) (fun w' hw' => hc_x61.cell0 (by kernel_rfl) ((rd_f hS57.im) w' hw')) ?_
        refine WO.vals [(2, 7, (.string x61))] (by kernel_rfl) (fun _ => by kernel_rfl) ?_
        refine WO.nil ?_
        refine En.next ?_
        refine W.seq ?_
        refine W.region (l := [0, 1, 2]) (by kernel_rfl) ?_
        refine WO.vals [(0, 20, (.string p0)), (1, 21, (.string x61))] (by kernel_rfl) (fun _ => by kernel_rfl) ?_
        obtain ⟨r67, hx_r62, hr2⟩ := bind_some hr2
        refine WO.call rfl (by kernel_rfl) rfl (f := 97) (args := #[(.string p0), (.string x61)]) (by kernel_rfl) (strings_HasPrefix_ok  hS57 hx_r62) ?_
        rintro _ w63 ⟨I64, rfl, hl65, hS66⟩
        refine ⟨_, rfl, trivial, ?_⟩
        refine WO.nil ?_
        refine En.next ?_
        refine W.cond (b := r67) rfl rfl (fun hc => ?_) (fun hc => ?_)
        · replace hr2 := cond_t hc hr2
          refine W.seq ?_
          refine W.region (l := [0, 1, 2]) (by kernel_rfl) ?_
          refine WO.vals [(0, 23, (.string x61)), (1, 24, (.int .i64 (x61.size : Int))), (2, 3, (.int .i64 (x61.size : Int)))] (by kernel_rfl) (fun _ => by kernel_rfl) ?_
          refine WO.nil ?_
          refine En.next ?_
          refine W.exit ?_
          refine En.in_miss rfl ?_
          refine En.nx_exit ?_
          refine En.rd_exit ?_
          have ht := hext50 _ (Option.some.inj hr2).symm
          subst t50
          refine En.in_miss rfl ?_
          refine En.in_miss rfl ?_
          refine En.nx_exit ?_
          refine En.un_exit ?_
          refine En.in_hit ?_
          have he := Option.some.inj hr1
          subst j24
          refine En.weaken (fr' := [(3, (.int .i64 (x61.size : Int)))]) (En.round ⟨I64, rfl, ((hl30.trans hl52).trans hl65), hS66⟩) (Sub.cons rfl Sub.nil)
        · replace hr2 := cond_f hc hr2
          refine W.skip ?_
          refine En.in_normal ?_
          refine En.next ?_
          refine W.region (l := [0, 1]) (by kernel_rfl) ?_
          refine WO.incr (j := i54) rfl (by kernel_rfl) rfl (by first | omega | (dsimp only at *; omega)) ?_
          refine WO.vals [(1, 16, (.int .i64 ((i54 + 1 : Nat) : Int)))] (by kernel_rfl) (fun _ => by kernel_rfl) ?_
          refine WO.nil ?_
          refine En.weaken (fr' := [(0, (.string p0)), (3, (.int .i64 s53)), (10, (.agg #[(.slice a4 4 4), (.slice a11 11 11)])), (11, (.int .i64 1)), (14, (.slice a11 ([(⟨#[40]⟩ : ByteArray), (⟨#[41]⟩ : ByteArray), (⟨#[44]⟩ : ByteArray), (⟨#[61]⟩ : ByteArray), (⟨#[60]⟩ : ByteArray), (⟨#[62]⟩ : ByteArray), (⟨#[43]⟩ : ByteArray), (⟨#[45]⟩ : ByteArray), (⟨#[42]⟩ : ByteArray), (⟨#[47]⟩ : ByteArray), (⟨#[37]⟩ : ByteArray)] : List ByteArray).length 11)), (15, (.int .i64 (11 : Int))), (16, (.int .i64 ((i54 + 1 : Nat) : Int)))]) (En.round ⟨s53, (Option.some.inj hr2).symm, I64, rfl, (hl52.trans hl65), hS66⟩) (Sub.cons rfl (Sub.cons rfl (Sub.cons rfl (Sub.cons rfl (Sub.cons rfl (Sub.cons rfl (Sub.cons rfl Sub.nil)))))))
      case lastt50 =>
        rintro s53 _ w70 ⟨I51, rfl, hl52, hS71⟩ he
        cases he
        refine W.seq ?_
        refine W.region (l := [0]) (by kernel_rfl) ?_
        refine WO.vals [(0, 17, (.bool (decide ((([(⟨#[40]⟩ : ByteArray), (⟨#[41]⟩ : ByteArray), (⟨#[44]⟩ : ByteArray), (⟨#[61]⟩ : ByteArray), (⟨#[60]⟩ : ByteArray), (⟨#[62]⟩ : ByteArray), (⟨#[43]⟩ : ByteArray), (⟨#[45]⟩ : ByteArray), (⟨#[42]⟩ : ByteArray), (⟨#[47]⟩ : ByteArray), (⟨#[37]⟩ : ByteArray)] : List ByteArray).length : Int) < (11 : Int)))))] (by kernel_rfl) (fun _ => by kernel_rfl) ?_
        refine WO.nil ?_
        refine En.next ?_
        refine W.seq ?_
        refine W.cond (b := (decide ((([(⟨#[40]⟩ : ByteArray), (⟨#[41]⟩ : ByteArray), (⟨#[44]⟩ : ByteArray), (⟨#[61]⟩ : ByteArray), (⟨#[60]⟩ : ByteArray), (⟨#[62]⟩ : ByteArray), (⟨#[43]⟩ : ByteArray), (⟨#[45]⟩ : ByteArray), (⟨#[42]⟩ : ByteArray), (⟨#[47]⟩ : ByteArray), (⟨#[37]⟩ : ByteArray)] : List ByteArray).length : Int) < (11 : Int)))) rfl rfl (fun hc => ?_) (fun hc => ?_)
        · exact absurd hc (by first | (simp; done) | (simp; omega))
        clear hc
        refine W.exit ?_
        refine En.nx_exit ?_
        refine En.rd_exit ?_
        refine En.in_hit ?_
        refine En.in_normal ?_
        refine En.next ?_
        refine W.region (l := [0, 1]) (by kernel_rfl) ?_
        refine WO.vals [(0, 26, (.int .i64 2)), (1, 11, (.int .i64 2))] (by kernel_rfl) (fun _ => by kernel_rfl) ?_
        refine WO.nil ?_
        refine En.again ?_
        show W _ _ _ _ _ _
        refine W.seq ?_
        refine W.region (l := [0]) (by kernel_rfl) ?_
        refine WO.vals [(0, 12, (.bool false))] (by kernel_rfl) (fun _ => by kernel_rfl) ?_
        refine WO.nil ?_
        refine En.next ?_
        refine W.seq ?_
        refine W.cond (b := false) rfl rfl (fun hc => ?_) (fun hc => ?_)
        · cases hc
        clear hc
        refine W.exit ?_
        refine En.nx_exit ?_
        refine En.un_exit ?_
        refine En.in_hit ?_
        have he := Option.some.inj hr1
        subst j24
        refine En.weaken (fr' := [(3, (.int .i64 s53))]) (En.round ⟨I51, rfl, (hl30.trans hl52), hS71⟩) (Sub.cons rfl Sub.nil)
  case restj24 =>
    rintro _ w72 ⟨I26, rfl, hl27, hS73⟩
    refine En.next ?_
    refine W.seq ?_
    refine W.region (l := [0, 1]) (by kernel_rfl) ?_
    refine WO.vals [(0, 27, (.int .i64 j24)), (1, 2, (.int .i64 j24))] (by kernel_rfl) (fun _ => by kernel_rfl) ?_
    refine WO.nil ?_
    refine En.next ?_
    refine W.ret ?_
    refine En.sc_ret ?_
    have he := Option.some.inj hr
    subst r
    exact En.ret1 rfl (.int .i64 j24) rfl ⟨I26, rfl, ((hl17.trans hl21).trans hl27), hS73⟩
end Go.Proofs.Ythndadengamanaa
