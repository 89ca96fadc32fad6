/- What functions of the program come to, each by a plain one. Conditions: none. -/
import Derived.Test.YthndadengamanaaGreatGv24
import Derived.Test.YthndadengamanaaGreatProg
import Derived.Test.YthndadengamanaaGreatGvS
import Derived.Test.YthndadengamanaaGreatShelf
set_option maxRecDepth 100000
namespace Go.Proofs.YthndadengamanaaGreat
open Go.Gv
noncomputable abbrev P := Tryz.prog
structure api_Role where
  Name : ByteArray
  In : List ByteArray
structure W_api_Role where
  In : SW
def cs_api_Role (x : api_Role) (v : W_api_Role) : List Value := [.string x.Name, .slice v.In.a x.In.length v.In.c]
structure ok_api_Role (I : Mem) (x : api_Role) (v : W_api_Role) : Prop where
  In : RSl 1 RStr I v.In.a v.In.c x.In
theorem ok_api_Role.mono {I J : Mem} {x : api_Role} {v : W_api_Role} (h : ok_api_Role I x v) (hl : I.Le J) : ok_api_Role J x v := ⟨RSl.mono h.In hl⟩
def R_api_Role (I : Mem) (cs : List Value) (x : api_Role) : Prop := ∃ v : W_api_Role, cs = cs_api_Role x v ∧ ok_api_Role I x v
instance : Mono R_api_Role := ⟨fun hl h => (by obtain ⟨v, rfl, h⟩ := h; exact ⟨v, rfl, h.mono hl⟩), fun h c hv => (by obtain ⟨v, rfl, h⟩ := h; exact (by simp only [cs_api_Role, List.mem_cons, List.not_mem_nil, or_false] at hv; rcases hv with rfl | rfl <;> first | rfl | rfl))⟩
def z_api_Role : api_Role := ⟨(⟨#[]⟩ : ByteArray), []⟩
def zw_api_Role : W_api_Role := ⟨⟨none, 0⟩⟩
theorem zok_api_Role {I : Mem} : ok_api_Role I z_api_Role zw_api_Role := ⟨SlAt.nil⟩
structure lex_Token where
  Kind : Int
  Text : ByteArray
  At : Int
def cs_lex_Token (x : lex_Token) : List Value := [.int .i64 x.Kind, .string x.Text, .int .i64 x.At]
def R_lex_Token (I : Mem) (cs : List Value) (x : lex_Token) : Prop := cs = cs_lex_Token x
instance : Mono R_lex_Token := ⟨fun hl h => (by obtain rfl := h; exact rfl), fun h c hv => (by obtain rfl := h; exact (by simp only [cs_lex_Token, List.mem_cons, List.not_mem_nil, or_false] at hv; rcases hv with rfl | rfl | rfl <;> first | rfl | rfl))⟩
def z_lex_Token : lex_Token := ⟨0, (⟨#[]⟩ : ByteArray), 0⟩
structure registrarlaw18_Act where
  Do : Int
  Name : ByteArray
  Role : ByteArray
def cs_registrarlaw18_Act (x : registrarlaw18_Act) : List Value := [.int .i64 x.Do, .string x.Name, .string x.Role]
def R_registrarlaw18_Act (I : Mem) (cs : List Value) (x : registrarlaw18_Act) : Prop := cs = cs_registrarlaw18_Act x
instance : Mono R_registrarlaw18_Act := ⟨fun hl h => (by obtain rfl := h; exact rfl), fun h c hv => (by obtain rfl := h; exact (by simp only [cs_registrarlaw18_Act, List.mem_cons, List.not_mem_nil, or_false] at hv; rcases hv with rfl | rfl | rfl <;> first | rfl | rfl))⟩
def z_registrarlaw18_Act : registrarlaw18_Act := ⟨0, (⟨#[]⟩ : ByteArray), (⟨#[]⟩ : ByteArray)⟩
noncomputable def registrarref18_Few (p0 : List api_Role) : Option Bool := (bif (decide ((p0.length : Int) > 12)) then some false else (forN (fun (i4 : Nat) => fun (_s : Unit) => (idx p0 (i4 : Int)).bind (fun (x11 : api_Role) => ((bif (decide ((x11.In.length : Int) > 12)) then some true else (idx p0 (i4 : Int)).bind (fun (x16 : api_Role) => some (decide ((x16.Name.size : Int) > 100))))).bind (fun (j12 : Bool) => (bif j12 then some (.inr false) else (loopO (fun (s24 : Int) => (idx p0 (i4 : Int)).bind (fun (x29 : api_Role) => (bif (decide (s24 < (x29.In.length : Int))) then (idx p0 (i4 : Int)).bind (fun (x30 : api_Role) => (idx x30.In s24).bind (fun (x31 : ByteArray) => (bif (decide ((x31.size : Int) > 100)) then some (.inr (.inl false)) else some (.inl (w64 (s24 + 1)))))) else some (.inr (.inr ()))))) 0).bind (fun (t : Bool ⊕ Unit) => match t with | (.inl s33) => some (.inr s33) | (.inr ()) => some (.inl ())))))) p0.length 0 ()).bind (fun (t : Unit ⊕ (Bool)) => match t with | .inl _ => some true | .inr s20 => some s20))
set_option maxHeartbeats 1000000 in
theorem registrarref18_Few_ok {E w : World} {I : Mem} {Os : List Mem} {p0 : List api_Role} {a_p0 : Option Addr} {c_p0 : Nat} (h_p0 : RSl 2 R_api_Role I a_p0 c_p0 p0) (hS : St E w I Os) {r : Bool} (hr : registrarref18_Few p0 = some r) :
    Calls P 4 #[(.slice a_p0 p0.length c_p0)] w (fun e w' => ∃ (I' : Mem), e = .returned (.bool r) ∧ I.Le I' ∧ St E w' I' Os) := by
  refine calls_W (args := [(.slice a_p0 p0.length c_p0)]) (fn := Tryz.f4) rfl rfl rfl ?_
  unfold registrarref18_Few at hr
  refine W.seq ?_
  refine W.region (l := [0]) (by kernel_rfl) ?_
  refine WO.vals [(0, 2, (.bool false))] (by kernel_rfl) (fun _ => by kernel_rfl) ?_
  refine WO.nil ?_
  refine En.next ?_
  refine W.seq ?_
  refine W.seq ?_
  refine W.region (l := [0, 1, 2]) (by kernel_rfl) ?_
  refine WO.vals [(0, 5, (.slice a_p0 p0.length c_p0)), (1, 6, (.int .i64 (p0.length : Int))), (2, 7, (.bool (decide ((p0.length : Int) > 12))))] (by kernel_rfl) (fun _ => by kernel_rfl) ?_
  refine WO.nil ?_
  refine En.next ?_
  refine W.cond (b := (decide ((p0.length : Int) > 12))) rfl rfl (fun hc => ?_) (fun hc => ?_)
  · replace hr := cond_t hc hr
    refine W.seq ?_
    refine W.region (l := [0]) (by kernel_rfl) ?_
    refine WO.vals [(0, 2, (.bool false))] (by kernel_rfl) (fun _ => by kernel_rfl) ?_
    refine WO.nil ?_
    refine En.next ?_
    refine W.ret ?_
    refine En.nx_ret ?_
    have he := Option.some.inj hr
    subst r
    exact En.ret1 rfl (.bool false) rfl ⟨I, rfl, Mem.Le.refl _, hS⟩
  · replace hr := cond_f hc hr
    refine W.skip ?_
    refine En.next ?_
    refine W.seq ?_
    refine W.seq ?_
    refine W.region (l := [0]) (by kernel_rfl) ?_
    refine WO.vals [(0, 3, (.int .i64 0))] (by kernel_rfl) (fun _ => by kernel_rfl) ?_
    refine WO.nil ?_
    refine En.next ?_
    refine W.block ?_
    obtain ⟨t1, hloop5, hr⟩ := bind_some hr
    have hlt9 := (h_p0).len_lt
    refine W.weaken (fr' := [(0, (.slice a_p0 p0.length c_p0)), (3, (.int .i64 ((0 : Nat) : Int)))]) (W.forN (m := p0.length) hloop5 (fun (i4 : Nat) => fun (_s : Unit) fr w => ∃ (I2 : Mem), fr = [(0, (.slice a_p0 p0.length c_p0)), (3, (.int .i64 (i4 : Int)))] ∧ I.Le I2 ∧ St E w I2 Os) ⟨I, rfl, Mem.Le.refl _, hS⟩ ?roundt1 ?lastt1) (Sub.cons rfl (Sub.cons rfl Sub.nil))
    case roundt1 =>
      rintro i4 _ _ w6 hi10 ⟨I2, rfl, hl3, hS7⟩ x8 hr1 hext1
      refine W.seq ?_
      refine W.seq ?_
      refine W.region (l := [0, 1, 2, 3]) (by kernel_rfl) ?_
      refine WO.vals [(0, 8, (.int .i64 (i4 : Int))), (1, 9, (.slice a_p0 p0.length c_p0)), (2, 10, (.int .i64 (p0.length : Int))), (3, 11, (.bool (decide ((i4 : Int) < (p0.length : Int)))))] (by kernel_rfl) (fun _ => by kernel_rfl) ?_
      refine WO.nil ?_
      refine En.next ?_
      refine W.cond (b := (decide ((i4 : Int) < (p0.length : Int)))) rfl rfl (fun hc => ?_) (fun hc => ?_)
      rotate_left
      · exact absurd hc (by first | (simp; done) | (simp; omega))
      clear hc
      refine W.skip ?_
      refine En.next ?_
      refine W.seq ?_
      refine W.block ?_
      refine W.seq ?_
      refine W.seq ?_
      refine W.region (l := [0, 1, 2, 3, 4, 5, 6, 7, 8, 9, 10, 11, 12, 13, 14, 15]) (by kernel_rfl) ?_
      refine WO.vals [(0, 14, (.slice a_p0 p0.length c_p0)), (1, 15, (.int .i64 (i4 : Int)))] (by kernel_rfl) (fun _ => by kernel_rfl) ?_
      obtain ⟨x11, hx_x11, hr1⟩ := bind_some hr1
      obtain ⟨h0_x11, h1_x11, hx_x11⟩ := idx_some hx_x11
      obtain ⟨ha_x11, cs_x11, hn_x11, hr_x11, hc_x11⟩ := ((RSl.mono h_p0 hl3)).el _ _ hx_x11
      obtain ⟨w_x11, rfl, h_x11⟩ := hr_x11
      refine WO.indexAddr (e := 28) (sz := 2) rfl (by kernel_rfl) (by kernel_rfl) (by kernel_rfl) rfl ha_x11 rfl h0_x11 h1_x11 ?_
      refine WO.vals [(3, 17, (.pointer (some ⟨bl a_p0, of a_p0 + ((i4 : Int)).toNat * 2 + 1, none⟩)))] (by kernel_rfl) (fun _ => by kernel_rfl) ?_
      refine WO.load rfl (by kernel_rfl) (by kernel_rfl) rfl (v := (.slice w_x11.In.a x11.In.length w_x11.In.c)) (fun w' hw' => hc_x11.cellk 1 (by kernel_rfl) ((rd_f hS7.im) w' hw')) ?_
      refine WO.vals [(5, 19, (.int .i64 (x11.In.length : Int))), (6, 20, (.bool (decide ((x11.In.length : Int) > 12)))), (7, 21, (.bool (decide ((x11.In.length : Int) > 12))))] (by kernel_rfl) (fun _ => by kernel_rfl) ?_
      obtain ⟨j12, hr2, hr1⟩ := bind_some hr1
      refine WO.join (l1 := [8, 9, 10, 11, 12, 13, 14, 15]) (l2 := []) (J := (fun fr w => ∃ (I14 : Mem), fr = [(0, (.slice a_p0 p0.length c_p0)), (3, (.int .i64 (i4 : Int))), (29, (.bool j12))] ∧ I2.Le I14 ∧ St E w I14 Os)) ?restj12 ?waysj12
      case waysj12 =>
        refine WO.caseb (decide ((x11.In.length : Int) > 12)) (fun hc => ?_) (fun hc => ?_)
        · replace hr2 := cond_t hc hr2
          refine WO.reslot 21 rfl (show Value.bool (decide ((x11.In.length : Int) > 12)) = Value.bool true by rw [hc]) ?_
          refine WO.pass rfl (by kernel_rfl) rfl ?_
          refine WO.pass rfl (by kernel_rfl) rfl ?_
          refine WO.pass rfl (by kernel_rfl) rfl ?_
          refine WO.pass rfl (by kernel_rfl) rfl ?_
          refine WO.pass rfl (by kernel_rfl) rfl ?_
          refine WO.pass rfl (by kernel_rfl) rfl ?_
          refine WO.pass rfl (by kernel_rfl) rfl ?_
          refine WO.vals [(15, 29, (.bool true))] (by kernel_rfl) (fun _ => by kernel_rfl) ?_
          have he := Option.some.inj hr2
          subst j12
          refine WO.weaken (fr' := [(0, (.slice a_p0 p0.length c_p0)), (3, (.int .i64 (i4 : Int))), (29, (.bool true))]) (WO.meet ⟨I2, rfl, Mem.Le.refl _, hS7⟩) (Sub.cons rfl (Sub.cons rfl (Sub.cons rfl Sub.nil)))
        · replace hr2 := cond_f hc hr2
          refine WO.reslot 21 rfl (show Value.bool (decide ((x11.In.length : Int) > 12)) = Value.bool false by rw [hc]) ?_
          refine WO.vals [(8, 22, (.slice a_p0 p0.length c_p0)), (9, 23, (.int .i64 (i4 : Int)))] (by kernel_rfl) (fun _ => by kernel_rfl) ?_
          obtain ⟨x16, hx_x16, hr2⟩ := bind_some hr2
          obtain ⟨h0_x16, h1_x16, hx_x16⟩ := idx_some hx_x16
          obtain ⟨ha_x16, cs_x16, hn_x16, hr_x16, hc_x16⟩ := ((RSl.mono h_p0 hl3)).el _ _ hx_x16
          obtain ⟨w_x16, rfl, h_x16⟩ := hr_x16
          refine WO.indexAddr (e := 28) (sz := 2) rfl (by kernel_rfl) (by kernel_rfl) (by kernel_rfl) rfl ha_x16 rfl h0_x16 h1_x16 ?_
          refine WO.vals [(11, 25, (.pointer (some ⟨bl a_p0, of a_p0 + ((i4 : Int)).toNat * 2, none⟩)))] (by kernel_rfl) (fun _ => by kernel_rfl) ?_
          refine WO.load rfl (by kernel_rfl) (by kernel_rfl) rfl (v := (.string x16.Name)) (fun w' hw' => hc_x16.cell0 (by kernel_rfl) ((rd_f hS7.im) w' hw')) ?_
          refine WO.vals [(13, 27, (.int .i64 (x16.Name.size : Int))), (14, 28, (.bool (decide ((x16.Name.size : Int) > 100)))), (15, 29, (.bool (decide ((x16.Name.size : Int) > 100))))] (by kernel_rfl) (fun _ => by kernel_rfl) ?_
          have he := Option.some.inj hr2
          subst j12
          refine WO.weaken (fr' := [(0, (.slice a_p0 p0.length c_p0)), (3, (.int .i64 (i4 : Int))), (29, (.bool (decide ((x16.Name.size : Int) > 100))))]) (WO.meet ⟨I2, rfl, Mem.Le.refl _, hS7⟩) (Sub.cons rfl (Sub.cons rfl (Sub.cons rfl Sub.nil)))
      case restj12 =>
        rintro _ w17 ⟨I14, rfl, hl15, hS18⟩
        refine WO.nil ?_
        refine En.next ?_
        refine W.cond (b := j12) rfl rfl (fun hc => ?_) (fun hc => ?_)
        · replace hr1 := cond_t hc hr1
          refine W.seq ?_
          refine W.region (l := [0]) (by kernel_rfl) ?_
          refine WO.vals [(0, 2, (.bool false))] (by kernel_rfl) (fun _ => by kernel_rfl) ?_
          refine WO.nil ?_
          refine En.next ?_
          refine W.ret ?_
          refine En.nx_ret ?_
          refine En.in_ret ?_
          refine En.nx_ret ?_
          refine En.rd_ret ?_
          have ht := hext1 _ (Option.some.inj hr1).symm
          subst t1
          refine En.in_ret ?_
          refine En.nx_ret ?_
          have he := Option.some.inj hr
          subst r
          exact En.ret1 rfl (.bool false) rfl ⟨I14, rfl, (hl3.trans hl15), hS18⟩
        · replace hr1 := cond_f hc hr1
          refine W.skip ?_
          refine En.next ?_
          refine W.seq ?_
          refine W.region (l := [0]) (by kernel_rfl) ?_
          refine WO.vals [(0, 4, (.int .i64 0))] (by kernel_rfl) (fun _ => by kernel_rfl) ?_
          refine WO.nil ?_
          refine En.next ?_
          refine W.block ?_
          obtain ⟨t21, hloop25, hr1⟩ := bind_some hr1
          refine W.weaken (fr' := [(0, (.slice a_p0 p0.length c_p0)), (3, (.int .i64 (i4 : Int))), (4, (.int .i64 0))]) (W.loopO hloop25 (fun (s24 : Int) fr w => ∃ (I22 : Mem), fr = [(0, (.slice a_p0 p0.length c_p0)), (3, (.int .i64 (i4 : Int))), (4, (.int .i64 s24))] ∧ I14.Le I22 ∧ St E w I22 Os) ⟨I14, rfl, Mem.Le.refl _, hS18⟩ ?_) (Sub.cons rfl (Sub.cons rfl (Sub.cons rfl Sub.nil)))
          rintro s24 _ w26 ⟨I22, rfl, hl23, hS27⟩ x28 hr2 hext21
          refine W.seq ?_
          refine W.seq ?_
          refine W.region (l := [0, 1, 2, 3, 4, 5, 6, 7]) (by kernel_rfl) ?_
          refine WO.vals [(0, 30, (.int .i64 s24)), (1, 31, (.slice a_p0 p0.length c_p0)), (2, 32, (.int .i64 (i4 : Int)))] (by kernel_rfl) (fun _ => by kernel_rfl) ?_
          obtain ⟨x29, hx_x29, hr2⟩ := bind_some hr2
          obtain ⟨h0_x29, h1_x29, hx_x29⟩ := idx_some hx_x29
          obtain ⟨ha_x29, cs_x29, hn_x29, hr_x29, hc_x29⟩ := ((RSl.mono h_p0 ((hl3.trans hl15).trans hl23))).el _ _ hx_x29
          obtain ⟨w_x29, rfl, h_x29⟩ := hr_x29
          refine WO.indexAddr (e := 28) (sz := 2) rfl (by kernel_rfl) (by kernel_rfl) (by kernel_rfl) rfl ha_x29 rfl h0_x29 h1_x29 ?_
          refine WO.vals [(4, 34, (.pointer (some ⟨bl a_p0, of a_p0 + ((i4 : Int)).toNat * 2 + 1, none⟩)))] (by kernel_rfl) (fun _ => by kernel_rfl) ?_
          refine WO.load rfl (by kernel_rfl) (by kernel_rfl) rfl (v := (.slice w_x29.In.a x29.In.length w_x29.In.c)) (fun w' hw' => hc_x29.cellk 1 (by kernel_rfl) ((rd_f hS27.im) w' hw')) ?_
          refine WO.vals [(6, 36, (.int .i64 (x29.In.length : Int))), (7, 37, (.bool (decide (s24 < (x29.In.length : Int)))))] (by kernel_rfl) (fun _ => by kernel_rfl) ?_
          refine WO.nil ?_
          refine En.next ?_
          refine W.cond (b := (decide (s24 < (x29.In.length : Int)))) rfl rfl (fun hc => ?_) (fun hc => ?_)
          · replace hr2 := cond_t hc hr2
            refine W.skip ?_
            refine En.next ?_
            refine W.seq ?_
            refine W.block ?_
            refine W.seq ?_
            refine W.region (l := [0, 1, 2, 3, 4, 5, 6, 7, 8, 9]) (by kernel_rfl) ?_
            refine WO.vals [(0, 40, (.slice a_p0 p0.length c_p0)), (1, 41, (.int .i64 (i4 : Int)))] (by kernel_rfl) (fun _ => by kernel_rfl) ?_
            obtain ⟨x30, hx_x30, hr2⟩ := bind_some hr2
            obtain ⟨h0_x30, h1_x30, hx_x30⟩ := idx_some hx_x30
            obtain ⟨ha_x30, cs_x30, hn_x30, hr_x30, hc_x30⟩ := ((RSl.mono h_p0 ((hl3.trans hl15).trans hl23))).el _ _ hx_x30
            obtain ⟨w_x30, rfl, h_x30⟩ := hr_x30
            refine WO.indexAddr (e := 28) (sz := 2) rfl (by kernel_rfl) (by kernel_rfl) (by kernel_rfl) rfl ha_x30 rfl h0_x30 h1_x30 ?_
            refine WO.vals [(3, 43, (.pointer (some ⟨bl a_p0, of a_p0 + ((i4 : Int)).toNat * 2 + 1, none⟩)))] (by kernel_rfl) (fun _ => by kernel_rfl) ?_
            refine WO.load rfl (by kernel_rfl) (by kernel_rfl) rfl (v := (.slice w_x30.In.a x30.In.length w_x30.In.c)) (fun w' hw' => hc_x30.cellk 1 (by kernel_rfl) ((rd_f hS27.im) w' hw')) ?_
            refine WO.vals [(5, 45, (.int .i64 s24))] (by kernel_rfl) (fun _ => by kernel_rfl) ?_
            obtain ⟨x31, hx_x31, hr2⟩ := bind_some hr2
            obtain ⟨h0_x31, h1_x31, hx_x31⟩ := idx_some hx_x31
            obtain ⟨ha_x31, cs_x31, hn_x31, hr_x31, hc_x31⟩ := (h_x30.In).el _ _ hx_x31
            obtain rfl := hr_x31
            refine WO.indexAddr (e := 9) (sz := 1) rfl (by kernel_rfl) (by kernel_rfl) (by kernel_rfl) rfl ha_x31 rfl h0_x31 h1_x31 ?_
            refine WO.load rfl (by kernel_rfl) (by kernel_rfl) rfl (v := (.string x31)) (fun w' hw' => hc_x31.cell0 (by kernel_rfl) ((rd_f hS27.im) w' hw')) ?_
            refine WO.vals [(8, 48, (.int .i64 (x31.size : Int))), (9, 49, (.bool (decide ((x31.size : Int) > 100))))] (by kernel_rfl) (fun _ => by kernel_rfl) ?_
            refine WO.nil ?_
            refine En.next ?_
            refine W.cond (b := (decide ((x31.size : Int) > 100))) rfl rfl (fun hc => ?_) (fun hc => ?_)
            · replace hr2 := cond_t hc hr2
              refine W.seq ?_
              refine W.region (l := [0]) (by kernel_rfl) ?_
              refine WO.vals [(0, 2, (.bool false))] (by kernel_rfl) (fun _ => by kernel_rfl) ?_
              refine WO.nil ?_
              refine En.next ?_
              refine W.ret ?_
              refine En.in_ret ?_
              refine En.nx_ret ?_
              refine En.rd_ret ?_
              have ht := hext21 _ (Option.some.inj hr2).symm
              subst t21
              refine En.in_ret ?_
              refine En.in_ret ?_
              refine En.nx_ret ?_
              refine En.rd_ret ?_
              have ht := hext1 _ (Option.some.inj hr1).symm
              subst t1
              refine En.in_ret ?_
              refine En.nx_ret ?_
              have he := Option.some.inj hr
              subst r
              exact En.ret1 rfl (.bool false) rfl ⟨I22, rfl, ((hl3.trans hl15).trans hl23), hS27⟩
            · replace hr2 := cond_f hc hr2
              refine W.skip ?_
              refine En.in_normal ?_
              refine En.next ?_
              refine W.region (l := [0, 1, 2]) (by kernel_rfl) ?_
              refine WO.vals [(0, 38, (.int .i64 s24)), (1, 39, (.int .i64 (w64 (s24 + 1)))), (2, 4, (.int .i64 (w64 (s24 + 1))))] (by kernel_rfl) (fun _ => by kernel_rfl) ?_
              refine WO.nil ?_
              refine En.weaken (fr' := [(0, (.slice a_p0 p0.length c_p0)), (3, (.int .i64 (i4 : Int))), (4, (.int .i64 (w64 (s24 + 1))))]) (En.round ⟨(w64 (s24 + 1)), (Option.some.inj hr2).symm, I22, rfl, hl23, hS27⟩) (Sub.cons rfl (Sub.cons rfl (Sub.cons rfl Sub.nil)))
          · replace hr2 := cond_f hc hr2
            refine W.exit ?_
            refine En.nx_exit ?_
            refine En.rd_exit ?_
            have ht := hext21 _ (Option.some.inj hr2).symm
            subst t21
            refine En.in_hit ?_
            refine En.in_normal ?_
            refine En.next ?_
            refine W.region (l := [0, 1, 2]) (by kernel_rfl) ?_
            refine WO.vals [(0, 12, (.int .i64 (i4 : Int)))] (by kernel_rfl) (fun _ => by kernel_rfl) ?_
            refine WO.incr (j := i4) rfl (by kernel_rfl) rfl (by first | omega | (dsimp only at *; omega)) ?_
            refine WO.vals [(2, 3, (.int .i64 ((i4 + 1 : Nat) : Int)))] (by kernel_rfl) (fun _ => by kernel_rfl) ?_
            refine WO.nil ?_
            refine En.weaken (fr' := [(0, (.slice a_p0 p0.length c_p0)), (3, (.int .i64 ((i4 + 1 : Nat) : Int)))]) (En.round ⟨(), (Option.some.inj hr1).symm, I22, rfl, ((hl3.trans hl15).trans hl23), hS27⟩) (Sub.cons rfl (Sub.cons rfl Sub.nil))
    case lastt1 =>
      rintro _ _ w35 ⟨I2, rfl, hl3, hS36⟩ he
      cases he
      refine W.seq ?_
      refine W.seq ?_
      refine W.region (l := [0, 1, 2, 3]) (by kernel_rfl) ?_
      refine WO.vals [(0, 8, (.int .i64 (p0.length : Int))), (1, 9, (.slice a_p0 p0.length c_p0)), (2, 10, (.int .i64 (p0.length : Int))), (3, 11, (.bool (decide ((p0.length : Int) < (p0.length : Int)))))] (by kernel_rfl) (fun _ => by kernel_rfl) ?_
      refine WO.nil ?_
      refine En.next ?_
      refine W.cond (b := (decide ((p0.length : Int) < (p0.length : Int)))) rfl rfl (fun hc => ?_) (fun hc => ?_)
      · exact absurd hc (by first | (simp; done) | (simp; omega))
      clear hc
      refine W.exit ?_
      refine En.nx_exit ?_
      refine En.rd_exit ?_
      refine En.in_hit ?_
      refine En.next ?_
      refine W.seq ?_
      refine W.region (l := [0]) (by kernel_rfl) ?_
      refine WO.vals [(0, 2, (.bool true))] (by kernel_rfl) (fun _ => by kernel_rfl) ?_
      refine WO.nil ?_
      refine En.next ?_
      refine W.ret ?_
      have he := Option.some.inj hr
      subst r
      exact En.ret1 rfl (.bool true) rfl ⟨I2, rfl, hl3, hS36⟩
def member_names (p0 : List api_Role) : Option (List ByteArray) := (forE (fun (i5 : Nat) => fun (s4 : List ByteArray) => (idx p0 (i5 : Int)).bind (fun (x14 : api_Role) => (app 16 s4 ([x14.Name] : List ByteArray)).bind (fun (x29 : List ByteArray) => some x29))) p0.length 0 ([] : List ByteArray)).bind (fun (s4 : (List ByteArray)) => some s4)
set_option maxHeartbeats 1000000 in
theorem member_names_ok {E w : World} {I : Mem} {Os : List Mem} {p0 : List api_Role} {a_p0 : Option Addr} {c_p0 : Nat} (h_p0 : RSl 2 R_api_Role I a_p0 c_p0 p0) (hS : St E w I Os) {r : (List ByteArray)} (hr : member_names p0 = some r) :
    Calls P 22 #[(.slice a_p0 p0.length c_p0)] w (fun e w' => ∃ (I' : Mem) (ra0 : Option Addr) (rc0 : Nat) (rC0 : Mem), e = .returned (.slice ra0 r.length rc0) ∧ I.Le I' ∧ St E w' I' (rC0 :: Os) ∧ OwnSl 9 1 RStr I' rC0 ra0 rc0 r) := by
  refine calls_W (args := [(.slice a_p0 p0.length c_p0)]) (fn := Tryz.f22) rfl rfl rfl ?_
  unfold member_names at hr
  refine W.seq ?_
  refine W.region (l := [0]) (by kernel_rfl) ?_
  refine WO.vals [(0, 2, (.slice none 0 0))] (by kernel_rfl) (fun _ => by kernel_rfl) ?_
  refine WO.nil ?_
  refine En.next ?_
  refine W.seq ?_
  refine W.region (l := [0]) (by kernel_rfl) ?_
  refine WO.vals [(0, 3, (.slice none 0 0))] (by kernel_rfl) (fun _ => by kernel_rfl) ?_
  refine WO.nil ?_
  refine En.next ?_
  refine W.seq ?_
  refine W.seq ?_
  refine W.region (l := [0, 1, 2]) (by kernel_rfl) ?_
  refine WO.vals [(0, 6, (.slice a_p0 p0.length c_p0)), (1, 7, (.int .i64 (p0.length : Int))), (2, 8, (.int .i64 0))] (by kernel_rfl) (fun _ => by kernel_rfl) ?_
  refine WO.nil ?_
  refine En.next ?_
  refine W.block ?_
  obtain ⟨s4, hloop6, hr⟩ := bind_some hr
  have hS8 := hS.no
  have hlt12 := (h_p0).len_lt
  refine W.weaken (fr' := [(3, (.slice none ([] : List ByteArray).length 0)), (6, (.slice a_p0 p0.length c_p0)), (7, (.int .i64 (p0.length : Int))), (8, (.int .i64 ((0 : Nat) : Int)))]) (W.forE (m := p0.length) hloop6 (fun (i5 : Nat) => fun (s4 : List ByteArray) fr w => ∃ (I2 : Mem), ∃ (a_s4 : Option Addr), ∃ (c_s4 : Nat), ∃ (C_s4 : Mem), fr = [(3, (.slice a_s4 s4.length c_s4)), (6, (.slice a_p0 p0.length c_p0)), (7, (.int .i64 (p0.length : Int))), (8, (.int .i64 (i5 : Int)))] ∧ I.Le I2 ∧ St E w I2 ((C_s4) :: Os) ∧ OwnSl 9 1 RStr I2 C_s4 a_s4 c_s4 s4) ⟨I, none, 0, Mem.no, rfl, Mem.Le.refl _, hS8, OwnSl.nil⟩ ?roundt1 ?lastt1) (Sub.cons rfl (Sub.cons rfl (Sub.cons rfl (Sub.cons rfl Sub.nil))))
  case roundt1 =>
    rintro i5 s4 _ w9 hi13 ⟨I2, a_s4, c_s4, C_s4, rfl, hl3, hS10, h_s4⟩ x11 hr1
    refine W.seq ?_
    refine W.region (l := [0]) (by kernel_rfl) ?_
    refine WO.vals [(0, 9, (.bool (decide ((i5 : Int) < (p0.length : Int)))))] (by kernel_rfl) (fun _ => by kernel_rfl) ?_
    refine WO.nil ?_
    refine En.next ?_
    refine W.seq ?_
    refine W.cond (b := (decide ((i5 : Int) < (p0.length : Int)))) rfl rfl (fun hc => ?_) (fun hc => ?_)
    rotate_left
    · exact absurd hc (by first | (simp; done) | (simp; omega))
    clear hc
    refine W.skip ?_
    refine En.next ?_
    refine W.seq ?_
    refine W.block ?_
    refine W.seq ?_
    refine W.region (l := [0, 1, 2, 3]) (by kernel_rfl) ?_
    obtain ⟨x14, hx_x14, hr1⟩ := bind_some hr1
    obtain ⟨h0_x14, h1_x14, hx_x14⟩ := idx_some hx_x14
    obtain ⟨ha_x14, cs_x14, hn_x14, hr_x14, hc_x14⟩ := ((RSl.mono h_p0 hl3)).el _ _ hx_x14
    obtain ⟨w_x14, rfl, h_x14⟩ := hr_x14
    refine WO.indexAddr (e := 28) (sz := 2) rfl (by kernel_rfl) (by kernel_rfl) (by kernel_rfl) rfl ha_x14 rfl h0_x14 h1_x14 ?_
    refine WO.loadN rfl (by kernel_rfl) (by kernel_rfl) rfl ((cs_api_Role x14 w_x14)) (by kernel_rfl) (fun w' hw' => hc_x14.cells (k := 0) (by kernel_rfl) rfl ((rd_f hS10.im) w' hw')) ?_
    refine WO.new hS10 rfl (by kernel_rfl) rfl (.cells (cs_api_Role z_api_Role zw_api_Role).toArray 28 (0, 0)) (fun b => .pointer (some ⟨b, 0, none⟩)) (by kernel_rfl) (fun _ _ _ => trivial) ?_
    intro b15 w18 hS17
    refine WO.storeBox hS17 rfl (by kernel_rfl) rfl 0 rfl rfl (by kernel_rfl) (by kernel_rfl) (by kernel_rfl) ((cs_api_Role x14 w_x14).toArray) (by kernel_rfl) (fun _ _ => trivial) ?_
    intro w20 hS19
    refine WO.nil ?_
    refine En.next ?_
    refine W.region (l := [0, 1, 2, 3, 4, 5]) (by kernel_rfl) ?_
    refine WO.vals [(0, 12, (.slice a_s4 s4.length c_s4)), (1, 13, (.pointer (some ⟨b15, 0, none⟩)))] (by kernel_rfl) (fun _ => by kernel_rfl) ?_
    refine WO.load rfl (by kernel_rfl) (by kernel_rfl) rfl (v := (.string x14.Name)) (fun w' hw' => cell_one ((rd_f (hS19.rd (List.Mem.head _))) w' hw') (by kernel_rfl)) ?_
    refine WO.newSlice (rel := RStr) (xs := ([x14.Name] : List ByteArray)) hS19 rfl (by kernel_rfl) rfl 9 1 [[(.string x14.Name)]] (by kernel_rfl) rfl ((Elr.cons rfl Elr.nil)) (fun _ _ _ => trivial) ?_
    intro a24 C22 w26 hS25 ho23
    have hS28 := hS25.front2
    obtain ⟨x29, hx_x29, hr1⟩ := bind_some hr1
    obtain ⟨h0_x29, he_x29⟩ := app_some hx_x29
    refine WO.append (e' := 9) (b := 16) (zs := #[(.string (⟨#[]⟩ : ByteArray))]) hS28 h_s4 rfl (by kernel_rfl) rfl (by kernel_rfl) (by kernel_rfl) (by kernel_rfl) rfl rfl rfl rfl ho23.sl (hS28.rd (List.Mem.tail _ (List.Mem.head _))) h0_x29 he_x29 (fun _ _ _ => trivial) ?_
    intro a30 c31 w32 C33 hS34 ho35
    have hS36 := hS34.front1
    have hS37 := hS36.drop
    refine WO.vals [(5, 3, (.slice a30 x29.length c31))] (by kernel_rfl) (fun _ => by kernel_rfl) ?_
    refine WO.nil ?_
    refine En.in_normal ?_
    refine En.next ?_
    refine W.region (l := [0, 1]) (by kernel_rfl) ?_
    refine WO.incr (j := i5) rfl (by kernel_rfl) rfl (by first | omega | (dsimp only at *; omega)) ?_
    refine WO.vals [(1, 8, (.int .i64 ((i5 + 1 : Nat) : Int)))] (by kernel_rfl) (fun _ => by kernel_rfl) ?_
    refine WO.nil ?_
    have hS38 := hS37.front1
    have hS39 := hS38.drop
    have he := Option.some.inj hr1
    subst x11
    refine En.weaken (fr' := [(3, (.slice a30 x29.length c31)), (6, (.slice a_p0 p0.length c_p0)), (7, (.int .i64 (p0.length : Int))), (8, (.int .i64 ((i5 + 1 : Nat) : Int)))]) (En.round ⟨I2, a30, c31, C33, rfl, hl3, hS39, ho35⟩) (Sub.cons rfl (Sub.cons rfl (Sub.cons rfl (Sub.cons rfl Sub.nil))))
  case lastt1 =>
    rintro _ w40 ⟨I2, a_s4, c_s4, C_s4, rfl, hl3, hS41, h_s4⟩
    refine W.seq ?_
    refine W.region (l := [0]) (by kernel_rfl) ?_
    refine WO.vals [(0, 9, (.bool (decide ((p0.length : Int) < (p0.length : Int)))))] (by kernel_rfl) (fun _ => by kernel_rfl) ?_
    refine WO.nil ?_
    refine En.next ?_
    refine W.seq ?_
    refine W.cond (b := (decide ((p0.length : Int) < (p0.length : Int)))) rfl rfl (fun hc => ?_) (fun hc => ?_)
    · exact absurd hc (by first | (simp; done) | (simp; omega))
    clear hc
    refine W.exit ?_
    refine En.nx_exit ?_
    refine En.rd_exit ?_
    refine En.in_hit ?_
    refine En.next ?_
    refine W.seq ?_
    refine W.region (l := [0, 1]) (by kernel_rfl) ?_
    refine WO.vals [(0, 18, (.slice a_s4 s4.length c_s4)), (1, 2, (.slice a_s4 s4.length c_s4))] (by kernel_rfl) (fun _ => by kernel_rfl) ?_
    refine WO.nil ?_
    refine En.next ?_
    refine W.ret ?_
    have he := Option.some.inj hr
    subst r
    exact En.ret1 rfl (.slice a_s4 s4.length c_s4) rfl ⟨I2, a_s4, c_s4, C_s4, rfl, hl3, hS41, h_s4⟩
noncomputable def member_rising (p0 : List ByteArray) : Option Bool := (loopO (fun (s4 : Int) => (bif (decide (s4 < (p0.length : Int))) then (idx p0 (w64 (s4 - 1))).bind (fun (x11 : ByteArray) => (idx p0 s4).bind (fun (x12 : ByteArray) => (bif (!sLt x11 x12) then some (.inr (.inl false)) else some (.inl (w64 (s4 + 1)))))) else some (.inr (.inr ())))) 1).bind (fun (t : Bool ⊕ Unit) => match t with | (.inl s14) => some s14 | (.inr ()) => some true)
set_option maxHeartbeats 1000000 in
theorem member_rising_ok {E w : World} {I : Mem} {Os : List Mem} {p0 : List ByteArray} {a_p0 : Option Addr} {c_p0 : Nat} (h_p0 : RSl 1 RStr I a_p0 c_p0 p0) (hS : St E w I Os) {r : Bool} (hr : member_rising p0 = some r) :
    Calls P 23 #[(.slice a_p0 p0.length c_p0)] w (fun e w' => ∃ (I' : Mem), e = .returned (.bool r) ∧ I.Le I' ∧ St E w' I' Os) := by
  refine calls_W (args := [(.slice a_p0 p0.length c_p0)]) (fn := Tryz.f23) rfl rfl rfl ?_
  unfold member_rising at hr
  refine W.seq ?_
  refine W.region (l := [0]) (by kernel_rfl) ?_
  refine WO.vals [(0, 2, (.bool false))] (by kernel_rfl) (fun _ => by kernel_rfl) ?_
  refine WO.nil ?_
  refine En.next ?_
  refine W.seq ?_
  refine W.seq ?_
  refine W.region (l := [0]) (by kernel_rfl) ?_
  refine WO.vals [(0, 3, (.int .i64 1))] (by kernel_rfl) (fun _ => by kernel_rfl) ?_
  refine WO.nil ?_
  refine En.next ?_
  refine W.block ?_
  obtain ⟨t1, hloop5, hr⟩ := bind_some hr
  refine W.weaken (fr' := [(0, (.slice a_p0 p0.length c_p0)), (3, (.int .i64 1))]) (W.loopO hloop5 (fun (s4 : Int) fr w => ∃ (I2 : Mem), fr = [(0, (.slice a_p0 p0.length c_p0)), (3, (.int .i64 s4))] ∧ I.Le I2 ∧ St E w I2 Os) ⟨I, rfl, Mem.Le.refl _, hS⟩ ?_) (Sub.cons rfl (Sub.cons rfl Sub.nil))
  rintro s4 _ w6 ⟨I2, rfl, hl3, hS7⟩ x8 hr1 hext1
  refine W.seq ?_
  refine W.seq ?_
  refine W.region (l := [0, 1, 2, 3]) (by kernel_rfl) ?_
  refine WO.vals [(0, 4, (.int .i64 s4)), (1, 5, (.slice a_p0 p0.length c_p0)), (2, 6, (.int .i64 (p0.length : Int))), (3, 7, (.bool (decide (s4 < (p0.length : Int)))))] (by kernel_rfl) (fun _ => by kernel_rfl) ?_
  refine WO.nil ?_
  refine En.next ?_
  refine W.cond (b := (decide (s4 < (p0.length : Int)))) rfl rfl (fun hc => ?_) (fun hc => ?_)
  · replace hr1 := cond_t hc hr1
    refine W.skip ?_
    refine En.next ?_
    refine W.seq ?_
    refine W.block ?_
    refine W.seq ?_
    have hS9 := hS7.drew
    refine W.draw (l := [0, 1, 2, 3, 4, 5, 6, 7, 8, 9]) (by kernel_rfl) 9 (KR I2 []) qR (.back (by kernel_rfl)) (by kernel_rfl) (KR.nil hS9.im) ?_
    generalize World.drew _ = w10 at *
    refine WO.vals [(0, 10, (.slice a_p0 p0.length c_p0)), (1, 11, (.int .i64 s4)), (2, 12, (.int .i64 (w64 (s4 - 1))))] (by kernel_rfl) (fun _ => by kernel_rfl) ?_
    obtain ⟨x11, hx_x11, hr1⟩ := bind_some hr1
    obtain ⟨h0_x11, h1_x11, hx_x11⟩ := idx_some hx_x11
    obtain ⟨ha_x11, cs_x11, hn_x11, hr_x11, hc_x11⟩ := ((RSl.mono h_p0 hl3)).el _ _ hx_x11
    obtain rfl := hr_x11
    refine WO.indexAddr (e := 9) (sz := 1) rfl (by kernel_rfl) (by kernel_rfl) (by kernel_rfl) rfl ha_x11 rfl h0_x11 h1_x11 ?_
    refine WO.load rfl (by kernel_rfl) (by kernel_rfl) rfl (v := (.string x11)) (fun w' hw' => hc_x11.cell0 (by kernel_rfl) ((rd_i hS9.im) w' hw')) ?_
    refine WO.vals [(5, 15, (.slice a_p0 p0.length c_p0)), (6, 16, (.int .i64 s4))] (by kernel_rfl) (fun _ => by kernel_rfl) ?_
    obtain ⟨x12, hx_x12, hr1⟩ := bind_some hr1
    obtain ⟨h0_x12, h1_x12, hx_x12⟩ := idx_some hx_x12
    obtain ⟨ha_x12, cs_x12, hn_x12, hr_x12, hc_x12⟩ := ((RSl.mono h_p0 hl3)).el _ _ hx_x12
    obtain rfl := hr_x12
    refine WO.indexAddr (e := 9) (sz := 1) rfl (by kernel_rfl) (by kernel_rfl) (by kernel_rfl) rfl ha_x12 rfl h0_x12 h1_x12 ?_
    refine WO.load rfl (by kernel_rfl) (by kernel_rfl) rfl (v := (.string x12)) (fun w' hw' => hc_x12.cell0 (by kernel_rfl) ((rd_i hS9.im) w' hw')) ?_
    refine WO.tail rfl ?_
    refine WO.vals [(9, 19, (.bool (!sLt x11 x12)))] (by kernel_rfl) (fun _ => by kernel_rfl) ?_
    refine WO.nil ?_
    refine En.next ?_
    refine W.cond (b := (!sLt x11 x12)) rfl rfl (fun hc => ?_) (fun hc => ?_)
    · replace hr1 := cond_t hc hr1
      refine W.seq ?_
      refine W.region (l := [0]) (by kernel_rfl) ?_
      refine WO.vals [(0, 2, (.bool false))] (by kernel_rfl) (fun _ => by kernel_rfl) ?_
      refine WO.nil ?_
      refine En.next ?_
      refine W.ret ?_
      refine En.in_ret ?_
      refine En.nx_ret ?_
      refine En.rd_ret ?_
      have ht := hext1 _ (Option.some.inj hr1).symm
      subst t1
      refine En.in_ret ?_
      refine En.nx_ret ?_
      have he := Option.some.inj hr
      subst r
      exact En.ret1 rfl (.bool false) rfl ⟨I2, rfl, hl3, hS9⟩
    · replace hr1 := cond_f hc hr1
      refine W.skip ?_
      refine En.in_normal ?_
      refine En.next ?_
      refine W.region (l := [0, 1, 2]) (by kernel_rfl) ?_
      refine WO.vals [(0, 8, (.int .i64 s4)), (1, 9, (.int .i64 (w64 (s4 + 1)))), (2, 3, (.int .i64 (w64 (s4 + 1))))] (by kernel_rfl) (fun _ => by kernel_rfl) ?_
      refine WO.nil ?_
      refine En.weaken (fr' := [(0, (.slice a_p0 p0.length c_p0)), (3, (.int .i64 (w64 (s4 + 1))))]) (En.round ⟨(w64 (s4 + 1)), (Option.some.inj hr1).symm, I2, rfl, hl3, hS9⟩) (Sub.cons rfl (Sub.cons rfl Sub.nil))
  · replace hr1 := cond_f hc hr1
    refine W.exit ?_
    refine En.nx_exit ?_
    refine En.rd_exit ?_
    have ht := hext1 _ (Option.some.inj hr1).symm
    subst t1
    refine En.in_hit ?_
    refine En.next ?_
    refine W.seq ?_
    refine W.region (l := [0]) (by kernel_rfl) ?_
    refine WO.vals [(0, 2, (.bool true))] (by kernel_rfl) (fun _ => by kernel_rfl) ?_
    refine WO.nil ?_
    refine En.next ?_
    refine W.ret ?_
    have he := Option.some.inj hr
    subst r
    exact En.ret1 rfl (.bool true) rfl ⟨I2, rfl, hl3, hS7⟩
def lex_small (p0 : Int) : Option Bool := some ((decide (p0 ≥ 97)) && (decide (p0 ≤ 122)))
set_option maxHeartbeats 1000000 in
theorem lex_small_ok {E w : World} {I : Mem} {Os : List Mem} {p0 : Int} (hS : St E w I Os) {r : Bool} (hr : lex_small p0 = some r) :
    Calls P 80 #[(.int .u8 p0)] w (fun e w' => ∃ (I' : Mem), e = .returned (.bool r) ∧ I.Le I' ∧ St E w' I' Os) := by
  refine calls_W (args := [(.int .u8 p0)]) (fn := Tryz.f80) rfl rfl rfl ?_
  unfold lex_small at hr
  refine W.seq ?_
  refine W.region (l := [0]) (by kernel_rfl) ?_
  refine WO.vals [(0, 2, (.bool false))] (by kernel_rfl) (fun _ => by kernel_rfl) ?_
  refine WO.nil ?_
  refine En.next ?_
  refine W.seq ?_
  refine W.region (l := [0, 1, 2, 3, 4, 5, 6]) (by kernel_rfl) ?_
  refine WO.vals [(0, 3, (.int .u8 p0)), (1, 4, (.bool (decide (p0 ≥ 97)))), (2, 5, (.bool (decide (p0 ≥ 97))))] (by kernel_rfl) (fun _ => by kernel_rfl) ?_
  refine WO.join (l1 := [3, 4, 5]) (l2 := [6]) (J := fun frx wx => frx = [(8, (.bool ((decide (p0 ≥ 97)) && (decide (p0 ≤ 122)))))] ∧ w = wx) ?restm1 ?waysm1
  case waysm1 =>
    refine WO.caseb (decide (p0 ≥ 97)) (fun hc => ?_) (fun hc => ?_)
    · skip
      refine WO.reslot 5 rfl (show Value.bool (decide (p0 ≥ 97)) = Value.bool true by rw [hc]) ?_
      refine WO.vals [(3, 6, (.int .u8 p0)), (4, 7, (.bool (decide (p0 ≤ 122)))), (5, 8, (.bool (decide (p0 ≤ 122))))] (by kernel_rfl) (fun _ => by kernel_rfl) ?_
      refine WO.weaken (fr' := [(8, (.bool ((decide (p0 ≥ 97)) && (decide (p0 ≤ 122)))))]) (WO.meet ⟨rfl, rfl⟩) (Sub.cons (by rw [hc]; rfl) Sub.nil)
    · skip
      refine WO.reslot 5 rfl (show Value.bool (decide (p0 ≥ 97)) = Value.bool false by rw [hc]) ?_
      refine WO.pass rfl (by kernel_rfl) rfl ?_
      refine WO.pass rfl (by kernel_rfl) rfl ?_
      refine WO.vals [(5, 8, (.bool false))] (by kernel_rfl) (fun _ => by kernel_rfl) ?_
      refine WO.weaken (fr' := [(8, (.bool ((decide (p0 ≥ 97)) && (decide (p0 ≤ 122)))))]) (WO.meet ⟨rfl, rfl⟩) (Sub.cons (by rw [hc]; rfl) Sub.nil)
  case restm1 =>
    rintro _ _ ⟨rfl, rfl⟩
    refine WO.vals [(6, 2, (.bool ((decide (p0 ≥ 97)) && (decide (p0 ≤ 122)))))] (by kernel_rfl) (fun _ => by kernel_rfl) ?_
    refine WO.nil ?_
    refine En.next ?_
    refine W.ret ?_
    have he := Option.some.inj hr
    subst r
    exact En.ret1 rfl (.bool ((decide (p0 ≥ 97)) && (decide (p0 ≤ 122)))) rfl ⟨I, rfl, Mem.Le.refl _, hS⟩
noncomputable def lex_while (p0 : ByteArray) (p1 : Int) (p2 : Int) (p3 : Int → Option Bool) : Option Int := (loopO (fun (s4 : Int) => ((bif ((decide ((w64 (p1 + s4)) < (p0.size : Int))) && (decide (s4 < p2))) then (sAt p0 (w64 (p1 + s4))).bind (fun (y15 : Int) => (p3 y15).bind (fun (r21 : Bool) => some r21)) else some false)).bind (fun (j11 : Bool) => (bif j11 then some (.inl (w64 (s4 + 1))) else some (.inr s4)))) 0).bind (fun (s25 : Int) => some s25)
set_option maxHeartbeats 1000000 in
theorem lex_while_ok {E w : World} {I : Mem} {Os : List Mem} {p0 : ByteArray} {p1 : Int} {p2 : Int} {p3 : Int → Option Bool} {g_p3 : FuncId} {k_p3 : List Value} (h_p3 : ∀ {F : List Mem} {I' : Mem} {w : World} {u0 : Int}, I.Le I' → St E w I' (F ++ Os) → ∀ {r : Bool}, p3 u0 = some r → Calls P g_p3 (([(.int .u8 u0)] : List Value) ++ k_p3).toArray w (fun e w' => ∃ (I'' : Mem), e = .returned (.bool r) ∧ I'.Le I'' ∧ St E w' I'' (F ++ Os))) (hcall_p3 : Callable P g_p3) (hS : St E w I Os) {r : Int} (hr : lex_while p0 p1 p2 p3 = some r) :
    Calls P 81 #[(.string p0), (.int .i64 p1), (.int .i64 p2), (.func (.func g_p3) #[] k_p3.toArray)] w (fun e w' => ∃ (I' : Mem), e = .returned (.int .i64 r) ∧ I.Le I' ∧ St E w' I' Os) := by
  refine calls_W (args := [(.string p0), (.int .i64 p1), (.int .i64 p2), (.func (.func g_p3) #[] k_p3.toArray)]) (fn := Tryz.f81) rfl rfl rfl ?_
  unfold lex_while at hr
  refine W.seq ?_
  refine W.region (l := [0]) (by kernel_rfl) ?_
  refine WO.vals [(0, 8, (.int .i64 0))] (by kernel_rfl) (fun _ => by kernel_rfl) ?_
  refine WO.nil ?_
  refine En.next ?_
  refine W.seq ?_
  refine W.region (l := [0]) (by kernel_rfl) ?_
  refine WO.vals [(0, 9, (.int .i64 0))] (by kernel_rfl) (fun _ => by kernel_rfl) ?_
  refine WO.nil ?_
  refine En.next ?_
  refine W.seq ?_
  refine W.block ?_
  obtain ⟨t1, hloop5, hr⟩ := bind_some hr
  refine W.weaken (fr' := [(0, (.string p0)), (1, (.int .i64 p1)), (2, (.int .i64 p2)), (3, (.func (.func g_p3) #[] k_p3.toArray)), (9, (.int .i64 0))]) (W.loopO hloop5 (fun (s4 : Int) fr w => ∃ (I2 : Mem), fr = [(0, (.string p0)), (1, (.int .i64 p1)), (2, (.int .i64 p2)), (3, (.func (.func g_p3) #[] k_p3.toArray)), (9, (.int .i64 s4))] ∧ I.Le I2 ∧ St E w I2 Os) ⟨I, rfl, Mem.Le.refl _, hS⟩ ?_) (Sub.cons rfl (Sub.cons rfl (Sub.cons rfl (Sub.cons rfl (Sub.cons rfl Sub.nil)))))
  rintro s4 _ w6 ⟨I2, rfl, hl3, hS7⟩ x8 hr1 hext1
  refine W.seq ?_
  refine W.seq ?_
  refine W.region (l := [0, 1, 2, 3, 4, 5, 6, 7, 8, 9, 10, 11, 12, 13, 14, 15, 16, 17, 18, 19]) (by kernel_rfl) ?_
  refine WO.vals [(0, 10, (.int .i64 p1)), (1, 11, (.int .i64 s4)), (2, 12, (.int .i64 (w64 (p1 + s4)))), (3, 13, (.string p0)), (4, 14, (.int .i64 (p0.size : Int))), (5, 15, (.bool (decide ((w64 (p1 + s4)) < (p0.size : Int))))), (6, 16, (.bool (decide ((w64 (p1 + s4)) < (p0.size : Int)))))] (by kernel_rfl) (fun _ => by kernel_rfl) ?_
  refine WO.join (l1 := [7, 8, 9, 10]) (l2 := [11, 12, 13, 14, 15, 16, 17, 18, 19]) (J := fun frx wx => frx = [(20, (.bool ((decide ((w64 (p1 + s4)) < (p0.size : Int))) && (decide (s4 < p2))))), (0, (.string p0)), (1, (.int .i64 p1)), (2, (.int .i64 p2)), (3, (.func (.func g_p3) #[] k_p3.toArray)), (9, (.int .i64 s4))] ∧ w6 = wx) ?restm9 ?waysm9
  case waysm9 =>
    refine WO.caseb (decide ((w64 (p1 + s4)) < (p0.size : Int))) (fun hc => ?_) (fun hc => ?_)
    · skip
      refine WO.reslot 16 rfl (show Value.bool (decide ((w64 (p1 + s4)) < (p0.size : Int))) = Value.bool true by rw [hc]) ?_
      refine WO.vals [(7, 17, (.int .i64 s4)), (8, 18, (.int .i64 p2)), (9, 19, (.bool (decide (s4 < p2)))), (10, 20, (.bool (decide (s4 < p2))))] (by kernel_rfl) (fun _ => by kernel_rfl) ?_
      refine WO.weaken (fr' := [(20, (.bool ((decide ((w64 (p1 + s4)) < (p0.size : Int))) && (decide (s4 < p2))))), (0, (.string p0)), (1, (.int .i64 p1)), (2, (.int .i64 p2)), (3, (.func (.func g_p3) #[] k_p3.toArray)), (9, (.int .i64 s4))]) (WO.meet ⟨rfl, rfl⟩) (Sub.cons (by rw [hc]; rfl) (Sub.cons rfl (Sub.cons rfl (Sub.cons rfl (Sub.cons rfl (Sub.cons rfl Sub.nil))))))
    · skip
      refine WO.reslot 16 rfl (show Value.bool (decide ((w64 (p1 + s4)) < (p0.size : Int))) = Value.bool false by rw [hc]) ?_
      refine WO.pass rfl (by kernel_rfl) rfl ?_
      refine WO.pass rfl (by kernel_rfl) rfl ?_
      refine WO.pass rfl (by kernel_rfl) rfl ?_
      refine WO.vals [(10, 20, (.bool false))] (by kernel_rfl) (fun _ => by kernel_rfl) ?_
      refine WO.weaken (fr' := [(20, (.bool ((decide ((w64 (p1 + s4)) < (p0.size : Int))) && (decide (s4 < p2))))), (0, (.string p0)), (1, (.int .i64 p1)), (2, (.int .i64 p2)), (3, (.func (.func g_p3) #[] k_p3.toArray)), (9, (.int .i64 s4))]) (WO.meet ⟨rfl, rfl⟩) (Sub.cons (by rw [hc]; rfl) (Sub.cons rfl (Sub.cons rfl (Sub.cons rfl (Sub.cons rfl (Sub.cons rfl Sub.nil))))))
  case restm9 =>
    rintro _ _ ⟨rfl, rfl⟩
    refine WO.vals [(11, 21, (.bool ((decide ((w64 (p1 + s4)) < (p0.size : Int))) && (decide (s4 < p2)))))] (by kernel_rfl) (fun _ => by kernel_rfl) ?_
    obtain ⟨j11, hr2, hr1⟩ := bind_some hr1
    refine WO.join (l1 := [12, 13, 14, 15, 16, 17, 18, 19]) (l2 := []) (J := (fun fr w => ∃ (I13 : Mem), fr = [(0, (.string p0)), (1, (.int .i64 p1)), (2, (.int .i64 p2)), (3, (.func (.func g_p3) #[] k_p3.toArray)), (9, (.int .i64 s4)), (29, (.bool j11))] ∧ I2.Le I13 ∧ St E w I13 Os)) ?restj11 ?waysj11
    case waysj11 =>
      refine WO.caseb ((decide ((w64 (p1 + s4)) < (p0.size : Int))) && (decide (s4 < p2))) (fun hc => ?_) (fun hc => ?_)
      · replace hr2 := cond_t hc hr2
        refine WO.reslot 21 rfl (show Value.bool ((decide ((w64 (p1 + s4)) < (p0.size : Int))) && (decide (s4 < p2))) = Value.bool true by rw [hc]) ?_
        refine WO.vals [(12, 22, (.func (.func g_p3) #[] k_p3.toArray)), (13, 23, (.string p0)), (14, 24, (.int .i64 p1)), (15, 25, (.int .i64 s4)), (16, 26, (.int .i64 (w64 (p1 + s4))))] (by kernel_rfl) (fun _ => by kernel_rfl) ?_
        obtain ⟨y15, hx_y15, hr2⟩ := bind_some hr2
        refine WO.indexStr rfl (by kernel_rfl) (by kernel_rfl) rfl rfl hx_y15 ?_
        obtain ⟨r21, hx_r16, hr2⟩ := bind_some hr2
        refine WO.callv rfl (by kernel_rfl) rfl (g := g_p3) (kk := k_p3) (args := [(.int .u8 y15)]) rfl (by kernel_rfl) hcall_p3 (h_p3 (F := []) hl3 hS7  hx_r16) ?_
        rintro _ w17 ⟨I18, rfl, hl19, hS20⟩
        refine ⟨_, rfl, trivial, ?_⟩
        refine WO.vals [(19, 29, (.bool r21))] (by kernel_rfl) (fun _ => by kernel_rfl) ?_
        have he := Option.some.inj hr2
        subst j11
        refine WO.weaken (fr' := [(0, (.string p0)), (1, (.int .i64 p1)), (2, (.int .i64 p2)), (3, (.func (.func g_p3) #[] k_p3.toArray)), (9, (.int .i64 s4)), (29, (.bool r21))]) (WO.meet ⟨I18, rfl, hl19, hS20⟩) (Sub.cons rfl (Sub.cons rfl (Sub.cons rfl (Sub.cons rfl (Sub.cons rfl (Sub.cons rfl Sub.nil))))))
      · replace hr2 := cond_f hc hr2
        refine WO.reslot 21 rfl (show Value.bool ((decide ((w64 (p1 + s4)) < (p0.size : Int))) && (decide (s4 < p2))) = Value.bool false by rw [hc]) ?_
        refine WO.pass rfl (by kernel_rfl) rfl ?_
        refine WO.pass rfl (by kernel_rfl) rfl ?_
        refine WO.pass rfl (by kernel_rfl) rfl ?_
        refine WO.pass rfl (by kernel_rfl) rfl ?_
        refine WO.pass rfl (by kernel_rfl) rfl ?_
        refine WO.pass rfl (by kernel_rfl) rfl ?_
        refine WO.pass rfl (by kernel_rfl) rfl ?_
        refine WO.vals [(19, 29, (.bool false))] (by kernel_rfl) (fun _ => by kernel_rfl) ?_
        have he := Option.some.inj hr2
        subst j11
        refine WO.weaken (fr' := [(0, (.string p0)), (1, (.int .i64 p1)), (2, (.int .i64 p2)), (3, (.func (.func g_p3) #[] k_p3.toArray)), (9, (.int .i64 s4)), (29, (.bool false))]) (WO.meet ⟨I2, rfl, Mem.Le.refl _, hS7⟩) (Sub.cons rfl (Sub.cons rfl (Sub.cons rfl (Sub.cons rfl (Sub.cons rfl (Sub.cons rfl Sub.nil))))))
    case restj11 =>
      rintro _ w22 ⟨I13, rfl, hl14, hS23⟩
      refine WO.nil ?_
      refine En.next ?_
      refine W.cond (b := j11) rfl rfl (fun hc => ?_) (fun hc => ?_)
      · replace hr1 := cond_t hc hr1
        refine W.skip ?_
        refine En.next ?_
        refine W.block ?_
        refine W.region (l := [0, 1, 2]) (by kernel_rfl) ?_
        refine WO.vals [(0, 30, (.int .i64 s4)), (1, 31, (.int .i64 (w64 (s4 + 1)))), (2, 9, (.int .i64 (w64 (s4 + 1))))] (by kernel_rfl) (fun _ => by kernel_rfl) ?_
        refine WO.nil ?_
        refine En.in_normal ?_
        refine En.weaken (fr' := [(0, (.string p0)), (1, (.int .i64 p1)), (2, (.int .i64 p2)), (3, (.func (.func g_p3) #[] k_p3.toArray)), (9, (.int .i64 (w64 (s4 + 1))))]) (En.round ⟨(w64 (s4 + 1)), (Option.some.inj hr1).symm, I13, rfl, (hl3.trans hl14), hS23⟩) (Sub.cons rfl (Sub.cons rfl (Sub.cons rfl (Sub.cons rfl (Sub.cons rfl Sub.nil)))))
      · replace hr1 := cond_f hc hr1
        refine W.exit ?_
        refine En.nx_exit ?_
        refine En.rd_exit ?_
        have ht := hext1 _ (Option.some.inj hr1).symm
        subst t1
        refine En.in_hit ?_
        refine En.next ?_
        refine W.seq ?_
        refine W.region (l := [0, 1]) (by kernel_rfl) ?_
        refine WO.vals [(0, 32, (.int .i64 s4)), (1, 8, (.int .i64 s4))] (by kernel_rfl) (fun _ => by kernel_rfl) ?_
        refine WO.nil ?_
        refine En.next ?_
        refine W.ret ?_
        have he := Option.some.inj hr
        subst r
        exact En.ret1 rfl (.int .i64 s4) rfl ⟨I13, rfl, (hl3.trans hl14), hS23⟩
def lex_digit (p0 : Int) : Option Bool := some ((decide (p0 ≥ 48)) && (decide (p0 ≤ 57)))
set_option maxHeartbeats 1000000 in
theorem lex_digit_ok {E w : World} {I : Mem} {Os : List Mem} {p0 : Int} (hS : St E w I Os) {r : Bool} (hr : lex_digit p0 = some r) :
    Calls P 83 #[(.int .u8 p0)] w (fun e w' => ∃ (I' : Mem), e = .returned (.bool r) ∧ I.Le I' ∧ St E w' I' Os) := by
  refine calls_W (args := [(.int .u8 p0)]) (fn := Tryz.f83) rfl rfl rfl ?_
  unfold lex_digit at hr
  refine W.seq ?_
  refine W.region (l := [0]) (by kernel_rfl) ?_
  refine WO.vals [(0, 2, (.bool false))] (by kernel_rfl) (fun _ => by kernel_rfl) ?_
  refine WO.nil ?_
  refine En.next ?_
  refine W.seq ?_
  refine W.region (l := [0, 1, 2, 3, 4, 5, 6]) (by kernel_rfl) ?_
  refine WO.vals [(0, 3, (.int .u8 p0)), (1, 4, (.bool (decide (p0 ≥ 48)))), (2, 5, (.bool (decide (p0 ≥ 48))))] (by kernel_rfl) (fun _ => by kernel_rfl) ?_
  refine WO.join (l1 := [3, 4, 5]) (l2 := [6]) (J := fun frx wx => frx = [(8, (.bool ((decide (p0 ≥ 48)) && (decide (p0 ≤ 57)))))] ∧ w = wx) ?restm1 ?waysm1
  case waysm1 =>
    refine WO.caseb (decide (p0 ≥ 48)) (fun hc => ?_) (fun hc => ?_)
    · skip
      refine WO.reslot 5 rfl (show Value.bool (decide (p0 ≥ 48)) = Value.bool true by rw [hc]) ?_
      refine WO.vals [(3, 6, (.int .u8 p0)), (4, 7, (.bool (decide (p0 ≤ 57)))), (5, 8, (.bool (decide (p0 ≤ 57))))] (by kernel_rfl) (fun _ => by kernel_rfl) ?_
      refine WO.weaken (fr' := [(8, (.bool ((decide (p0 ≥ 48)) && (decide (p0 ≤ 57)))))]) (WO.meet ⟨rfl, rfl⟩) (Sub.cons (by rw [hc]; rfl) Sub.nil)
    · skip
      refine WO.reslot 5 rfl (show Value.bool (decide (p0 ≥ 48)) = Value.bool false by rw [hc]) ?_
      refine WO.pass rfl (by kernel_rfl) rfl ?_
      refine WO.pass rfl (by kernel_rfl) rfl ?_
      refine WO.vals [(5, 8, (.bool false))] (by kernel_rfl) (fun _ => by kernel_rfl) ?_
      refine WO.weaken (fr' := [(8, (.bool ((decide (p0 ≥ 48)) && (decide (p0 ≤ 57)))))]) (WO.meet ⟨rfl, rfl⟩) (Sub.cons (by rw [hc]; rfl) Sub.nil)
  case restm1 =>
    rintro _ _ ⟨rfl, rfl⟩
    refine WO.vals [(6, 2, (.bool ((decide (p0 ≥ 48)) && (decide (p0 ≤ 57)))))] (by kernel_rfl) (fun _ => by kernel_rfl) ?_
    refine WO.nil ?_
    refine En.next ?_
    refine W.ret ?_
    have he := Option.some.inj hr
    subst r
    exact En.ret1 rfl (.bool ((decide (p0 ≥ 48)) && (decide (p0 ≤ 57)))) rfl ⟨I, rfl, Mem.Le.refl _, hS⟩
def lex_one_1 (p0 : Int) : Option Bool := (lex_small p0).bind (fun (r6 : Bool) => ((bif r6 then some true else (lex_digit p0).bind (fun (r16 : Bool) => some r16))).bind (fun (j7 : Bool) => some (j7 || (p0 == 95))))
set_option maxHeartbeats 1000000 in
theorem lex_one_1_ok {E w : World} {I : Mem} {Os : List Mem} {p0 : Int} (hS : St E w I Os) {r : Bool} (hr : lex_one_1 p0 = some r) :
    Calls P 82 #[(.int .u8 p0)] w (fun e w' => ∃ (I' : Mem), e = .returned (.bool r) ∧ I.Le I' ∧ St E w' I' Os) := by
  refine calls_W (args := [(.int .u8 p0)]) (fn := Tryz.f82) rfl rfl rfl ?_
  unfold lex_one_1 at hr
  refine W.seq ?_
  refine W.region (l := [0]) (by kernel_rfl) ?_
  refine WO.vals [(0, 2, (.bool false))] (by kernel_rfl) (fun _ => by kernel_rfl) ?_
  refine WO.nil ?_
  refine En.next ?_
  refine W.seq ?_
  refine W.region (l := [0, 1, 2, 3, 4, 5, 6, 7, 8, 9, 10]) (by kernel_rfl) ?_
  refine WO.vals [(0, 3, (.int .u8 p0))] (by kernel_rfl) (fun _ => by kernel_rfl) ?_
  obtain ⟨r6, hx_r1, hr⟩ := bind_some hr
  refine WO.call rfl (by kernel_rfl) rfl (f := 80) (args := #[(.int .u8 p0)]) (by kernel_rfl) (lex_small_ok  hS hx_r1) ?_
  rintro _ w2 ⟨I3, rfl, hl4, hS5⟩
  refine ⟨_, rfl, trivial, ?_⟩
  refine WO.vals [(2, 5, (.bool r6))] (by kernel_rfl) (fun _ => by kernel_rfl) ?_
  obtain ⟨j7, hr1, hr⟩ := bind_some hr
  refine WO.join (l1 := [3, 4, 5]) (l2 := [6, 7, 8, 9, 10]) (J := (fun fr w => ∃ (I9 : Mem), fr = [(0, (.int .u8 p0)), (8, (.bool j7))] ∧ I3.Le I9 ∧ St E w I9 Os)) ?restj7 ?waysj7
  case waysj7 =>
    refine WO.caseb r6 (fun hc => ?_) (fun hc => ?_)
    · replace hr1 := cond_t hc hr1
      refine WO.reslot 5 rfl (show Value.bool r6 = Value.bool true by rw [hc]) ?_
      refine WO.pass rfl (by kernel_rfl) rfl ?_
      refine WO.pass rfl (by kernel_rfl) rfl ?_
      refine WO.vals [(5, 8, (.bool true))] (by kernel_rfl) (fun _ => by kernel_rfl) ?_
      have he := Option.some.inj hr1
      subst j7
      refine WO.weaken (fr' := [(0, (.int .u8 p0)), (8, (.bool true))]) (WO.meet ⟨I3, rfl, Mem.Le.refl _, hS5⟩) (Sub.cons rfl (Sub.cons rfl Sub.nil))
    · replace hr1 := cond_f hc hr1
      refine WO.reslot 5 rfl (show Value.bool r6 = Value.bool false by rw [hc]) ?_
      refine WO.vals [(3, 6, (.int .u8 p0))] (by kernel_rfl) (fun _ => by kernel_rfl) ?_
      obtain ⟨r16, hx_r11, hr1⟩ := bind_some hr1
      refine WO.call rfl (by kernel_rfl) rfl (f := 83) (args := #[(.int .u8 p0)]) (by kernel_rfl) (lex_digit_ok  hS5 hx_r11) ?_
      rintro _ w12 ⟨I13, rfl, hl14, hS15⟩
      refine ⟨_, rfl, trivial, ?_⟩
      refine WO.vals [(5, 8, (.bool r16))] (by kernel_rfl) (fun _ => by kernel_rfl) ?_
      have he := Option.some.inj hr1
      subst j7
      refine WO.weaken (fr' := [(0, (.int .u8 p0)), (8, (.bool r16))]) (WO.meet ⟨I13, rfl, hl14, hS15⟩) (Sub.cons rfl (Sub.cons rfl Sub.nil))
  case restj7 =>
    rintro _ w17 ⟨I9, rfl, hl10, hS18⟩
    refine WO.vals [(6, 9, (.bool j7))] (by kernel_rfl) (fun _ => by kernel_rfl) ?_
    refine WO.join (l1 := [7, 8, 9]) (l2 := [10]) (J := fun frx wx => frx = [(12, (.bool (j7 || (p0 == 95))))] ∧ w17 = wx) ?restm19 ?waysm19
    case waysm19 =>
      refine WO.caseb j7 (fun hc => ?_) (fun hc => ?_)
      · skip
        refine WO.reslot 9 rfl (show Value.bool j7 = Value.bool true by rw [hc]) ?_
        refine WO.pass rfl (by kernel_rfl) rfl ?_
        refine WO.pass rfl (by kernel_rfl) rfl ?_
        refine WO.vals [(9, 12, (.bool true))] (by kernel_rfl) (fun _ => by kernel_rfl) ?_
        refine WO.weaken (fr' := [(12, (.bool (j7 || (p0 == 95))))]) (WO.meet ⟨rfl, rfl⟩) (Sub.cons (by rw [hc]; rfl) Sub.nil)
      · skip
        refine WO.reslot 9 rfl (show Value.bool j7 = Value.bool false by rw [hc]) ?_
        refine WO.vals [(7, 10, (.int .u8 p0)), (8, 11, (.bool (p0 == 95))), (9, 12, (.bool (p0 == 95)))] (by kernel_rfl) (fun _ => by kernel_rfl) ?_
        refine WO.weaken (fr' := [(12, (.bool (j7 || (p0 == 95))))]) (WO.meet ⟨rfl, rfl⟩) (Sub.cons (by rw [hc]; rfl) Sub.nil)
    case restm19 =>
      rintro _ _ ⟨rfl, rfl⟩
      refine WO.vals [(10, 2, (.bool (j7 || (p0 == 95))))] (by kernel_rfl) (fun _ => by kernel_rfl) ?_
      refine WO.nil ?_
      refine En.next ?_
      refine W.ret ?_
      have he := Option.some.inj hr
      subst r
      exact En.ret1 rfl (.bool (j7 || (p0 == 95))) rfl ⟨I9, rfl, (hl4.trans hl10), hS18⟩
def lex_capital (p0 : Int) : Option Bool := some ((decide (p0 ≥ 65)) && (decide (p0 ≤ 90)))
set_option maxHeartbeats 1000000 in
theorem lex_capital_ok {E w : World} {I : Mem} {Os : List Mem} {p0 : Int} (hS : St E w I Os) {r : Bool} (hr : lex_capital p0 = some r) :
    Calls P 85 #[(.int .u8 p0)] w (fun e w' => ∃ (I' : Mem), e = .returned (.bool r) ∧ I.Le I' ∧ St E w' I' Os) := by
  refine calls_W (args := [(.int .u8 p0)]) (fn := Tryz.f85) rfl rfl rfl ?_
  unfold lex_capital at hr
  refine W.seq ?_
  refine W.region (l := [0]) (by kernel_rfl) ?_
  refine WO.vals [(0, 2, (.bool false))] (by kernel_rfl) (fun _ => by kernel_rfl) ?_
  refine WO.nil ?_
  refine En.next ?_
  refine W.seq ?_
  refine W.region (l := [0, 1, 2, 3, 4, 5, 6]) (by kernel_rfl) ?_
  refine WO.vals [(0, 3, (.int .u8 p0)), (1, 4, (.bool (decide (p0 ≥ 65)))), (2, 5, (.bool (decide (p0 ≥ 65))))] (by kernel_rfl) (fun _ => by kernel_rfl) ?_
  refine WO.join (l1 := [3, 4, 5]) (l2 := [6]) (J := fun frx wx => frx = [(8, (.bool ((decide (p0 ≥ 65)) && (decide (p0 ≤ 90)))))] ∧ w = wx) ?restm1 ?waysm1
  case waysm1 =>
    refine WO.caseb (decide (p0 ≥ 65)) (fun hc => ?_) (fun hc => ?_)
    · skip
      refine WO.reslot 5 rfl (show Value.bool (decide (p0 ≥ 65)) = Value.bool true by rw [hc]) ?_
      refine WO.vals [(3, 6, (.int .u8 p0)), (4, 7, (.bool (decide (p0 ≤ 90)))), (5, 8, (.bool (decide (p0 ≤ 90))))] (by kernel_rfl) (fun _ => by kernel_rfl) ?_
      refine WO.weaken (fr' := [(8, (.bool ((decide (p0 ≥ 65)) && (decide (p0 ≤ 90)))))]) (WO.meet ⟨rfl, rfl⟩) (Sub.cons (by rw [hc]; rfl) Sub.nil)
    · skip
      refine WO.reslot 5 rfl (show Value.bool (decide (p0 ≥ 65)) = Value.bool false by rw [hc]) ?_
      refine WO.pass rfl (by kernel_rfl) rfl ?_
      refine WO.pass rfl (by kernel_rfl) rfl ?_
      refine WO.vals [(5, 8, (.bool false))] (by kernel_rfl) (fun _ => by kernel_rfl) ?_
      refine WO.weaken (fr' := [(8, (.bool ((decide (p0 ≥ 65)) && (decide (p0 ≤ 90)))))]) (WO.meet ⟨rfl, rfl⟩) (Sub.cons (by rw [hc]; rfl) Sub.nil)
  case restm1 =>
    rintro _ _ ⟨rfl, rfl⟩
    refine WO.vals [(6, 2, (.bool ((decide (p0 ≥ 65)) && (decide (p0 ≤ 90)))))] (by kernel_rfl) (fun _ => by kernel_rfl) ?_
    refine WO.nil ?_
    refine En.next ?_
    refine W.ret ?_
    have he := Option.some.inj hr
    subst r
    exact En.ret1 rfl (.bool ((decide (p0 ≥ 65)) && (decide (p0 ≤ 90)))) rfl ⟨I, rfl, Mem.Le.refl _, hS⟩
def lex_glued (p0 : Int) : Option Bool := (lex_small p0).bind (fun (r6 : Bool) => ((bif r6 then some true else (lex_capital p0).bind (fun (r16 : Bool) => some r16))).bind (fun (j7 : Bool) => ((bif j7 then some true else (lex_digit p0).bind (fun (r28 : Bool) => some r28))).bind (fun (j19 : Bool) => some ((j19 || (p0 == 95)) || (p0 == 36)))))
set_option maxHeartbeats 1000000 in
theorem lex_glued_ok {E w : World} {I : Mem} {Os : List Mem} {p0 : Int} (hS : St E w I Os) {r : Bool} (hr : lex_glued p0 = some r) :
    Calls P 102 #[(.int .u8 p0)] w (fun e w' => ∃ (I' : Mem), e = .returned (.bool r) ∧ I.Le I' ∧ St E w' I' Os) := by
  refine calls_W (args := [(.int .u8 p0)]) (fn := Tryz.f102) rfl rfl rfl ?_
  unfold lex_glued at hr
  refine W.seq ?_
  refine W.region (l := [0]) (by kernel_rfl) ?_
  refine WO.vals [(0, 2, (.bool false))] (by kernel_rfl) (fun _ => by kernel_rfl) ?_
  refine WO.nil ?_
  refine En.next ?_
  refine W.seq ?_
  refine W.region (l := [0, 1, 2, 3, 4, 5, 6, 7, 8, 9, 10, 11, 12, 13, 14, 15, 16, 17, 18]) (by kernel_rfl) ?_
  refine WO.vals [(0, 3, (.int .u8 p0))] (by kernel_rfl) (fun _ => by kernel_rfl) ?_
  obtain ⟨r6, hx_r1, hr⟩ := bind_some hr
  refine WO.call rfl (by kernel_rfl) rfl (f := 80) (args := #[(.int .u8 p0)]) (by kernel_rfl) (lex_small_ok  hS hx_r1) ?_
  rintro _ w2 ⟨I3, rfl, hl4, hS5⟩
  refine ⟨_, rfl, trivial, ?_⟩
  refine WO.vals [(2, 5, (.bool r6))] (by kernel_rfl) (fun _ => by kernel_rfl) ?_
  obtain ⟨j7, hr1, hr⟩ := bind_some hr
  refine WO.join (l1 := [3, 4, 5]) (l2 := [6, 7, 8, 9, 10, 11, 12, 13, 14, 15, 16, 17, 18]) (J := (fun fr w => ∃ (I9 : Mem), fr = [(0, (.int .u8 p0)), (8, (.bool j7))] ∧ I3.Le I9 ∧ St E w I9 Os)) ?restj7 ?waysj7
  case waysj7 =>
    refine WO.caseb r6 (fun hc => ?_) (fun hc => ?_)
    · replace hr1 := cond_t hc hr1
      refine WO.reslot 5 rfl (show Value.bool r6 = Value.bool true by rw [hc]) ?_
      refine WO.pass rfl (by kernel_rfl) rfl ?_
      refine WO.pass rfl (by kernel_rfl) rfl ?_
      refine WO.vals [(5, 8, (.bool true))] (by kernel_rfl) (fun _ => by kernel_rfl) ?_
      have he := Option.some.inj hr1
      subst j7
      refine WO.weaken (fr' := [(0, (.int .u8 p0)), (8, (.bool true))]) (WO.meet ⟨I3, rfl, Mem.Le.refl _, hS5⟩) (Sub.cons rfl (Sub.cons rfl Sub.nil))
    · replace hr1 := cond_f hc hr1
      refine WO.reslot 5 rfl (show Value.bool r6 = Value.bool false by rw [hc]) ?_
      refine WO.vals [(3, 6, (.int .u8 p0))] (by kernel_rfl) (fun _ => by kernel_rfl) ?_
      obtain ⟨r16, hx_r11, hr1⟩ := bind_some hr1
      refine WO.call rfl (by kernel_rfl) rfl (f := 85) (args := #[(.int .u8 p0)]) (by kernel_rfl) (lex_capital_ok  hS5 hx_r11) ?_
      rintro _ w12 ⟨I13, rfl, hl14, hS15⟩
      refine ⟨_, rfl, trivial, ?_⟩
      refine WO.vals [(5, 8, (.bool r16))] (by kernel_rfl) (fun _ => by kernel_rfl) ?_
      have he := Option.some.inj hr1
      subst j7
      refine WO.weaken (fr' := [(0, (.int .u8 p0)), (8, (.bool r16))]) (WO.meet ⟨I13, rfl, hl14, hS15⟩) (Sub.cons rfl (Sub.cons rfl Sub.nil))
  case restj7 =>
    rintro _ w17 ⟨I9, rfl, hl10, hS18⟩
    refine WO.vals [(6, 9, (.bool j7))] (by kernel_rfl) (fun _ => by kernel_rfl) ?_
    obtain ⟨j19, hr1, hr⟩ := bind_some hr
    refine WO.join (l1 := [7, 8, 9]) (l2 := [10, 11, 12, 13, 14, 15, 16, 17, 18]) (J := (fun fr w => ∃ (I21 : Mem), fr = [(0, (.int .u8 p0)), (12, (.bool j19))] ∧ I9.Le I21 ∧ St E w I21 Os)) ?restj19 ?waysj19
    case waysj19 =>
      refine WO.caseb j7 (fun hc => ?_) (fun hc => ?_)
      · replace hr1 := cond_t hc hr1
        refine WO.reslot 9 rfl (show Value.bool j7 = Value.bool true by rw [hc]) ?_
        refine WO.pass rfl (by kernel_rfl) rfl ?_
        refine WO.pass rfl (by kernel_rfl) rfl ?_
        refine WO.vals [(9, 12, (.bool true))] (by kernel_rfl) (fun _ => by kernel_rfl) ?_
        have he := Option.some.inj hr1
        subst j19
        refine WO.weaken (fr' := [(0, (.int .u8 p0)), (12, (.bool true))]) (WO.meet ⟨I9, rfl, Mem.Le.refl _, hS18⟩) (Sub.cons rfl (Sub.cons rfl Sub.nil))
      · replace hr1 := cond_f hc hr1
        refine WO.reslot 9 rfl (show Value.bool j7 = Value.bool false by rw [hc]) ?_
        refine WO.vals [(7, 10, (.int .u8 p0))] (by kernel_rfl) (fun _ => by kernel_rfl) ?_
        obtain ⟨r28, hx_r23, hr1⟩ := bind_some hr1
        refine WO.call rfl (by kernel_rfl) rfl (f := 83) (args := #[(.int .u8 p0)]) (by kernel_rfl) (lex_digit_ok  hS18 hx_r23) ?_
        rintro _ w24 ⟨I25, rfl, hl26, hS27⟩
        refine ⟨_, rfl, trivial, ?_⟩
        refine WO.vals [(9, 12, (.bool r28))] (by kernel_rfl) (fun _ => by kernel_rfl) ?_
        have he := Option.some.inj hr1
        subst j19
        refine WO.weaken (fr' := [(0, (.int .u8 p0)), (12, (.bool r28))]) (WO.meet ⟨I25, rfl, hl26, hS27⟩) (Sub.cons rfl (Sub.cons rfl Sub.nil))
    case restj19 =>
      rintro _ w29 ⟨I21, rfl, hl22, hS30⟩
      refine WO.vals [(10, 13, (.bool j19))] (by kernel_rfl) (fun _ => by kernel_rfl) ?_
      refine WO.join (l1 := [11, 12, 13]) (l2 := [14, 15, 16, 17, 18]) (J := fun frx wx => frx = [(16, (.bool (j19 || (p0 == 95)))), (0, (.int .u8 p0))] ∧ w29 = wx) ?restm31 ?waysm31
      case waysm31 =>
        refine WO.caseb j19 (fun hc => ?_) (fun hc => ?_)
        · skip
          refine WO.reslot 13 rfl (show Value.bool j19 = Value.bool true by rw [hc]) ?_
          refine WO.pass rfl (by kernel_rfl) rfl ?_
          refine WO.pass rfl (by kernel_rfl) rfl ?_
          refine WO.vals [(13, 16, (.bool true))] (by kernel_rfl) (fun _ => by kernel_rfl) ?_
          refine WO.weaken (fr' := [(16, (.bool (j19 || (p0 == 95)))), (0, (.int .u8 p0))]) (WO.meet ⟨rfl, rfl⟩) (Sub.cons (by rw [hc]; rfl) (Sub.cons rfl Sub.nil))
        · skip
          refine WO.reslot 13 rfl (show Value.bool j19 = Value.bool false by rw [hc]) ?_
          refine WO.vals [(11, 14, (.int .u8 p0)), (12, 15, (.bool (p0 == 95))), (13, 16, (.bool (p0 == 95)))] (by kernel_rfl) (fun _ => by kernel_rfl) ?_
          refine WO.weaken (fr' := [(16, (.bool (j19 || (p0 == 95)))), (0, (.int .u8 p0))]) (WO.meet ⟨rfl, rfl⟩) (Sub.cons (by rw [hc]; rfl) (Sub.cons rfl Sub.nil))
      case restm31 =>
        rintro _ _ ⟨rfl, rfl⟩
        refine WO.vals [(14, 17, (.bool (j19 || (p0 == 95))))] (by kernel_rfl) (fun _ => by kernel_rfl) ?_
        refine WO.join (l1 := [15, 16, 17]) (l2 := [18]) (J := fun frx wx => frx = [(20, (.bool ((j19 || (p0 == 95)) || (p0 == 36))))] ∧ w29 = wx) ?restm33 ?waysm33
        case waysm33 =>
          refine WO.caseb (j19 || (p0 == 95)) (fun hc => ?_) (fun hc => ?_)
          · skip
            refine WO.reslot 17 rfl (show Value.bool (j19 || (p0 == 95)) = Value.bool true by rw [hc]) ?_
            refine WO.pass rfl (by kernel_rfl) rfl ?_
            refine WO.pass rfl (by kernel_rfl) rfl ?_
            refine WO.vals [(17, 20, (.bool true))] (by kernel_rfl) (fun _ => by kernel_rfl) ?_
            refine WO.weaken (fr' := [(20, (.bool ((j19 || (p0 == 95)) || (p0 == 36))))]) (WO.meet ⟨rfl, rfl⟩) (Sub.cons (by rw [hc]; rfl) Sub.nil)
          · skip
            refine WO.reslot 17 rfl (show Value.bool (j19 || (p0 == 95)) = Value.bool false by rw [hc]) ?_
            refine WO.vals [(15, 18, (.int .u8 p0)), (16, 19, (.bool (p0 == 36))), (17, 20, (.bool (p0 == 36)))] (by kernel_rfl) (fun _ => by kernel_rfl) ?_
            refine WO.weaken (fr' := [(20, (.bool ((j19 || (p0 == 95)) || (p0 == 36))))]) (WO.meet ⟨rfl, rfl⟩) (Sub.cons (by rw [hc]; rfl) Sub.nil)
        case restm33 =>
          rintro _ _ ⟨rfl, rfl⟩
          refine WO.vals [(18, 2, (.bool ((j19 || (p0 == 95)) || (p0 == 36))))] (by kernel_rfl) (fun _ => by kernel_rfl) ?_
          refine WO.nil ?_
          refine En.next ?_
          refine W.ret ?_
          have he := Option.some.inj hr
          subst r
          exact En.ret1 rfl (.bool ((j19 || (p0 == 95)) || (p0 == 36))) rfl ⟨I21, rfl, ((hl4.trans hl10).trans hl22), hS30⟩
def lex_alone (p0 : ByteArray) (p1 : Int) : Option Int := ((bif (decide (p1 < (p0.size : Int))) then (sAt p0 p1).bind (fun (y5 : Int) => (lex_glued y5).bind (fun (r11 : Bool) => some r11)) else some false)).bind (fun (j1 : Bool) => (bif j1 then some 0 else some p1))
set_option maxHeartbeats 1000000 in
theorem lex_alone_ok {E w : World} {I : Mem} {Os : List Mem} {p0 : ByteArray} {p1 : Int} (hS : St E w I Os) {r : Int} (hr : lex_alone p0 p1 = some r) :
    Calls P 84 #[(.string p0), (.int .i64 p1)] w (fun e w' => ∃ (I' : Mem), e = .returned (.int .i64 r) ∧ I.Le I' ∧ St E w' I' Os) := by
  refine calls_W (args := [(.string p0), (.int .i64 p1)]) (fn := Tryz.f84) rfl rfl rfl ?_
  unfold lex_alone at hr
  refine W.seq ?_
  refine W.region (l := [0]) (by kernel_rfl) ?_
  refine WO.vals [(0, 4, (.int .i64 0))] (by kernel_rfl) (fun _ => by kernel_rfl) ?_
  refine WO.nil ?_
  refine En.next ?_
  refine W.seq ?_
  refine W.seq ?_
  refine W.region (l := [0, 1, 2, 3, 4, 5, 6, 7, 8, 9]) (by kernel_rfl) ?_
  refine WO.vals [(0, 5, (.int .i64 p1)), (1, 6, (.string p0)), (2, 7, (.int .i64 (p0.size : Int))), (3, 8, (.bool (decide (p1 < (p0.size : Int))))), (4, 9, (.bool (decide (p1 < (p0.size : Int)))))] (by kernel_rfl) (fun _ => by kernel_rfl) ?_
  obtain ⟨j1, hr1, hr⟩ := bind_some hr
  refine WO.join (l1 := [5, 6, 7, 8, 9]) (l2 := []) (J := (fun fr w => ∃ (I3 : Mem), fr = [(1, (.int .i64 p1)), (14, (.bool j1))] ∧ I.Le I3 ∧ St E w I3 Os)) ?restj1 ?waysj1
  case waysj1 =>
    refine WO.caseb (decide (p1 < (p0.size : Int))) (fun hc => ?_) (fun hc => ?_)
    · replace hr1 := cond_t hc hr1
      refine WO.reslot 9 rfl (show Value.bool (decide (p1 < (p0.size : Int))) = Value.bool true by rw [hc]) ?_
      refine WO.vals [(5, 10, (.string p0)), (6, 11, (.int .i64 p1))] (by kernel_rfl) (fun _ => by kernel_rfl) ?_
      obtain ⟨y5, hx_y5, hr1⟩ := bind_some hr1
      refine WO.indexStr rfl (by kernel_rfl) (by kernel_rfl) rfl rfl hx_y5 ?_
      obtain ⟨r11, hx_r6, hr1⟩ := bind_some hr1
      refine WO.call rfl (by kernel_rfl) rfl (f := 102) (args := #[(.int .u8 y5)]) (by kernel_rfl) (lex_glued_ok  hS hx_r6) ?_
      rintro _ w7 ⟨I8, rfl, hl9, hS10⟩
      refine ⟨_, rfl, trivial, ?_⟩
      refine WO.vals [(9, 14, (.bool r11))] (by kernel_rfl) (fun _ => by kernel_rfl) ?_
      have he := Option.some.inj hr1
      subst j1
      refine WO.weaken (fr' := [(1, (.int .i64 p1)), (14, (.bool r11))]) (WO.meet ⟨I8, rfl, hl9, hS10⟩) (Sub.cons rfl (Sub.cons rfl Sub.nil))
    · replace hr1 := cond_f hc hr1
      refine WO.reslot 9 rfl (show Value.bool (decide (p1 < (p0.size : Int))) = Value.bool false by rw [hc]) ?_
      refine WO.pass rfl (by kernel_rfl) rfl ?_
      refine WO.pass rfl (by kernel_rfl) rfl ?_
      refine WO.pass rfl (by kernel_rfl) rfl ?_
      refine WO.pass rfl (by kernel_rfl) rfl ?_
      refine WO.vals [(9, 14, (.bool false))] (by kernel_rfl) (fun _ => by kernel_rfl) ?_
      have he := Option.some.inj hr1
      subst j1
      refine WO.weaken (fr' := [(1, (.int .i64 p1)), (14, (.bool false))]) (WO.meet ⟨I, rfl, Mem.Le.refl _, hS⟩) (Sub.cons rfl (Sub.cons rfl Sub.nil))
  case restj1 =>
    rintro _ w12 ⟨I3, rfl, hl4, hS13⟩
    refine WO.nil ?_
    refine En.next ?_
    refine W.cond (b := j1) rfl rfl (fun hc => ?_) (fun hc => ?_)
    · replace hr := cond_t hc hr
      refine W.seq ?_
      refine W.region (l := [0]) (by kernel_rfl) ?_
      refine WO.vals [(0, 4, (.int .i64 0))] (by kernel_rfl) (fun _ => by kernel_rfl) ?_
      refine WO.nil ?_
      refine En.next ?_
      refine W.ret ?_
      refine En.nx_ret ?_
      have he := Option.some.inj hr
      subst r
      exact En.ret1 rfl (.int .i64 0) rfl ⟨I3, rfl, hl4, hS13⟩
    · replace hr := cond_f hc hr
      refine W.skip ?_
      refine En.next ?_
      refine W.seq ?_
      refine W.region (l := [0, 1]) (by kernel_rfl) ?_
      refine WO.vals [(0, 15, (.int .i64 p1)), (1, 4, (.int .i64 p1))] (by kernel_rfl) (fun _ => by kernel_rfl) ?_
      refine WO.nil ?_
      refine En.next ?_
      refine W.ret ?_
      have he := Option.some.inj hr
      subst r
      exact En.ret1 rfl (.int .i64 p1) rfl ⟨I3, rfl, hl4, hS13⟩
def lex_one_2 (p0 : Int) : Option Bool := (lex_capital p0).bind (fun (r6 : Bool) => some (r6 || (p0 == 95)))
set_option maxHeartbeats 1000000 in
theorem lex_one_2_ok {E w : World} {I : Mem} {Os : List Mem} {p0 : Int} (hS : St E w I Os) {r : Bool} (hr : lex_one_2 p0 = some r) :
    Calls P 86 #[(.int .u8 p0)] w (fun e w' => ∃ (I' : Mem), e = .returned (.bool r) ∧ I.Le I' ∧ St E w' I' Os) := by
  refine calls_W (args := [(.int .u8 p0)]) (fn := Tryz.f86) rfl rfl rfl ?_
  unfold lex_one_2 at hr
  refine W.seq ?_
  refine W.region (l := [0]) (by kernel_rfl) ?_
  refine WO.vals [(0, 2, (.bool false))] (by kernel_rfl) (fun _ => by kernel_rfl) ?_
  refine WO.nil ?_
  refine En.next ?_
  refine W.seq ?_
  refine W.region (l := [0, 1, 2, 3, 4, 5, 6]) (by kernel_rfl) ?_
  refine WO.vals [(0, 3, (.int .u8 p0))] (by kernel_rfl) (fun _ => by kernel_rfl) ?_
  obtain ⟨r6, hx_r1, hr⟩ := bind_some hr
  refine WO.call rfl (by kernel_rfl) rfl (f := 85) (args := #[(.int .u8 p0)]) (by kernel_rfl) (lex_capital_ok  hS hx_r1) ?_
  rintro _ w2 ⟨I3, rfl, hl4, hS5⟩
  refine ⟨_, rfl, trivial, ?_⟩
  refine WO.vals [(2, 5, (.bool r6))] (by kernel_rfl) (fun _ => by kernel_rfl) ?_
  refine WO.join (l1 := [3, 4, 5]) (l2 := [6]) (J := fun frx wx => frx = [(8, (.bool (r6 || (p0 == 95))))] ∧ w2 = wx) ?restm7 ?waysm7
  case waysm7 =>
    refine WO.caseb r6 (fun hc => ?_) (fun hc => ?_)
    · skip
      refine WO.reslot 5 rfl (show Value.bool r6 = Value.bool true by rw [hc]) ?_
      refine WO.pass rfl (by kernel_rfl) rfl ?_
      refine WO.pass rfl (by kernel_rfl) rfl ?_
      refine WO.vals [(5, 8, (.bool true))] (by kernel_rfl) (fun _ => by kernel_rfl) ?_
      refine WO.weaken (fr' := [(8, (.bool (r6 || (p0 == 95))))]) (WO.meet ⟨rfl, rfl⟩) (Sub.cons (by rw [hc]; rfl) Sub.nil)
    · skip
      refine WO.reslot 5 rfl (show Value.bool r6 = Value.bool false by rw [hc]) ?_
      refine WO.vals [(3, 6, (.int .u8 p0)), (4, 7, (.bool (p0 == 95))), (5, 8, (.bool (p0 == 95)))] (by kernel_rfl) (fun _ => by kernel_rfl) ?_
      refine WO.weaken (fr' := [(8, (.bool (r6 || (p0 == 95))))]) (WO.meet ⟨rfl, rfl⟩) (Sub.cons (by rw [hc]; rfl) Sub.nil)
  case restm7 =>
    rintro _ _ ⟨rfl, rfl⟩
    refine WO.vals [(6, 2, (.bool (r6 || (p0 == 95))))] (by kernel_rfl) (fun _ => by kernel_rfl) ?_
    refine WO.nil ?_
    refine En.next ?_
    refine W.ret ?_
    have he := Option.some.inj hr
    subst r
    exact En.ret1 rfl (.bool (r6 || (p0 == 95))) rfl ⟨I3, rfl, hl4, hS5⟩
noncomputable def lex_quoted (p0 : ByteArray) : Option Int := (loopO (fun (s4 : Int) => (bif (decide (s4 < (p0.size : Int))) then (sAt p0 s4).bind (fun (y9 : Int) => ((bif (decide (y9 < 32)) then some true else (sAt p0 s4).bind (fun (y14 : Int) => some (decide (y14 > 126))))).bind (fun (j10 : Bool) => (bif j10 then some (.inr (.inl 0)) else (sAt p0 s4).bind (fun (y19 : Int) => ((bif (y19 != 39) then some (.inl s4) else ((bif (decide ((w64 (s4 + 1)) < (p0.size : Int))) then (sAt p0 (w64 (s4 + 1))).bind (fun (y29 : Int) => some (y29 == 39)) else some false)).bind (fun (j25 : Bool) => (bif j25 then some (.inl (w64 (s4 + 1))) else some (.inr (w64 (s4 + 1))))))).bind (fun (t : Int ⊕ Int) => match t with | (.inl s24) => some (.inl (w64 (s24 + 1))) | (.inr s33) => some (.inr (.inl s33))))))) else some (.inr (.inr ())))) 1).bind (fun (t : Int ⊕ Unit) => match t with | (.inl s18) => some s18 | (.inr ()) => some 0)
set_option maxHeartbeats 1000000 in
theorem lex_quoted_ok {E w : World} {I : Mem} {Os : List Mem} {p0 : ByteArray} (hS : St E w I Os) {r : Int} (hr : lex_quoted p0 = some r) :
    Calls P 87 #[(.string p0)] w (fun e w' => ∃ (I' : Mem), e = .returned (.int .i64 r) ∧ I.Le I' ∧ St E w' I' Os) := by
  refine calls_W (args := [(.string p0)]) (fn := Tryz.f87) rfl rfl rfl ?_
  unfold lex_quoted at hr
  refine W.seq ?_
  refine W.region (l := [0]) (by kernel_rfl) ?_
  refine WO.vals [(0, 2, (.int .i64 0))] (by kernel_rfl) (fun _ => by kernel_rfl) ?_
  refine WO.nil ?_
  refine En.next ?_
  refine W.seq ?_
  refine W.seq ?_
  refine W.region (l := [0]) (by kernel_rfl) ?_
  refine WO.vals [(0, 3, (.int .i64 1))] (by kernel_rfl) (fun _ => by kernel_rfl) ?_
  refine WO.nil ?_
  refine En.next ?_
  refine W.block ?_
  obtain ⟨t1, hloop5, hr⟩ := bind_some hr
  refine W.weaken (fr' := [(0, (.string p0)), (3, (.int .i64 1))]) (W.loopO hloop5 (fun (s4 : Int) fr w => ∃ (I2 : Mem), fr = [(0, (.string p0)), (3, (.int .i64 s4))] ∧ I.Le I2 ∧ St E w I2 Os) ⟨I, rfl, Mem.Le.refl _, hS⟩ ?_) (Sub.cons rfl (Sub.cons rfl Sub.nil))
  rintro s4 _ w6 ⟨I2, rfl, hl3, hS7⟩ x8 hr1 hext1
  refine W.seq ?_
  refine W.seq ?_
  refine W.region (l := [0, 1, 2, 3]) (by kernel_rfl) ?_
  refine WO.vals [(0, 4, (.int .i64 s4)), (1, 5, (.string p0)), (2, 6, (.int .i64 (p0.size : Int))), (3, 7, (.bool (decide (s4 < (p0.size : Int)))))] (by kernel_rfl) (fun _ => by kernel_rfl) ?_
  refine WO.nil ?_
  refine En.next ?_
  refine W.cond (b := (decide (s4 < (p0.size : Int)))) rfl rfl (fun hc => ?_) (fun hc => ?_)
  · replace hr1 := cond_t hc hr1
    refine W.skip ?_
    refine En.next ?_
    refine W.seq ?_
    refine W.block ?_
    refine W.block ?_
    refine W.seq ?_
    refine W.region (l := [0, 1, 2, 3, 4, 5, 6, 7, 8, 9, 10]) (by kernel_rfl) ?_
    refine WO.vals [(0, 13, (.string p0)), (1, 14, (.int .i64 s4))] (by kernel_rfl) (fun _ => by kernel_rfl) ?_
    obtain ⟨y9, hx_y9, hr1⟩ := bind_some hr1
    refine WO.indexStr rfl (by kernel_rfl) (by kernel_rfl) rfl rfl hx_y9 ?_
    refine WO.vals [(3, 16, (.bool (decide (y9 < 32)))), (4, 17, (.bool (decide (y9 < 32))))] (by kernel_rfl) (fun _ => by kernel_rfl) ?_
    obtain ⟨j10, hr2, hr1⟩ := bind_some hr1
    refine WO.join (l1 := [5, 6, 7, 8, 9]) (l2 := [10]) (J := (fun fr w => ∃ (I12 : Mem), fr = [(0, (.string p0)), (3, (.int .i64 s4)), (22, (.bool j10))] ∧ I2.Le I12 ∧ St E w I12 Os)) ?restj10 ?waysj10
    case waysj10 =>
      refine WO.caseb (decide (y9 < 32)) (fun hc => ?_) (fun hc => ?_)
      · replace hr2 := cond_t hc hr2
        refine WO.reslot 17 rfl (show Value.bool (decide (y9 < 32)) = Value.bool true by rw [hc]) ?_
        refine WO.pass rfl (by kernel_rfl) rfl ?_
        refine WO.pass rfl (by kernel_rfl) rfl ?_
        refine WO.pass rfl (by kernel_rfl) rfl ?_
        refine WO.pass rfl (by kernel_rfl) rfl ?_
        refine WO.vals [(9, 22, (.bool true))] (by kernel_rfl) (fun _ => by kernel_rfl) ?_
        have he := Option.some.inj hr2
        subst j10
        refine WO.weaken (fr' := [(0, (.string p0)), (3, (.int .i64 s4)), (22, (.bool true))]) (WO.meet ⟨I2, rfl, Mem.Le.refl _, hS7⟩) (Sub.cons rfl (Sub.cons rfl (Sub.cons rfl Sub.nil)))
      · replace hr2 := cond_f hc hr2
        refine WO.reslot 17 rfl (show Value.bool (decide (y9 < 32)) = Value.bool false by rw [hc]) ?_
        refine WO.vals [(5, 18, (.string p0)), (6, 19, (.int .i64 s4))] (by kernel_rfl) (fun _ => by kernel_rfl) ?_
        obtain ⟨y14, hx_y14, hr2⟩ := bind_some hr2
        refine WO.indexStr rfl (by kernel_rfl) (by kernel_rfl) rfl rfl hx_y14 ?_
        refine WO.vals [(8, 21, (.bool (decide (y14 > 126)))), (9, 22, (.bool (decide (y14 > 126))))] (by kernel_rfl) (fun _ => by kernel_rfl) ?_
        have he := Option.some.inj hr2
        subst j10
        refine WO.weaken (fr' := [(0, (.string p0)), (3, (.int .i64 s4)), (22, (.bool (decide (y14 > 126))))]) (WO.meet ⟨I2, rfl, Mem.Le.refl _, hS7⟩) (Sub.cons rfl (Sub.cons rfl (Sub.cons rfl Sub.nil)))
    case restj10 =>
      rintro _ w15 ⟨I12, rfl, hl13, hS16⟩
      refine WO.vals [(10, 12, (.bool j10))] (by kernel_rfl) (fun _ => by kernel_rfl) ?_
      refine WO.nil ?_
      refine En.next ?_
      refine W.cond (b := j10) rfl rfl (fun hc => ?_) (fun hc => ?_)
      · replace hr1 := cond_t hc hr1
        refine W.seq ?_
        refine W.region (l := [0]) (by kernel_rfl) ?_
        refine WO.vals [(0, 2, (.int .i64 0))] (by kernel_rfl) (fun _ => by kernel_rfl) ?_
        refine WO.nil ?_
        refine En.next ?_
        refine W.ret ?_
        refine En.in_ret ?_
        refine En.in_ret ?_
        refine En.nx_ret ?_
        refine En.rd_ret ?_
        have ht := hext1 _ (Option.some.inj hr1).symm
        subst t1
        refine En.in_ret ?_
        refine En.nx_ret ?_
        have he := Option.some.inj hr
        subst r
        exact En.ret1 rfl (.int .i64 0) rfl ⟨I12, rfl, (hl3.trans hl13), hS16⟩
      · replace hr1 := cond_f hc hr1
        refine W.seq ?_
        refine W.region (l := [0, 1, 2, 3, 4]) (by kernel_rfl) ?_
        refine WO.vals [(0, 24, (.string p0)), (1, 25, (.int .i64 s4))] (by kernel_rfl) (fun _ => by kernel_rfl) ?_
        obtain ⟨y19, hx_y19, hr1⟩ := bind_some hr1
        refine WO.indexStr rfl (by kernel_rfl) (by kernel_rfl) rfl rfl hx_y19 ?_
        refine WO.vals [(3, 27, (.bool (y19 != 39))), (4, 23, (.bool (y19 != 39)))] (by kernel_rfl) (fun _ => by kernel_rfl) ?_
        refine WO.nil ?_
        refine En.next ?_
        obtain ⟨j20, hr2, hr1⟩ := bind_some hr1
        refine W.join (J := (fun fr w => ∃ (s24 : Int), ∃ (I22 : Mem), (.inl s24) = j20 ∧ fr = [(0, (.string p0)), (3, (.int .i64 s24))] ∧ I12.Le I22 ∧ St E w I22 Os)) ?restj20 ?waysj20
        case waysj20 =>
          refine W.cond (b := (y19 != 39)) rfl rfl (fun hc => ?_) (fun hc => ?_)
          · replace hr2 := cond_t hc hr2
            refine W.skip ?_
            refine En.weaken (fr' := [(0, (.string p0)), (3, (.int .i64 s4))]) (En.round ⟨s4, I12, Option.some.inj hr2, rfl, Mem.Le.refl _, hS16⟩) (Sub.cons rfl (Sub.cons rfl Sub.nil))
          · replace hr2 := cond_f hc hr2
            refine W.seq ?_
            refine W.region (l := [0, 1, 2, 3, 4, 5, 6, 7, 8, 9, 10, 11, 12]) (by kernel_rfl) ?_
            refine WO.vals [(0, 29, (.int .i64 s4)), (1, 30, (.int .i64 (w64 (s4 + 1)))), (2, 31, (.string p0)), (3, 32, (.int .i64 (p0.size : Int))), (4, 33, (.bool (decide ((w64 (s4 + 1)) < (p0.size : Int))))), (5, 34, (.bool (decide ((w64 (s4 + 1)) < (p0.size : Int)))))] (by kernel_rfl) (fun _ => by kernel_rfl) ?_
            obtain ⟨j25, hr3, hr2⟩ := bind_some hr2
            refine WO.join (l1 := [6, 7, 8, 9, 10, 11]) (l2 := [12]) (J := (fun fr w => ∃ (I27 : Mem), fr = [(0, (.string p0)), (3, (.int .i64 s4)), (40, (.bool j25))] ∧ I12.Le I27 ∧ St E w I27 Os)) ?restj25 ?waysj25
            case waysj25 =>
              refine WO.caseb (decide ((w64 (s4 + 1)) < (p0.size : Int))) (fun hc => ?_) (fun hc => ?_)
              · replace hr3 := cond_t hc hr3
                refine WO.reslot 34 rfl (show Value.bool (decide ((w64 (s4 + 1)) < (p0.size : Int))) = Value.bool true by rw [hc]) ?_
                refine WO.vals [(6, 35, (.string p0)), (7, 36, (.int .i64 s4)), (8, 37, (.int .i64 (w64 (s4 + 1))))] (by kernel_rfl) (fun _ => by kernel_rfl) ?_
                obtain ⟨y29, hx_y29, hr3⟩ := bind_some hr3
                refine WO.indexStr rfl (by kernel_rfl) (by kernel_rfl) rfl rfl hx_y29 ?_
                refine WO.vals [(10, 39, (.bool (y29 == 39))), (11, 40, (.bool (y29 == 39)))] (by kernel_rfl) (fun _ => by kernel_rfl) ?_
                have he := Option.some.inj hr3
                subst j25
                refine WO.weaken (fr' := [(0, (.string p0)), (3, (.int .i64 s4)), (40, (.bool (y29 == 39)))]) (WO.meet ⟨I12, rfl, Mem.Le.refl _, hS16⟩) (Sub.cons rfl (Sub.cons rfl (Sub.cons rfl Sub.nil)))
              · replace hr3 := cond_f hc hr3
                refine WO.reslot 34 rfl (show Value.bool (decide ((w64 (s4 + 1)) < (p0.size : Int))) = Value.bool false by rw [hc]) ?_
                refine WO.pass rfl (by kernel_rfl) rfl ?_
                refine WO.pass rfl (by kernel_rfl) rfl ?_
                refine WO.pass rfl (by kernel_rfl) rfl ?_
                refine WO.pass rfl (by kernel_rfl) rfl ?_
                refine WO.pass rfl (by kernel_rfl) rfl ?_
                refine WO.vals [(11, 40, (.bool false))] (by kernel_rfl) (fun _ => by kernel_rfl) ?_
                have he := Option.some.inj hr3
                subst j25
                refine WO.weaken (fr' := [(0, (.string p0)), (3, (.int .i64 s4)), (40, (.bool false))]) (WO.meet ⟨I12, rfl, Mem.Le.refl _, hS16⟩) (Sub.cons rfl (Sub.cons rfl (Sub.cons rfl Sub.nil)))
            case restj25 =>
              rintro _ w30 ⟨I27, rfl, hl28, hS31⟩
              refine WO.vals [(12, 28, (.bool j25))] (by kernel_rfl) (fun _ => by kernel_rfl) ?_
              refine WO.nil ?_
              refine En.next ?_
              refine W.cond (b := j25) rfl rfl (fun hc => ?_) (fun hc => ?_)
              · replace hr2 := cond_t hc hr2
                refine W.region (l := [0, 1, 2]) (by kernel_rfl) ?_
                refine WO.vals [(0, 41, (.int .i64 s4)), (1, 42, (.int .i64 (w64 (s4 + 1)))), (2, 3, (.int .i64 (w64 (s4 + 1))))] (by kernel_rfl) (fun _ => by kernel_rfl) ?_
                refine WO.nil ?_
                refine En.weaken (fr' := [(0, (.string p0)), (3, (.int .i64 (w64 (s4 + 1))))]) (En.round ⟨(w64 (s4 + 1)), I27, Option.some.inj hr2, rfl, hl28, hS31⟩) (Sub.cons rfl (Sub.cons rfl Sub.nil))
              · replace hr2 := cond_f hc hr2
                refine W.seq ?_
                refine W.region (l := [0, 1, 2]) (by kernel_rfl) ?_
                refine WO.vals [(0, 10, (.int .i64 s4)), (1, 11, (.int .i64 (w64 (s4 + 1)))), (2, 2, (.int .i64 (w64 (s4 + 1))))] (by kernel_rfl) (fun _ => by kernel_rfl) ?_
                refine WO.nil ?_
                refine En.next ?_
                refine W.ret ?_
                refine En.rd_ret ?_
                have ht := Option.some.inj hr2
                subst j20
                refine En.in_ret ?_
                refine En.in_ret ?_
                refine En.nx_ret ?_
                refine En.rd_ret ?_
                have ht := hext1 _ (Option.some.inj hr1).symm
                subst t1
                refine En.in_ret ?_
                refine En.nx_ret ?_
                have he := Option.some.inj hr
                subst r
                exact En.ret1 rfl (.int .i64 (w64 (s4 + 1))) rfl ⟨I27, rfl, ((hl3.trans hl13).trans hl28), hS31⟩
        case restj20 =>
          rintro _ w34 ⟨s24, I22, rfl, rfl, hl23, hS35⟩
          refine En.in_normal ?_
          refine En.in_normal ?_
          refine En.next ?_
          refine W.region (l := [0, 1, 2]) (by kernel_rfl) ?_
          refine WO.vals [(0, 8, (.int .i64 s24)), (1, 9, (.int .i64 (w64 (s24 + 1)))), (2, 3, (.int .i64 (w64 (s24 + 1))))] (by kernel_rfl) (fun _ => by kernel_rfl) ?_
          refine WO.nil ?_
          refine En.weaken (fr' := [(0, (.string p0)), (3, (.int .i64 (w64 (s24 + 1))))]) (En.round ⟨(w64 (s24 + 1)), (Option.some.inj hr1).symm, I22, rfl, ((hl3.trans hl13).trans hl23), hS35⟩) (Sub.cons rfl (Sub.cons rfl Sub.nil))
  · replace hr1 := cond_f hc hr1
    refine W.exit ?_
    refine En.nx_exit ?_
    refine En.rd_exit ?_
    have ht := hext1 _ (Option.some.inj hr1).symm
    subst t1
    refine En.in_hit ?_
    refine En.next ?_
    refine W.seq ?_
    refine W.region (l := [0]) (by kernel_rfl) ?_
    refine WO.vals [(0, 2, (.int .i64 0))] (by kernel_rfl) (fun _ => by kernel_rfl) ?_
    refine WO.nil ?_
    refine En.next ?_
    refine W.ret ?_
    have he := Option.some.inj hr
    subst r
    exact En.ret1 rfl (.int .i64 0) rfl ⟨I2, rfl, hl3, hS7⟩
def internal_stringslite_HasPrefix (p0 : ByteArray) (p1 : ByteArray) : Option Bool := ((bif (decide ((p0.size : Int) ≥ (p1.size : Int))) then (ssub p0 0 (p1.size : Int)).bind (fun (x5 : ByteArray) => some (sEq x5 p1)) else some false)).bind (fun (j1 : Bool) => some j1)
set_option maxHeartbeats 1000000 in
theorem internal_stringslite_HasPrefix_ok {E w : World} {I : Mem} {Os : List Mem} {p0 : ByteArray} {p1 : ByteArray} (hS : St E w I Os) {r : Bool} (hr : internal_stringslite_HasPrefix p0 p1 = some r) :
    Calls P 109 #[(.string p0), (.string p1)] w (fun e w' => ∃ (I' : Mem), e = .returned (.bool r) ∧ I.Le I' ∧ St E w' I' Os) := by
  refine calls_W (args := [(.string p0), (.string p1)]) (fn := Tryz.f109) rfl rfl rfl ?_
  unfold internal_stringslite_HasPrefix at hr
  refine W.seq ?_
  refine W.region (l := [0]) (by kernel_rfl) ?_
  refine WO.vals [(0, 4, (.bool false))] (by kernel_rfl) (fun _ => by kernel_rfl) ?_
  refine WO.nil ?_
  refine En.next ?_
  refine W.seq ?_
  refine W.region (l := [0, 1, 2, 3, 4, 5, 6, 7, 8, 9, 10, 11, 12, 13]) (by kernel_rfl) ?_
  refine WO.vals [(0, 5, (.string p0)), (1, 6, (.int .i64 (p0.size : Int))), (2, 7, (.string p1)), (3, 8, (.int .i64 (p1.size : Int))), (4, 9, (.bool (decide ((p0.size : Int) ≥ (p1.size : Int))))), (5, 10, (.bool (decide ((p0.size : Int) ≥ (p1.size : Int)))))] (by kernel_rfl) (fun _ => by kernel_rfl) ?_
  obtain ⟨j1, hr1, hr⟩ := bind_some hr
  refine WO.join (l1 := [6, 7, 8, 9, 10, 11, 12]) (l2 := [13]) (J := (fun fr w => ∃ (I3 : Mem), fr = [(17, (.bool j1))] ∧ I.Le I3 ∧ St E w I3 Os)) ?restj1 ?waysj1
  case waysj1 =>
    refine WO.caseb (decide ((p0.size : Int) ≥ (p1.size : Int))) (fun hc => ?_) (fun hc => ?_)
    · replace hr1 := cond_t hc hr1
      refine WO.reslot 10 rfl (show Value.bool (decide ((p0.size : Int) ≥ (p1.size : Int))) = Value.bool true by rw [hc]) ?_
      refine WO.vals [(6, 11, (.string p0)), (7, 12, (.string p1)), (8, 13, (.int .i64 (p1.size : Int)))] (by kernel_rfl) (fun _ => by kernel_rfl) ?_
      obtain ⟨x5, hx_x5, hr1⟩ := bind_some hr1
      refine WO.sliceS rfl (by kernel_rfl) (by kernel_rfl) rfl (0 : Int) ((p1.size : Int) : Int) (.inl ⟨rfl, rfl⟩) (.inr ⟨_, _, rfl, rfl⟩) hx_x5 ?_
      refine WO.vals [(10, 15, (.string p1)), (11, 16, (.bool (sEq x5 p1))), (12, 17, (.bool (sEq x5 p1)))] (by kernel_rfl) (fun _ => by kernel_rfl) ?_
      have he := Option.some.inj hr1
      subst j1
      refine WO.weaken (fr' := [(17, (.bool (sEq x5 p1)))]) (WO.meet ⟨I, rfl, Mem.Le.refl _, hS⟩) (Sub.cons rfl Sub.nil)
    · replace hr1 := cond_f hc hr1
      refine WO.reslot 10 rfl (show Value.bool (decide ((p0.size : Int) ≥ (p1.size : Int))) = Value.bool false by rw [hc]) ?_
      refine WO.pass rfl (by kernel_rfl) rfl ?_
      refine WO.pass rfl (by kernel_rfl) rfl ?_
      refine WO.pass rfl (by kernel_rfl) rfl ?_
      refine WO.pass rfl (by kernel_rfl) rfl ?_
      refine WO.pass rfl (by kernel_rfl) rfl ?_
      refine WO.pass rfl (by kernel_rfl) rfl ?_
      refine WO.vals [(12, 17, (.bool false))] (by kernel_rfl) (fun _ => by kernel_rfl) ?_
      have he := Option.some.inj hr1
      subst j1
      refine WO.weaken (fr' := [(17, (.bool false))]) (WO.meet ⟨I, rfl, Mem.Le.refl _, hS⟩) (Sub.cons rfl Sub.nil)
  case restj1 =>
    rintro _ w6 ⟨I3, rfl, hl4, hS7⟩
    refine WO.vals [(13, 4, (.bool j1))] (by kernel_rfl) (fun _ => by kernel_rfl) ?_
    refine WO.nil ?_
    refine En.next ?_
    refine W.ret ?_
    have he := Option.some.inj hr
    subst r
    exact En.ret1 rfl (.bool j1) rfl ⟨I3, rfl, hl4, hS7⟩
def strings_HasPrefix (p0 : ByteArray) (p1 : ByteArray) : Option Bool := (internal_stringslite_HasPrefix p0 p1).bind (fun (r6 : Bool) => some r6)
set_option maxHeartbeats 1000000 in
theorem strings_HasPrefix_ok {E w : World} {I : Mem} {Os : List Mem} {p0 : ByteArray} {p1 : ByteArray} (hS : St E w I Os) {r : Bool} (hr : strings_HasPrefix p0 p1 = some r) :
    Calls P 103 #[(.string p0), (.string p1)] w (fun e w' => ∃ (I' : Mem), e = .returned (.bool r) ∧ I.Le I' ∧ St E w' I' Os) := by
  refine calls_W (args := [(.string p0), (.string p1)]) (fn := Tryz.f103) rfl rfl rfl ?_
  unfold strings_HasPrefix at hr
  refine W.seq ?_
  refine W.region (l := [0]) (by kernel_rfl) ?_
  refine WO.vals [(0, 4, (.bool false))] (by kernel_rfl) (fun _ => by kernel_rfl) ?_
  refine WO.nil ?_
  refine En.next ?_
  refine W.seq ?_
  refine W.region (l := [0, 1, 2, 3]) (by kernel_rfl) ?_
  refine WO.vals [(0, 5, (.string p0)), (1, 6, (.string p1))] (by kernel_rfl) (fun _ => by kernel_rfl) ?_
  obtain ⟨r6, hx_r1, hr⟩ := bind_some hr
  refine WO.call rfl (by kernel_rfl) rfl (f := 109) (args := #[(.string p0), (.string p1)]) (by kernel_rfl) (internal_stringslite_HasPrefix_ok  hS hx_r1) ?_
  rintro _ w2 ⟨I3, rfl, hl4, hS5⟩
  refine ⟨_, rfl, trivial, ?_⟩
  refine WO.vals [(3, 4, (.bool r6))] (by kernel_rfl) (fun _ => by kernel_rfl) ?_
  refine WO.nil ?_
  refine En.next ?_
  refine W.ret ?_
  have he := Option.some.inj hr
  subst r
  exact En.ret1 rfl (.bool r6) rfl ⟨I3, rfl, hl4, hS5⟩
def lex_sign (p0 : ByteArray) : Option Int := ((forN (fun (i32 : Nat) => fun (s31 : Int) => (idx ([(⟨#[60, 62]⟩ : ByteArray), (⟨#[60, 61]⟩ : ByteArray), (⟨#[62, 61]⟩ : ByteArray), (⟨#[124, 124]⟩ : ByteArray)] : List ByteArray) (i32 : Int)).bind (fun (x39 : ByteArray) => (strings_HasPrefix p0 x39).bind (fun (r45 : Bool) => (bif r45 then some (.inr (x39.size : Int)) else some (.inl s31))))) 4 0 0).bind (fun (t : Int ⊕ (Int)) => match t with | .inl s31 => (forN (fun (i54 : Nat) => fun (s53 : Int) => (idx ([(⟨#[40]⟩ : ByteArray), (⟨#[41]⟩ : ByteArray), (⟨#[44]⟩ : ByteArray), (⟨#[61]⟩ : ByteArray), (⟨#[60]⟩ : ByteArray), (⟨#[62]⟩ : ByteArray), (⟨#[43]⟩ : ByteArray), (⟨#[45]⟩ : ByteArray), (⟨#[42]⟩ : ByteArray), (⟨#[47]⟩ : ByteArray), (⟨#[37]⟩ : ByteArray)] : List ByteArray) (i54 : Int)).bind (fun (x61 : ByteArray) => (strings_HasPrefix p0 x61).bind (fun (r67 : Bool) => (bif r67 then some (.inr (x61.size : Int)) else some (.inl s53))))) 11 0 s31).bind (fun (t : Int ⊕ (Int)) => match t with | .inl s53 => some s53 | .inr s69 => some s69) | .inr s47 => some s47)).bind (fun (j24 : Int) => some j24)
set_option maxHeartbeats 1000000 in
theorem lex_sign_ok {E w : World} {I : Mem} {Os : List Mem} {p0 : ByteArray} (hS : St E w I Os) {r : Int} (hr : lex_sign p0 = some r) :
    Calls P 88 #[(.string p0)] w (fun e w' => ∃ (I' : Mem), e = .returned (.int .i64 r) ∧ I.Le I' ∧ St E w' I' Os) := by
  refine calls_W (args := [(.string p0)]) (fn := Tryz.f88) rfl rfl rfl ?_
  unfold lex_sign at hr
  refine W.seq ?_
  refine W.region (l := [0]) (by kernel_rfl) ?_
  refine WO.vals [(0, 2, (.int .i64 0))] (by kernel_rfl) (fun _ => by kernel_rfl) ?_
  refine WO.nil ?_
  refine En.next ?_
  refine W.scope ?_
  refine W.seq ?_
  refine W.region (l := [0]) (by kernel_rfl) ?_
  refine WO.vals [(0, 3, (.int .i64 0))] (by kernel_rfl) (fun _ => by kernel_rfl) ?_
  refine WO.nil ?_
  refine En.next ?_
  refine W.seq ?_
  refine W.label ?_
  refine En.next ?_
  refine W.seq ?_
  refine W.seq ?_
  refine W.region (l := [0, 1, 2, 3]) (by kernel_rfl) ?_
  refine WO.newSlice (rel := RStr) (xs := ([(⟨#[60, 62]⟩ : ByteArray), (⟨#[60, 61]⟩ : ByteArray), (⟨#[62, 61]⟩ : ByteArray), (⟨#[124, 124]⟩ : ByteArray)] : List ByteArray)) hS rfl (by kernel_rfl) rfl 9 1 [[(.string (⟨#[60, 62]⟩ : ByteArray))], [(.string (⟨#[60, 61]⟩ : ByteArray))], [(.string (⟨#[62, 61]⟩ : ByteArray))], [(.string (⟨#[124, 124]⟩ : ByteArray))]] (by kernel_rfl) rfl ((Elr.cons rfl (Elr.cons rfl (Elr.cons rfl (Elr.cons rfl Elr.nil))))) (fun _ _ _ => trivial) ?_
  intro a4 C2 w6 hS5 ho3
  refine WO.newSlice (rel := RStr) (xs := ([(⟨#[40]⟩ : ByteArray), (⟨#[41]⟩ : ByteArray), (⟨#[44]⟩ : ByteArray), (⟨#[61]⟩ : ByteArray), (⟨#[60]⟩ : ByteArray), (⟨#[62]⟩ : ByteArray), (⟨#[43]⟩ : ByteArray), (⟨#[45]⟩ : ByteArray), (⟨#[42]⟩ : ByteArray), (⟨#[47]⟩ : ByteArray), (⟨#[37]⟩ : ByteArray)] : List ByteArray)) hS5 rfl (by kernel_rfl) rfl 9 1 [[(.string (⟨#[40]⟩ : ByteArray))], [(.string (⟨#[41]⟩ : ByteArray))], [(.string (⟨#[44]⟩ : ByteArray))], [(.string (⟨#[61]⟩ : ByteArray))], [(.string (⟨#[60]⟩ : ByteArray))], [(.string (⟨#[62]⟩ : ByteArray))], [(.string (⟨#[43]⟩ : ByteArray))], [(.string (⟨#[45]⟩ : ByteArray))], [(.string (⟨#[42]⟩ : ByteArray))], [(.string (⟨#[47]⟩ : ByteArray))], [(.string (⟨#[37]⟩ : ByteArray))]] (by kernel_rfl) rfl ((Elr.cons rfl (Elr.cons rfl (Elr.cons rfl (Elr.cons rfl (Elr.cons rfl (Elr.cons rfl (Elr.cons rfl (Elr.cons rfl (Elr.cons rfl (Elr.cons rfl (Elr.cons rfl Elr.nil)))))))))))) (fun _ _ _ => trivial) ?_
  intro a11 C9 w13 hS12 ho10
  have hS15 := hS12.front1
  obtain ⟨I16, hl17, hS19, hp18⟩ := OwnSl.pub ho3 hS15
  obtain ⟨I20, hl21, hS23, hp22⟩ := OwnSl.pub (ho10.mono hl17) hS19
  refine WO.vals [(2, 10, (.agg #[(.slice a4 4 4), (.slice a11 11 11)])), (3, 11, (.int .i64 0))] (by kernel_rfl) (fun _ => by kernel_rfl) ?_
  refine WO.nil ?_
  refine En.next ?_
  obtain ⟨j24, hr1, hr⟩ := bind_some hr
  refine W.join (J := (fun fr w => ∃ (I26 : Mem), fr = [(3, (.int .i64 j24))] ∧ I20.Le I26 ∧ St E w I26 Os)) ?restj24 ?waysj24
  case waysj24 =>
    refine W.block ?_
    refine W.unroll 2 ?_
    refine W.seq ?_
    refine W.region (l := [0]) (by kernel_rfl) ?_
    refine WO.vals [(0, 12, (.bool true))] (by kernel_rfl) (fun _ => by kernel_rfl) ?_
    refine WO.nil ?_
    refine En.next ?_
    refine W.seq ?_
    refine W.cond (b := true) rfl rfl (fun hc => ?_) (fun hc => ?_)
    rotate_left
    · cases hc
    clear hc
    refine W.skip ?_
    refine En.next ?_
    refine W.seq ?_
    refine W.block ?_
    refine W.seq ?_
    refine W.region (l := [0, 1]) (by kernel_rfl) ?_
    refine WO.vals [(0, 13, (.slice a4 4 4)), (1, 5, (.slice a4 4 4))] (by kernel_rfl) (fun _ => by kernel_rfl) ?_
    refine WO.nil ?_
    refine En.next ?_
    refine W.seq ?_
    refine W.region (l := [0, 1, 2]) (by kernel_rfl) ?_
    refine WO.vals [(0, 14, (.slice a4 4 4)), (1, 15, (.int .i64 (4 : Int))), (2, 16, (.int .i64 0))] (by kernel_rfl) (fun _ => by kernel_rfl) ?_
    refine WO.nil ?_
    refine En.next ?_
    refine W.block ?_
    obtain ⟨t28, hloop33, hr1⟩ := bind_some hr1
    have hlt37 := ((RSl.mono hp18 hl21)).len_lt
    refine W.weaken (fr' := [(0, (.string p0)), (3, (.int .i64 0)), (10, (.agg #[(.slice a4 4 4), (.slice a11 11 11)])), (11, (.int .i64 0)), (14, (.slice a4 4 4)), (15, (.int .i64 (4 : Int))), (16, (.int .i64 ((0 : Nat) : Int)))]) (W.forN (m := 4) hloop33 (fun (i32 : Nat) => fun (s31 : Int) fr w => ∃ (I29 : Mem), fr = [(0, (.string p0)), (3, (.int .i64 s31)), (10, (.agg #[(.slice a4 4 4), (.slice a11 11 11)])), (11, (.int .i64 0)), (14, (.slice a4 4 4)), (15, (.int .i64 (4 : Int))), (16, (.int .i64 (i32 : Int)))] ∧ I20.Le I29 ∧ St E w I29 Os) ⟨I20, rfl, Mem.Le.refl _, hS23⟩ ?roundt28 ?lastt28) (Sub.cons rfl (Sub.cons rfl (Sub.cons rfl (Sub.cons rfl (Sub.cons rfl (Sub.cons rfl (Sub.cons rfl Sub.nil)))))))
    case roundt28 =>
      rintro i32 s31 _ w34 hi38 ⟨I29, rfl, hl30, hS35⟩ x36 hr2 hext28
      refine W.seq ?_
      refine W.region (l := [0]) (by kernel_rfl) ?_
      refine WO.vals [(0, 17, (.bool (decide ((i32 : Int) < (4 : Int)))))] (by kernel_rfl) (fun _ => by kernel_rfl) ?_
      refine WO.nil ?_
      refine En.next ?_
      refine W.seq ?_
      refine W.cond (b := (decide ((i32 : Int) < (4 : Int)))) rfl rfl (fun hc => ?_) (fun hc => ?_)
      rotate_left
      · exact absurd hc (by first | (simp; done) | (simp; omega))
      clear hc
      refine W.skip ?_
      refine En.next ?_
      refine W.seq ?_
      refine W.block ?_
      refine W.seq ?_
      refine W.region (l := [0, 1, 2]) (by kernel_rfl) ?_
      refine WO.reslot 14 rfl (show Value.slice a4 4 4 = Value.slice a4 ([(⟨#[60, 62]⟩ : ByteArray), (⟨#[60, 61]⟩ : ByteArray), (⟨#[62, 61]⟩ : ByteArray), (⟨#[124, 124]⟩ : ByteArray)] : List ByteArray).length 4 from rfl) ?_
      obtain ⟨x39, hx_x39, hr2⟩ := bind_some hr2
      obtain ⟨h0_x39, h1_x39, hx_x39⟩ := idx_some hx_x39
      obtain ⟨ha_x39, cs_x39, hn_x39, hr_x39, hc_x39⟩ := ((RSl.mono hp18 (hl21.trans hl30))).el _ _ hx_x39
      obtain rfl := hr_x39
      refine WO.indexAddr (e := 9) (sz := 1) rfl (by kernel_rfl) (by kernel_rfl) (by kernel_rfl) rfl ha_x39 rfl h0_x39 h1_x39 ?_
      refine WO.load rfl (by kernel_rfl) (by kernel_rfl) rfl (v := (.string x39)) (fun w' hw' => hc_x39.cell0 (by kernel_rfl) ((rd_f hS35.im) w' hw')) ?_
      refine WO.vals [(2, 7, (.string x39))] (by kernel_rfl) (fun _ => by kernel_rfl) ?_
      refine WO.nil ?_
      refine En.next ?_
      refine W.seq ?_
      refine W.region (l := [0, 1, 2]) (by kernel_rfl) ?_
      refine WO.vals [(0, 20, (.string p0)), (1, 21, (.string x39))] (by kernel_rfl) (fun _ => by kernel_rfl) ?_
      obtain ⟨r45, hx_r40, hr2⟩ := bind_some hr2
      refine WO.call rfl (by kernel_rfl) rfl (f := 103) (args := #[(.string p0), (.string x39)]) (by kernel_rfl) (strings_HasPrefix_ok  hS35 hx_r40) ?_
      rintro _ w41 ⟨I42, rfl, hl43, hS44⟩
      refine ⟨_, rfl, trivial, ?_⟩
      refine WO.nil ?_
      refine En.next ?_
      refine W.cond (b := r45) rfl rfl (fun hc => ?_) (fun hc => ?_)
      · replace hr2 := cond_t hc hr2
        refine W.seq ?_
        refine W.region (l := [0, 1, 2]) (by kernel_rfl) ?_
        refine WO.vals [(0, 23, (.string x39)), (1, 24, (.int .i64 (x39.size : Int))), (2, 3, (.int .i64 (x39.size : Int)))] (by kernel_rfl) (fun _ => by kernel_rfl) ?_
        refine WO.nil ?_
        refine En.next ?_
        refine W.exit ?_
        refine En.in_miss rfl ?_
        refine En.nx_exit ?_
        refine En.rd_exit ?_
        have ht := hext28 _ (Option.some.inj hr2).symm
        subst t28
        refine En.in_miss rfl ?_
        refine En.in_miss rfl ?_
        refine En.nx_exit ?_
        refine En.un_exit ?_
        refine En.in_hit ?_
        have he := Option.some.inj hr1
        subst j24
        refine En.weaken (fr' := [(3, (.int .i64 (x39.size : Int)))]) (En.round ⟨I42, rfl, (hl30.trans hl43), hS44⟩) (Sub.cons rfl Sub.nil)
      · replace hr2 := cond_f hc hr2
        refine W.skip ?_
        refine En.in_normal ?_
        refine En.next ?_
        refine W.region (l := [0, 1]) (by kernel_rfl) ?_
        refine WO.incr (j := i32) rfl (by kernel_rfl) rfl (by first | omega | (dsimp only at *; omega)) ?_
        refine WO.vals [(1, 16, (.int .i64 ((i32 + 1 : Nat) : Int)))] (by kernel_rfl) (fun _ => by kernel_rfl) ?_
        refine WO.nil ?_
        refine En.weaken (fr' := [(0, (.string p0)), (3, (.int .i64 s31)), (10, (.agg #[(.slice a4 4 4), (.slice a11 11 11)])), (11, (.int .i64 0)), (14, (.slice a4 ([(⟨#[60, 62]⟩ : ByteArray), (⟨#[60, 61]⟩ : ByteArray), (⟨#[62, 61]⟩ : ByteArray), (⟨#[124, 124]⟩ : ByteArray)] : List ByteArray).length 4)), (15, (.int .i64 (4 : Int))), (16, (.int .i64 ((i32 + 1 : Nat) : Int)))]) (En.round ⟨s31, (Option.some.inj hr2).symm, I42, rfl, (hl30.trans hl43), hS44⟩) (Sub.cons rfl (Sub.cons rfl (Sub.cons rfl (Sub.cons rfl (Sub.cons rfl (Sub.cons rfl (Sub.cons rfl Sub.nil)))))))
    case lastt28 =>
      rintro s31 _ w48 ⟨I29, rfl, hl30, hS49⟩ he
      cases he
      refine W.seq ?_
      refine W.region (l := [0]) (by kernel_rfl) ?_
      refine WO.vals [(0, 17, (.bool (decide ((([(⟨#[60, 62]⟩ : ByteArray), (⟨#[60, 61]⟩ : ByteArray), (⟨#[62, 61]⟩ : ByteArray), (⟨#[124, 124]⟩ : ByteArray)] : List ByteArray).length : Int) < (4 : Int)))))] (by kernel_rfl) (fun _ => by kernel_rfl) ?_
      refine WO.nil ?_
      refine En.next ?_
      refine W.seq ?_
      refine W.cond (b := (decide ((([(⟨#[60, 62]⟩ : ByteArray), (⟨#[60, 61]⟩ : ByteArray), (⟨#[62, 61]⟩ : ByteArray), (⟨#[124, 124]⟩ : ByteArray)] : List ByteArray).length : Int) < (4 : Int)))) rfl rfl (fun hc => ?_) (fun hc => ?_)
      · exact absurd hc (by first | (simp; done) | (simp; omega))
      clear hc
      refine W.exit ?_
      refine En.nx_exit ?_
      refine En.rd_exit ?_
      refine En.in_hit ?_
      refine En.in_normal ?_
      refine En.next ?_
      refine W.region (l := [0, 1]) (by kernel_rfl) ?_
      refine WO.vals [(0, 26, (.int .i64 1)), (1, 11, (.int .i64 1))] (by kernel_rfl) (fun _ => by kernel_rfl) ?_
      refine WO.nil ?_
      refine En.again ?_
      show W _ _ _ _ _ _
      refine W.seq ?_
      refine W.region (l := [0]) (by kernel_rfl) ?_
      refine WO.vals [(0, 12, (.bool true))] (by kernel_rfl) (fun _ => by kernel_rfl) ?_
      refine WO.nil ?_
      refine En.next ?_
      refine W.seq ?_
      refine W.cond (b := true) rfl rfl (fun hc => ?_) (fun hc => ?_)
      rotate_left
      · cases hc
      clear hc
      refine W.skip ?_
      refine En.next ?_
      refine W.seq ?_
      refine W.block ?_
      refine W.seq ?_
      refine W.region (l := [0, 1]) (by kernel_rfl) ?_
      refine WO.vals [(0, 13, (.slice a11 11 11)), (1, 5, (.slice a11 11 11))] (by kernel_rfl) (fun _ => by kernel_rfl) ?_
      refine WO.nil ?_
      refine En.next ?_
      refine W.seq ?_
      refine W.region (l := [0, 1, 2]) (by kernel_rfl) ?_
      refine WO.vals [(0, 14, (.slice a11 11 11)), (1, 15, (.int .i64 (11 : Int))), (2, 16, (.int .i64 0))] (by kernel_rfl) (fun _ => by kernel_rfl) ?_
      refine WO.nil ?_
      refine En.next ?_
      refine W.block ?_
      obtain ⟨t50, hloop55, hr1⟩ := bind_some hr1
      have hlt59 := ((RSl.mono hp22 hl30)).len_lt
      refine W.weaken (fr' := [(0, (.string p0)), (3, (.int .i64 s31)), (10, (.agg #[(.slice a4 4 4), (.slice a11 11 11)])), (11, (.int .i64 1)), (14, (.slice a11 11 11)), (15, (.int .i64 (11 : Int))), (16, (.int .i64 ((0 : Nat) : Int)))]) (W.forN (m := 11) hloop55 (fun (i54 : Nat) => fun (s53 : Int) fr w => ∃ (I51 : Mem), fr = [(0, (.string p0)), (3, (.int .i64 s53)), (10, (.agg #[(.slice a4 4 4), (.slice a11 11 11)])), (11, (.int .i64 1)), (14, (.slice a11 11 11)), (15, (.int .i64 (11 : Int))), (16, (.int .i64 (i54 : Int)))] ∧ I29.Le I51 ∧ St E w I51 Os) ⟨I29, rfl, Mem.Le.refl _, hS49⟩ ?roundt50 ?lastt50) (Sub.cons rfl (Sub.cons rfl (Sub.cons rfl (Sub.cons rfl (Sub.cons rfl (Sub.cons rfl (Sub.cons rfl Sub.nil)))))))
      case roundt50 =>
        rintro i54 s53 _ w56 hi60 ⟨I51, rfl, hl52, hS57⟩ x58 hr2 hext50
        refine W.seq ?_
        refine W.region (l := [0]) (by kernel_rfl) ?_
        refine WO.vals [(0, 17, (.bool (decide ((i54 : Int) < (11 : Int)))))] (by kernel_rfl) (fun _ => by kernel_rfl) ?_
        refine WO.nil ?_
        refine En.next ?_
        refine W.seq ?_
        refine W.cond (b := (decide ((i54 : Int) < (11 : Int)))) rfl rfl (fun hc => ?_) (fun hc => ?_)
        rotate_left
        · exact absurd hc (by first | (simp; done) | (simp; omega))
        clear hc
        refine W.skip ?_
        refine En.next ?_
        refine W.seq ?_
        refine W.block ?_
        refine W.seq ?_
        refine W.region (l := [0, 1, 2]) (by kernel_rfl) ?_
        refine WO.reslot 14 rfl (show Value.slice a11 11 11 = Value.slice a11 ([(⟨#[40]⟩ : ByteArray), (⟨#[41]⟩ : ByteArray), (⟨#[44]⟩ : ByteArray), (⟨#[61]⟩ : ByteArray), (⟨#[60]⟩ : ByteArray), (⟨#[62]⟩ : ByteArray), (⟨#[43]⟩ : ByteArray), (⟨#[45]⟩ : ByteArray), (⟨#[42]⟩ : ByteArray), (⟨#[47]⟩ : ByteArray), (⟨#[37]⟩ : ByteArray)] : List ByteArray).length 11 from rfl) ?_
        obtain ⟨x61, hx_x61, hr2⟩ := bind_some hr2
        obtain ⟨h0_x61, h1_x61, hx_x61⟩ := idx_some hx_x61
        obtain ⟨ha_x61, cs_x61, hn_x61, hr_x61, hc_x61⟩ := ((RSl.mono hp22 (hl30.trans hl52))).el _ _ hx_x61
        obtain rfl := hr_x61
        refine WO.indexAddr (e := 9) (sz := 1) rfl (by kernel_rfl) (by kernel_rfl) (by kernel_rfl) rfl ha_x61 rfl h0_x61 h1_x61 ?_
        refine WO.load rfl (by kernel_rfl) (by kernel_rfl) rfl (v := (.string x61)) (fun w' hw' => hc_x61.cell0 (by kernel_rfl) ((rd_f hS57.im) w' hw')) ?_
        refine WO.vals [(2, 7, (.string x61))] (by kernel_rfl) (fun _ => by kernel_rfl) ?_
        refine WO.nil ?_
        refine En.next ?_
        refine W.seq ?_
        refine W.region (l := [0, 1, 2]) (by kernel_rfl) ?_
        refine WO.vals [(0, 20, (.string p0)), (1, 21, (.string x61))] (by kernel_rfl) (fun _ => by kernel_rfl) ?_
        obtain ⟨r67, hx_r62, hr2⟩ := bind_some hr2
        refine WO.call rfl (by kernel_rfl) rfl (f := 103) (args := #[(.string p0), (.string x61)]) (by kernel_rfl) (strings_HasPrefix_ok  hS57 hx_r62) ?_
        rintro _ w63 ⟨I64, rfl, hl65, hS66⟩
        refine ⟨_, rfl, trivial, ?_⟩
        refine WO.nil ?_
        refine En.next ?_
        refine W.cond (b := r67) rfl rfl (fun hc => ?_) (fun hc => ?_)
        · replace hr2 := cond_t hc hr2
          refine W.seq ?_
          refine W.region (l := [0, 1, 2]) (by kernel_rfl) ?_
          refine WO.vals [(0, 23, (.string x61)), (1, 24, (.int .i64 (x61.size : Int))), (2, 3, (.int .i64 (x61.size : Int)))] (by kernel_rfl) (fun _ => by kernel_rfl) ?_
          refine WO.nil ?_
          refine En.next ?_
          refine W.exit ?_
          refine En.in_miss rfl ?_
          refine En.nx_exit ?_
          refine En.rd_exit ?_
          have ht := hext50 _ (Option.some.inj hr2).symm
          subst t50
          refine En.in_miss rfl ?_
          refine En.in_miss rfl ?_
          refine En.nx_exit ?_
          refine En.un_exit ?_
          refine En.in_hit ?_
          have he := Option.some.inj hr1
          subst j24
          refine En.weaken (fr' := [(3, (.int .i64 (x61.size : Int)))]) (En.round ⟨I64, rfl, ((hl30.trans hl52).trans hl65), hS66⟩) (Sub.cons rfl Sub.nil)
        · replace hr2 := cond_f hc hr2
          refine W.skip ?_
          refine En.in_normal ?_
          refine En.next ?_
          refine W.region (l := [0, 1]) (by kernel_rfl) ?_
          refine WO.incr (j := i54) rfl (by kernel_rfl) rfl (by first | omega | (dsimp only at *; omega)) ?_
          refine WO.vals [(1, 16, (.int .i64 ((i54 + 1 : Nat) : Int)))] (by kernel_rfl) (fun _ => by kernel_rfl) ?_
          refine WO.nil ?_
          refine En.weaken (fr' := [(0, (.string p0)), (3, (.int .i64 s53)), (10, (.agg #[(.slice a4 4 4), (.slice a11 11 11)])), (11, (.int .i64 1)), (14, (.slice a11 ([(⟨#[40]⟩ : ByteArray), (⟨#[41]⟩ : ByteArray), (⟨#[44]⟩ : ByteArray), (⟨#[61]⟩ : ByteArray), (⟨#[60]⟩ : ByteArray), (⟨#[62]⟩ : ByteArray), (⟨#[43]⟩ : ByteArray), (⟨#[45]⟩ : ByteArray), (⟨#[42]⟩ : ByteArray), (⟨#[47]⟩ : ByteArray), (⟨#[37]⟩ : ByteArray)] : List ByteArray).length 11)), (15, (.int .i64 (11 : Int))), (16, (.int .i64 ((i54 + 1 : Nat) : Int)))]) (En.round ⟨s53, (Option.some.inj hr2).symm, I64, rfl, (hl52.trans hl65), hS66⟩) (Sub.cons rfl (Sub.cons rfl (Sub.cons rfl (Sub.cons rfl (Sub.cons rfl (Sub.cons rfl (Sub.cons rfl Sub.nil)))))))
      case lastt50 =>
        rintro s53 _ w70 ⟨I51, rfl, hl52, hS71⟩ he
        cases he
        refine W.seq ?_
        refine W.region (l := [0]) (by kernel_rfl) ?_
        refine WO.vals [(0, 17, (.bool (decide ((([(⟨#[40]⟩ : ByteArray), (⟨#[41]⟩ : ByteArray), (⟨#[44]⟩ : ByteArray), (⟨#[61]⟩ : ByteArray), (⟨#[60]⟩ : ByteArray), (⟨#[62]⟩ : ByteArray), (⟨#[43]⟩ : ByteArray), (⟨#[45]⟩ : ByteArray), (⟨#[42]⟩ : ByteArray), (⟨#[47]⟩ : ByteArray), (⟨#[37]⟩ : ByteArray)] : List ByteArray).length : Int) < (11 : Int)))))] (by kernel_rfl) (fun _ => by kernel_rfl) ?_
        refine WO.nil ?_
        refine En.next ?_
        refine W.seq ?_
        refine W.cond (b := (decide ((([(⟨#[40]⟩ : ByteArray), (⟨#[41]⟩ : ByteArray), (⟨#[44]⟩ : ByteArray), (⟨#[61]⟩ : ByteArray), (⟨#[60]⟩ : ByteArray), (⟨#[62]⟩ : ByteArray), (⟨#[43]⟩ : ByteArray), (⟨#[45]⟩ : ByteArray), (⟨#[42]⟩ : ByteArray), (⟨#[47]⟩ : ByteArray), (⟨#[37]⟩ : ByteArray)] : List ByteArray).length : Int) < (11 : Int)))) rfl rfl (fun hc => ?_) (fun hc => ?_)
        · exact absurd hc (by first | (simp; done) | (simp; omega))
        clear hc
        refine W.exit ?_
        refine En.nx_exit ?_
        refine En.rd_exit ?_
        refine En.in_hit ?_
        refine En.in_normal ?_
        refine En.next ?_
        refine W.region (l := [0, 1]) (by kernel_rfl) ?_
        refine WO.vals [(0, 26, (.int .i64 2)), (1, 11, (.int .i64 2))] (by kernel_rfl) (fun _ => by kernel_rfl) ?_
        refine WO.nil ?_
        refine En.again ?_
        show W _ _ _ _ _ _
        refine W.seq ?_
        refine W.region (l := [0]) (by kernel_rfl) ?_
        refine WO.vals [(0, 12, (.bool false))] (by kernel_rfl) (fun _ => by kernel_rfl) ?_
        refine WO.nil ?_
        refine En.next ?_
        refine W.seq ?_
        refine W.cond (b := false) rfl rfl (fun hc => ?_) (fun hc => ?_)
        · cases hc
        clear hc
        refine W.exit ?_
        refine En.nx_exit ?_
        refine En.un_exit ?_
        refine En.in_hit ?_
        have he := Option.some.inj hr1
        subst j24
        refine En.weaken (fr' := [(3, (.int .i64 s53))]) (En.round ⟨I51, rfl, (hl30.trans hl52), hS71⟩) (Sub.cons rfl Sub.nil)
  case restj24 =>
    rintro _ w72 ⟨I26, rfl, hl27, hS73⟩
    refine En.next ?_
    refine W.seq ?_
    refine W.region (l := [0, 1]) (by kernel_rfl) ?_
    refine WO.vals [(0, 27, (.int .i64 j24)), (1, 2, (.int .i64 j24))] (by kernel_rfl) (fun _ => by kernel_rfl) ?_
    refine WO.nil ?_
    refine En.next ?_
    refine W.ret ?_
    refine En.sc_ret ?_
    have he := Option.some.inj hr
    subst r
    exact En.ret1 rfl (.int .i64 j24) rfl ⟨I26, rfl, ((hl17.trans hl21).trans hl27), hS73⟩
noncomputable def lex_one (p0 : ByteArray) : Option (Int × Int) := (sAt p0 0).bind (fun (y1 : Int) => (lex_small y1).bind (fun (r7 : Bool) => (bif r7 then (lex_while p0 0 12 (fun (u0 : Int) => lex_one_1 u0)).bind (fun (r13 : Int) => (lex_alone p0 r13).bind (fun (r19 : Int) => some (1, r19))) else (lex_capital y1).bind (fun (r25 : Bool) => (bif r25 then (lex_while p0 0 16 (fun (u0 : Int) => lex_one_2 u0)).bind (fun (r31 : Int) => (lex_alone p0 r31).bind (fun (r37 : Int) => some (2, r37))) else (bif (y1 == 48) then (lex_alone p0 1).bind (fun (r43 : Int) => some (3, r43)) else (lex_digit y1).bind (fun (r49 : Bool) => (bif r49 then (lex_while p0 0 19 (fun (u0 : Int) => lex_digit u0)).bind (fun (r55 : Int) => (lex_alone p0 r55).bind (fun (r61 : Int) => some (3, r61))) else (bif (y1 == 39) then (lex_quoted p0).bind (fun (r67 : Int) => some (4, r67)) else (bif (y1 == 36) then ((bif (decide ((p0.size : Int) < 2)) then some true else (sAt p0 1).bind (fun (y72 : Int) => some (decide (y72 < 49))))).bind (fun (j68 : Bool) => ((bif j68 then some true else (sAt p0 1).bind (fun (y79 : Int) => some (decide (y79 > 54))))).bind (fun (j75 : Bool) => (bif j75 then some (5, 0) else (lex_alone p0 2).bind (fun (r87 : Int) => some (5, r87))))) else (lex_sign p0).bind (fun (r93 : Int) => some (6, r93))))))))))))
set_option maxHeartbeats 1000000 in
theorem lex_one_ok {E w : World} {I : Mem} {Os : List Mem} {p0 : ByteArray} (hS : St E w I Os) {r : Int × Int} (hr : lex_one p0 = some r) :
    Calls P 69 #[(.string p0)] w (fun e w' => ∃ (I' : Mem), e = .returned (.tuple #[(.int .i64 r.1), (.int .i64 r.2)]) ∧ I.Le I' ∧ St E w' I' Os) := by
  refine calls_W (args := [(.string p0)]) (fn := Tryz.f69) rfl rfl rfl ?_
  unfold lex_one at hr
  refine W.seq ?_
  refine W.region (l := [0, 1]) (by kernel_rfl) ?_
  refine WO.vals [(0, 2, (.int .i64 0)), (1, 3, (.int .i64 0))] (by kernel_rfl) (fun _ => by kernel_rfl) ?_
  refine WO.nil ?_
  refine En.next ?_
  refine W.seq ?_
  refine W.region (l := [0, 1, 2]) (by kernel_rfl) ?_
  refine WO.vals [(0, 7, (.string p0))] (by kernel_rfl) (fun _ => by kernel_rfl) ?_
  obtain ⟨y1, hx_y1, hr⟩ := bind_some hr
  refine WO.indexStr rfl (by kernel_rfl) (by kernel_rfl) rfl rfl hx_y1 ?_
  refine WO.vals [(2, 4, (.int .u8 y1))] (by kernel_rfl) (fun _ => by kernel_rfl) ?_
  refine WO.nil ?_
  refine En.next ?_
  refine W.seq ?_
  refine W.block ?_
  refine W.seq ?_
  refine W.region (l := [0, 1, 2]) (by kernel_rfl) ?_
  refine WO.vals [(0, 10, (.int .u8 y1))] (by kernel_rfl) (fun _ => by kernel_rfl) ?_
  obtain ⟨r7, hx_r2, hr⟩ := bind_some hr
  refine WO.call rfl (by kernel_rfl) rfl (f := 80) (args := #[(.int .u8 y1)]) (by kernel_rfl) (lex_small_ok  hS hx_r2) ?_
  rintro _ w3 ⟨I4, rfl, hl5, hS6⟩
  refine ⟨_, rfl, trivial, ?_⟩
  refine WO.vals [(2, 9, (.bool r7))] (by kernel_rfl) (fun _ => by kernel_rfl) ?_
  refine WO.nil ?_
  refine En.next ?_
  refine W.cond (b := r7) rfl rfl (fun hc => ?_) (fun hc => ?_)
  · replace hr := cond_t hc hr
    refine W.seq ?_
    refine W.region (l := [0, 1, 2]) (by kernel_rfl) ?_
    refine WO.vals [(0, 12, (.string p0))] (by kernel_rfl) (fun _ => by kernel_rfl) ?_
    obtain ⟨r13, hx_r8, hr⟩ := bind_some hr
    refine WO.call rfl (by kernel_rfl) rfl (f := 81) (args := #[(.string p0), (.int .i64 0), (.int .i64 12), (.func (.func 82) #[] #[])]) (by kernel_rfl) (lex_while_ok (fun {F Ic wc} {_} hlc hSc  {rc} hrc => lex_one_1_ok   hSc hrc) (fun _ _ => by kernel_rfl) hS6 hx_r8) ?_
    rintro _ w9 ⟨I10, rfl, hl11, hS12⟩
    refine ⟨_, rfl, trivial, ?_⟩
    refine WO.vals [(2, 5, (.int .i64 r13))] (by kernel_rfl) (fun _ => by kernel_rfl) ?_
    refine WO.nil ?_
    refine En.next ?_
    refine W.seq ?_
    refine W.region (l := [0, 1, 2, 3, 4]) (by kernel_rfl) ?_
    refine WO.vals [(0, 14, (.string p0)), (1, 15, (.int .i64 r13))] (by kernel_rfl) (fun _ => by kernel_rfl) ?_
    obtain ⟨r19, hx_r14, hr⟩ := bind_some hr
    refine WO.call rfl (by kernel_rfl) rfl (f := 84) (args := #[(.string p0), (.int .i64 r13)]) (by kernel_rfl) (lex_alone_ok  hS12 hx_r14) ?_
    rintro _ w15 ⟨I16, rfl, hl17, hS18⟩
    refine ⟨_, rfl, trivial, ?_⟩
    refine WO.vals [(3, 2, (.int .i64 1)), (4, 3, (.int .i64 r19))] (by kernel_rfl) (fun _ => by kernel_rfl) ?_
    refine WO.nil ?_
    refine En.next ?_
    refine W.ret ?_
    refine En.in_ret ?_
    refine En.nx_ret ?_
    have he := Option.some.inj hr
    subst r
    exact En.ret2 rfl (.int .i64 1) (.int .i64 r19) rfl rfl ⟨I16, rfl, ((hl5.trans hl11).trans hl17), hS18⟩
  · replace hr := cond_f hc hr
    refine W.seq ?_
    refine W.region (l := [0, 1, 2]) (by kernel_rfl) ?_
    refine WO.vals [(0, 18, (.int .u8 y1))] (by kernel_rfl) (fun _ => by kernel_rfl) ?_
    obtain ⟨r25, hx_r20, hr⟩ := bind_some hr
    refine WO.call rfl (by kernel_rfl) rfl (f := 85) (args := #[(.int .u8 y1)]) (by kernel_rfl) (lex_capital_ok  hS6 hx_r20) ?_
    rintro _ w21 ⟨I22, rfl, hl23, hS24⟩
    refine ⟨_, rfl, trivial, ?_⟩
    refine WO.vals [(2, 17, (.bool r25))] (by kernel_rfl) (fun _ => by kernel_rfl) ?_
    refine WO.nil ?_
    refine En.next ?_
    refine W.cond (b := r25) rfl rfl (fun hc => ?_) (fun hc => ?_)
    · replace hr := cond_t hc hr
      refine W.seq ?_
      refine W.region (l := [0, 1, 2]) (by kernel_rfl) ?_
      refine WO.vals [(0, 20, (.string p0))] (by kernel_rfl) (fun _ => by kernel_rfl) ?_
      obtain ⟨r31, hx_r26, hr⟩ := bind_some hr
      refine WO.call rfl (by kernel_rfl) rfl (f := 81) (args := #[(.string p0), (.int .i64 0), (.int .i64 16), (.func (.func 86) #[] #[])]) (by kernel_rfl) (lex_while_ok (fun {F Ic wc} {_} hlc hSc  {rc} hrc => lex_one_2_ok   hSc hrc) (fun _ _ => by kernel_rfl) hS24 hx_r26) ?_
      rintro _ w27 ⟨I28, rfl, hl29, hS30⟩
      refine ⟨_, rfl, trivial, ?_⟩
      refine WO.vals [(2, 6, (.int .i64 r31))] (by kernel_rfl) (fun _ => by kernel_rfl) ?_
      refine WO.nil ?_
      refine En.next ?_
      refine W.seq ?_
      refine W.region (l := [0, 1, 2, 3, 4]) (by kernel_rfl) ?_
      refine WO.vals [(0, 22, (.string p0)), (1, 23, (.int .i64 r31))] (by kernel_rfl) (fun _ => by kernel_rfl) ?_
      obtain ⟨r37, hx_r32, hr⟩ := bind_some hr
      refine WO.call rfl (by kernel_rfl) rfl (f := 84) (args := #[(.string p0), (.int .i64 r31)]) (by kernel_rfl) (lex_alone_ok  hS30 hx_r32) ?_
      rintro _ w33 ⟨I34, rfl, hl35, hS36⟩
      refine ⟨_, rfl, trivial, ?_⟩
      refine WO.vals [(3, 2, (.int .i64 2)), (4, 3, (.int .i64 r37))] (by kernel_rfl) (fun _ => by kernel_rfl) ?_
      refine WO.nil ?_
      refine En.next ?_
      refine W.ret ?_
      refine En.in_ret ?_
      refine En.nx_ret ?_
      have he := Option.some.inj hr
      subst r
      exact En.ret2 rfl (.int .i64 2) (.int .i64 r37) rfl rfl ⟨I34, rfl, (((hl5.trans hl23).trans hl29).trans hl35), hS36⟩
    · replace hr := cond_f hc hr
      refine W.seq ?_
      refine W.region (l := [0, 1, 2]) (by kernel_rfl) ?_
      refine WO.vals [(0, 26, (.int .u8 y1)), (1, 27, (.bool (y1 == 48))), (2, 25, (.bool (y1 == 48)))] (by kernel_rfl) (fun _ => by kernel_rfl) ?_
      refine WO.nil ?_
      refine En.next ?_
      refine W.cond (b := (y1 == 48)) rfl rfl (fun hc => ?_) (fun hc => ?_)
      · replace hr := cond_t hc hr
        refine W.seq ?_
        refine W.region (l := [0, 1, 2, 3]) (by kernel_rfl) ?_
        refine WO.vals [(0, 28, (.string p0))] (by kernel_rfl) (fun _ => by kernel_rfl) ?_
        obtain ⟨r43, hx_r38, hr⟩ := bind_some hr
        refine WO.call rfl (by kernel_rfl) rfl (f := 84) (args := #[(.string p0), (.int .i64 1)]) (by kernel_rfl) (lex_alone_ok  hS24 hx_r38) ?_
        rintro _ w39 ⟨I40, rfl, hl41, hS42⟩
        refine ⟨_, rfl, trivial, ?_⟩
        refine WO.vals [(2, 2, (.int .i64 3)), (3, 3, (.int .i64 r43))] (by kernel_rfl) (fun _ => by kernel_rfl) ?_
        refine WO.nil ?_
        refine En.next ?_
        refine W.ret ?_
        refine En.in_ret ?_
        refine En.nx_ret ?_
        have he := Option.some.inj hr
        subst r
        exact En.ret2 rfl (.int .i64 3) (.int .i64 r43) rfl rfl ⟨I40, rfl, ((hl5.trans hl23).trans hl41), hS42⟩
      · replace hr := cond_f hc hr
        refine W.seq ?_
        refine W.region (l := [0, 1, 2]) (by kernel_rfl) ?_
        refine WO.vals [(0, 31, (.int .u8 y1))] (by kernel_rfl) (fun _ => by kernel_rfl) ?_
        obtain ⟨r49, hx_r44, hr⟩ := bind_some hr
        refine WO.call rfl (by kernel_rfl) rfl (f := 83) (args := #[(.int .u8 y1)]) (by kernel_rfl) (lex_digit_ok  hS24 hx_r44) ?_
        rintro _ w45 ⟨I46, rfl, hl47, hS48⟩
        refine ⟨_, rfl, trivial, ?_⟩
        refine WO.vals [(2, 30, (.bool r49))] (by kernel_rfl) (fun _ => by kernel_rfl) ?_
        refine WO.nil ?_
        refine En.next ?_
        refine W.cond (b := r49) rfl rfl (fun hc => ?_) (fun hc => ?_)
        · replace hr := cond_t hc hr
          refine W.seq ?_
          refine W.region (l := [0, 1, 2, 3, 4, 5]) (by kernel_rfl) ?_
          refine WO.vals [(0, 33, (.string p0)), (1, 34, (.string p0))] (by kernel_rfl) (fun _ => by kernel_rfl) ?_
          obtain ⟨r55, hx_r50, hr⟩ := bind_some hr
          refine WO.call rfl (by kernel_rfl) rfl (f := 81) (args := #[(.string p0), (.int .i64 0), (.int .i64 19), (.func (.func 83) #[] #[])]) (by kernel_rfl) (lex_while_ok (fun {F Ic wc} {_} hlc hSc  {rc} hrc => lex_digit_ok   hSc hrc) (fun _ _ => by kernel_rfl) hS48 hx_r50) ?_
          rintro _ w51 ⟨I52, rfl, hl53, hS54⟩
          refine ⟨_, rfl, trivial, ?_⟩
          obtain ⟨r61, hx_r56, hr⟩ := bind_some hr
          refine WO.call rfl (by kernel_rfl) rfl (f := 84) (args := #[(.string p0), (.int .i64 r55)]) (by kernel_rfl) (lex_alone_ok  hS54 hx_r56) ?_
          rintro _ w57 ⟨I58, rfl, hl59, hS60⟩
          refine ⟨_, rfl, trivial, ?_⟩
          refine WO.vals [(4, 2, (.int .i64 3)), (5, 3, (.int .i64 r61))] (by kernel_rfl) (fun _ => by kernel_rfl) ?_
          refine WO.nil ?_
          refine En.next ?_
          refine W.ret ?_
          refine En.in_ret ?_
          refine En.nx_ret ?_
          have he := Option.some.inj hr
          subst r
          exact En.ret2 rfl (.int .i64 3) (.int .i64 r61) rfl rfl ⟨I58, rfl, ((((hl5.trans hl23).trans hl47).trans hl53).trans hl59), hS60⟩
        · replace hr := cond_f hc hr
          refine W.seq ?_
          refine W.region (l := [0, 1, 2]) (by kernel_rfl) ?_
          refine WO.vals [(0, 38, (.int .u8 y1)), (1, 39, (.bool (y1 == 39))), (2, 37, (.bool (y1 == 39)))] (by kernel_rfl) (fun _ => by kernel_rfl) ?_
          refine WO.nil ?_
          refine En.next ?_
          refine W.cond (b := (y1 == 39)) rfl rfl (fun hc => ?_) (fun hc => ?_)
          · replace hr := cond_t hc hr
            refine W.seq ?_
            refine W.region (l := [0, 1, 2, 3]) (by kernel_rfl) ?_
            refine WO.vals [(0, 40, (.string p0))] (by kernel_rfl) (fun _ => by kernel_rfl) ?_
            obtain ⟨r67, hx_r62, hr⟩ := bind_some hr
            refine WO.call rfl (by kernel_rfl) rfl (f := 87) (args := #[(.string p0)]) (by kernel_rfl) (lex_quoted_ok  hS48 hx_r62) ?_
            rintro _ w63 ⟨I64, rfl, hl65, hS66⟩
            refine ⟨_, rfl, trivial, ?_⟩
            refine WO.vals [(2, 2, (.int .i64 4)), (3, 3, (.int .i64 r67))] (by kernel_rfl) (fun _ => by kernel_rfl) ?_
            refine WO.nil ?_
            refine En.next ?_
            refine W.ret ?_
            refine En.in_ret ?_
            refine En.nx_ret ?_
            have he := Option.some.inj hr
            subst r
            exact En.ret2 rfl (.int .i64 4) (.int .i64 r67) rfl rfl ⟨I64, rfl, (((hl5.trans hl23).trans hl47).trans hl65), hS66⟩
          · replace hr := cond_f hc hr
            refine W.seq ?_
            refine W.region (l := [0, 1, 2]) (by kernel_rfl) ?_
            refine WO.vals [(0, 43, (.int .u8 y1)), (1, 44, (.bool (y1 == 36))), (2, 42, (.bool (y1 == 36)))] (by kernel_rfl) (fun _ => by kernel_rfl) ?_
            refine WO.nil ?_
            refine En.next ?_
            refine W.cond (b := (y1 == 36)) rfl rfl (fun hc => ?_) (fun hc => ?_)
            · replace hr := cond_t hc hr
              refine W.seq ?_
              refine W.seq ?_
              refine W.region (l := [0, 1, 2, 3, 4, 5, 6, 7, 8, 9, 10, 11, 12]) (by kernel_rfl) ?_
              refine WO.vals [(0, 45, (.string p0)), (1, 46, (.int .i64 (p0.size : Int))), (2, 47, (.bool (decide ((p0.size : Int) < 2)))), (3, 48, (.bool (decide ((p0.size : Int) < 2))))] (by kernel_rfl) (fun _ => by kernel_rfl) ?_
              obtain ⟨j68, hr1, hr⟩ := bind_some hr
              refine WO.join (l1 := [4, 5, 6, 7]) (l2 := [8, 9, 10, 11, 12]) (J := (fun fr w => ∃ (I70 : Mem), fr = [(0, (.string p0)), (52, (.bool j68))] ∧ I46.Le I70 ∧ St E w I70 Os)) ?restj68 ?waysj68
              case waysj68 =>
                refine WO.caseb (decide ((p0.size : Int) < 2)) (fun hc => ?_) (fun hc => ?_)
                · replace hr1 := cond_t hc hr1
                  refine WO.reslot 48 rfl (show Value.bool (decide ((p0.size : Int) < 2)) = Value.bool true by rw [hc]) ?_
                  refine WO.pass rfl (by kernel_rfl) rfl ?_
                  refine WO.pass rfl (by kernel_rfl) rfl ?_
                  refine WO.pass rfl (by kernel_rfl) rfl ?_
                  refine WO.vals [(7, 52, (.bool true))] (by kernel_rfl) (fun _ => by kernel_rfl) ?_
                  have he := Option.some.inj hr1
                  subst j68
                  refine WO.weaken (fr' := [(0, (.string p0)), (52, (.bool true))]) (WO.meet ⟨I46, rfl, Mem.Le.refl _, hS48⟩) (Sub.cons rfl (Sub.cons rfl Sub.nil))
                · replace hr1 := cond_f hc hr1
                  refine WO.reslot 48 rfl (show Value.bool (decide ((p0.size : Int) < 2)) = Value.bool false by rw [hc]) ?_
                  refine WO.vals [(4, 49, (.string p0))] (by kernel_rfl) (fun _ => by kernel_rfl) ?_
                  obtain ⟨y72, hx_y72, hr1⟩ := bind_some hr1
                  refine WO.indexStr rfl (by kernel_rfl) (by kernel_rfl) rfl rfl hx_y72 ?_
                  refine WO.vals [(6, 51, (.bool (decide (y72 < 49)))), (7, 52, (.bool (decide (y72 < 49))))] (by kernel_rfl) (fun _ => by kernel_rfl) ?_
                  have he := Option.some.inj hr1
                  subst j68
                  refine WO.weaken (fr' := [(0, (.string p0)), (52, (.bool (decide (y72 < 49))))]) (WO.meet ⟨I46, rfl, Mem.Le.refl _, hS48⟩) (Sub.cons rfl (Sub.cons rfl Sub.nil))
              case restj68 =>
                rintro _ w73 ⟨I70, rfl, hl71, hS74⟩
                refine WO.vals [(8, 53, (.bool j68))] (by kernel_rfl) (fun _ => by kernel_rfl) ?_
                obtain ⟨j75, hr1, hr⟩ := bind_some hr
                refine WO.join (l1 := [9, 10, 11, 12]) (l2 := []) (J := (fun fr w => ∃ (I77 : Mem), fr = [(0, (.string p0)), (57, (.bool j75))] ∧ I70.Le I77 ∧ St E w I77 Os)) ?restj75 ?waysj75
                case waysj75 =>
                  refine WO.caseb j68 (fun hc => ?_) (fun hc => ?_)
                  · replace hr1 := cond_t hc hr1
                    refine WO.reslot 53 rfl (show Value.bool j68 = Value.bool true by rw [hc]) ?_
                    refine WO.pass rfl (by kernel_rfl) rfl ?_
                    refine WO.pass rfl (by kernel_rfl) rfl ?_
                    refine WO.pass rfl (by kernel_rfl) rfl ?_
                    refine WO.vals [(12, 57, (.bool true))] (by kernel_rfl) (fun _ => by kernel_rfl) ?_
                    have he := Option.some.inj hr1
                    subst j75
                    refine WO.weaken (fr' := [(0, (.string p0)), (57, (.bool true))]) (WO.meet ⟨I70, rfl, Mem.Le.refl _, hS74⟩) (Sub.cons rfl (Sub.cons rfl Sub.nil))
                  · replace hr1 := cond_f hc hr1
                    refine WO.reslot 53 rfl (show Value.bool j68 = Value.bool false by rw [hc]) ?_
                    refine WO.vals [(9, 54, (.string p0))] (by kernel_rfl) (fun _ => by kernel_rfl) ?_
                    obtain ⟨y79, hx_y79, hr1⟩ := bind_some hr1
                    refine WO.indexStr rfl (by kernel_rfl) (by kernel_rfl) rfl rfl hx_y79 ?_
                    refine WO.vals [(11, 56, (.bool (decide (y79 > 54)))), (12, 57, (.bool (decide (y79 > 54))))] (by kernel_rfl) (fun _ => by kernel_rfl) ?_
                    have he := Option.some.inj hr1
                    subst j75
                    refine WO.weaken (fr' := [(0, (.string p0)), (57, (.bool (decide (y79 > 54))))]) (WO.meet ⟨I70, rfl, Mem.Le.refl _, hS74⟩) (Sub.cons rfl (Sub.cons rfl Sub.nil))
                case restj75 =>
                  rintro _ w80 ⟨I77, rfl, hl78, hS81⟩
                  refine WO.nil ?_
                  refine En.next ?_
                  refine W.cond (b := j75) rfl rfl (fun hc => ?_) (fun hc => ?_)
                  · replace hr := cond_t hc hr
                    refine W.seq ?_
                    refine W.region (l := [0, 1]) (by kernel_rfl) ?_
                    refine WO.vals [(0, 2, (.int .i64 5)), (1, 3, (.int .i64 0))] (by kernel_rfl) (fun _ => by kernel_rfl) ?_
                    refine WO.nil ?_
                    refine En.next ?_
                    refine W.ret ?_
                    refine En.nx_ret ?_
                    refine En.in_ret ?_
                    refine En.nx_ret ?_
                    have he := Option.some.inj hr
                    subst r
                    exact En.ret2 rfl (.int .i64 5) (.int .i64 0) rfl rfl ⟨I77, rfl, ((((hl5.trans hl23).trans hl47).trans hl71).trans hl78), hS81⟩
                  · replace hr := cond_f hc hr
                    refine W.skip ?_
                    refine En.next ?_
                    refine W.seq ?_
                    refine W.region (l := [0, 1, 2, 3]) (by kernel_rfl) ?_
                    refine WO.vals [(0, 58, (.string p0))] (by kernel_rfl) (fun _ => by kernel_rfl) ?_
                    obtain ⟨r87, hx_r82, hr⟩ := bind_some hr
                    refine WO.call rfl (by kernel_rfl) rfl (f := 84) (args := #[(.string p0), (.int .i64 2)]) (by kernel_rfl) (lex_alone_ok  hS81 hx_r82) ?_
                    rintro _ w83 ⟨I84, rfl, hl85, hS86⟩
                    refine ⟨_, rfl, trivial, ?_⟩
                    refine WO.vals [(2, 2, (.int .i64 5)), (3, 3, (.int .i64 r87))] (by kernel_rfl) (fun _ => by kernel_rfl) ?_
                    refine WO.nil ?_
                    refine En.next ?_
                    refine W.ret ?_
                    refine En.in_ret ?_
                    refine En.nx_ret ?_
                    have he := Option.some.inj hr
                    subst r
                    exact En.ret2 rfl (.int .i64 5) (.int .i64 r87) rfl rfl ⟨I84, rfl, (((((hl5.trans hl23).trans hl47).trans hl71).trans hl78).trans hl85), hS86⟩
            · replace hr := cond_f hc hr
              refine W.skip ?_
              refine En.in_normal ?_
              refine En.next ?_
              refine W.seq ?_
              refine W.region (l := [0, 1, 2, 3]) (by kernel_rfl) ?_
              refine WO.vals [(0, 60, (.string p0))] (by kernel_rfl) (fun _ => by kernel_rfl) ?_
              obtain ⟨r93, hx_r88, hr⟩ := bind_some hr
              refine WO.call rfl (by kernel_rfl) rfl (f := 88) (args := #[(.string p0)]) (by kernel_rfl) (lex_sign_ok  hS48 hx_r88) ?_
              rintro _ w89 ⟨I90, rfl, hl91, hS92⟩
              refine ⟨_, rfl, trivial, ?_⟩
              refine WO.vals [(2, 2, (.int .i64 6)), (3, 3, (.int .i64 r93))] (by kernel_rfl) (fun _ => by kernel_rfl) ?_
              refine WO.nil ?_
              refine En.next ?_
              refine W.ret ?_
              have he := Option.some.inj hr
              subst r
              exact En.ret2 rfl (.int .i64 6) (.int .i64 r93) rfl rfl ⟨I90, rfl, (((hl5.trans hl23).trans hl47).trans hl91), hS92⟩
noncomputable def lex_Right (p0 : lex_Token) : Option Bool := (bif (decide (p0.At < 0)) then some false else (bif (sEq p0.Text (⟨#[]⟩ : ByteArray)) then some (p0.Kind == 7) else (lex_one p0.Text).bind (fun ((r12, r13) : Int × Int) => some ((r13 == (p0.Text.size : Int)) && (r12 == p0.Kind)))))
set_option maxHeartbeats 1000000 in
theorem lex_Right_ok {E w : World} {I : Mem} {Os : List Mem} {p0 : lex_Token} (hS : St E w I Os) {r : Bool} (hr : lex_Right p0 = some r) :
    Calls P 50 #[(.agg (cs_lex_Token p0).toArray)] w (fun e w' => ∃ (I' : Mem), e = .returned (.bool r) ∧ I.Le I' ∧ St E w' I' Os) := by
  refine calls_W (args := [(.agg (cs_lex_Token p0).toArray)]) (fn := Tryz.f50) rfl rfl rfl ?_
  unfold lex_Right at hr
  refine W.seq ?_
  refine W.region (l := [0, 1]) (by kernel_rfl) ?_
  refine WO.new hS rfl (by kernel_rfl) rfl (.cells (cs_lex_Token p0).toArray 74 (0, 0)) (fun b => .pointer (some ⟨b, 0, none⟩)) (by kernel_rfl) (fun _ _ _ => trivial) ?_
  intro b1 w4 hS3
  refine WO.vals [(1, 2, (.bool false))] (by kernel_rfl) (fun _ => by kernel_rfl) ?_
  refine WO.nil ?_
  refine En.next ?_
  refine W.seq ?_
  refine W.seq ?_
  refine W.region (l := [0, 1, 2]) (by kernel_rfl) ?_
  refine WO.vals [(0, 5, (.pointer (some ⟨b1, 2, none⟩)))] (by kernel_rfl) (fun _ => by kernel_rfl) ?_
  refine WO.load rfl (by kernel_rfl) (by kernel_rfl) rfl (v := (.int .i64 p0.At)) (fun w' hw' => cell_one ((rd_f (hS3.rd (List.Mem.head _))) w' hw') (by kernel_rfl)) ?_
  refine WO.vals [(2, 7, (.bool (decide (p0.At < 0))))] (by kernel_rfl) (fun _ => by kernel_rfl) ?_
  refine WO.nil ?_
  refine En.next ?_
  refine W.cond (b := (decide (p0.At < 0))) rfl rfl (fun hc => ?_) (fun hc => ?_)
  · replace hr := cond_t hc hr
    refine W.seq ?_
    refine W.region (l := [0]) (by kernel_rfl) ?_
    refine WO.vals [(0, 2, (.bool false))] (by kernel_rfl) (fun _ => by kernel_rfl) ?_
    refine WO.nil ?_
    refine En.next ?_
    refine W.ret ?_
    refine En.nx_ret ?_
    have hS5 := hS3.drop
    have he := Option.some.inj hr
    subst r
    exact En.ret1 rfl (.bool false) rfl ⟨I, rfl, Mem.Le.refl _, hS5⟩
  · replace hr := cond_f hc hr
    refine W.skip ?_
    refine En.next ?_
    refine W.seq ?_
    refine W.seq ?_
    refine W.region (l := [0, 1, 2]) (by kernel_rfl) ?_
    refine WO.vals [(0, 8, (.pointer (some ⟨b1, 1, none⟩)))] (by kernel_rfl) (fun _ => by kernel_rfl) ?_
    refine WO.load rfl (by kernel_rfl) (by kernel_rfl) rfl (v := (.string p0.Text)) (fun w' hw' => cell_one ((rd_f (hS3.rd (List.Mem.head _))) w' hw') (by kernel_rfl)) ?_
    refine WO.vals [(2, 10, (.bool (sEq p0.Text (⟨#[]⟩ : ByteArray))))] (by kernel_rfl) (fun _ => by kernel_rfl) ?_
    refine WO.nil ?_
    refine En.next ?_
    refine W.cond (b := (sEq p0.Text (⟨#[]⟩ : ByteArray))) rfl rfl (fun hc => ?_) (fun hc => ?_)
    · replace hr := cond_t hc hr
      refine W.seq ?_
      refine W.region (l := [0, 1, 2, 3]) (by kernel_rfl) ?_
      refine WO.vals [(0, 11, (.pointer (some ⟨b1, 0, none⟩)))] (by kernel_rfl) (fun _ => by kernel_rfl) ?_
      refine WO.load rfl (by kernel_rfl) (by kernel_rfl) rfl (v := (.int .i64 p0.Kind)) (fun w' hw' => cell_one ((rd_f (hS3.rd (List.Mem.head _))) w' hw') (by kernel_rfl)) ?_
      refine WO.vals [(2, 13, (.bool (p0.Kind == 7))), (3, 2, (.bool (p0.Kind == 7)))] (by kernel_rfl) (fun _ => by kernel_rfl) ?_
      refine WO.nil ?_
      refine En.next ?_
      refine W.ret ?_
      refine En.nx_ret ?_
      have hS6 := hS3.drop
      have he := Option.some.inj hr
      subst r
      exact En.ret1 rfl (.bool (p0.Kind == 7)) rfl ⟨I, rfl, Mem.Le.refl _, hS6⟩
    · replace hr := cond_f hc hr
      refine W.skip ?_
      refine En.next ?_
      refine W.seq ?_
      refine W.region (l := [0, 1, 2, 3, 4, 5, 6, 7]) (by kernel_rfl) ?_
      refine WO.vals [(0, 15, (.pointer (some ⟨b1, 1, none⟩)))] (by kernel_rfl) (fun _ => by kernel_rfl) ?_
      refine WO.load rfl (by kernel_rfl) (by kernel_rfl) rfl (v := (.string p0.Text)) (fun w' hw' => cell_one ((rd_f (hS3.rd (List.Mem.head _))) w' hw') (by kernel_rfl)) ?_
      obtain ⟨⟨r12, r13⟩, hx_r7, hr⟩ := bind_some hr
      refine WO.call rfl (by kernel_rfl) rfl (f := 69) (args := #[(.string p0.Text)]) (by kernel_rfl) (lex_one_ok  hS3 hx_r7) ?_
      rintro _ w8 ⟨I9, rfl, hl10, hS11⟩
      refine ⟨_, rfl, trivial, ?_⟩
      refine WO.vals [(3, 14, (.tuple #[(.int .i64 r12), (.int .i64 r13)])), (4, 18, (.int .i64 r12)), (5, 19, (.int .i64 r13)), (6, 3, (.int .i64 r12)), (7, 4, (.int .i64 r13))] (by kernel_rfl) (fun _ => by kernel_rfl) ?_
      refine WO.nil ?_
      refine En.next ?_
      refine W.seq ?_
      refine W.region (l := [0, 1, 2, 3, 4, 5, 6, 7, 8, 9, 10, 11]) (by kernel_rfl) ?_
      refine WO.vals [(0, 20, (.int .i64 r13)), (1, 21, (.pointer (some ⟨b1, 1, none⟩)))] (by kernel_rfl) (fun _ => by kernel_rfl) ?_
      refine WO.load rfl (by kernel_rfl) (by kernel_rfl) rfl (v := (.string p0.Text)) (fun w' hw' => cell_one ((rd_f (hS11.rd (List.Mem.head _))) w' hw') (by kernel_rfl)) ?_
      refine WO.vals [(3, 23, (.int .i64 (p0.Text.size : Int))), (4, 24, (.bool (r13 == (p0.Text.size : Int)))), (5, 25, (.bool (r13 == (p0.Text.size : Int))))] (by kernel_rfl) (fun _ => by kernel_rfl) ?_
      refine WO.join (l1 := [6, 7, 8, 9, 10]) (l2 := [11]) (J := fun frx wx => frx = [(30, (.bool ((r13 == (p0.Text.size : Int)) && (r12 == p0.Kind))))] ∧ w8 = wx) ?restm14 ?waysm14
      case waysm14 =>
        refine WO.caseb (r13 == (p0.Text.size : Int)) (fun hc => ?_) (fun hc => ?_)
        · skip
          refine WO.reslot 25 rfl (show Value.bool (r13 == (p0.Text.size : Int)) = Value.bool true by rw [hc]) ?_
          refine WO.vals [(6, 26, (.int .i64 r12)), (7, 27, (.pointer (some ⟨b1, 0, none⟩)))] (by kernel_rfl) (fun _ => by kernel_rfl) ?_
          refine WO.load rfl (by kernel_rfl) (by kernel_rfl) rfl (v := (.int .i64 p0.Kind)) (fun w' hw' => cell_one ((rd_f (hS11.rd (List.Mem.head _))) w' hw') (by kernel_rfl)) ?_
          refine WO.vals [(9, 29, (.bool (r12 == p0.Kind))), (10, 30, (.bool (r12 == p0.Kind)))] (by kernel_rfl) (fun _ => by kernel_rfl) ?_
          refine WO.weaken (fr' := [(30, (.bool ((r13 == (p0.Text.size : Int)) && (r12 == p0.Kind))))]) (WO.meet ⟨rfl, rfl⟩) (Sub.cons (by rw [hc]; rfl) Sub.nil)
        · skip
          refine WO.reslot 25 rfl (show Value.bool (r13 == (p0.Text.size : Int)) = Value.bool false by rw [hc]) ?_
          refine WO.pass rfl (by kernel_rfl) rfl ?_
          refine WO.pass rfl (by kernel_rfl) rfl ?_
          refine WO.pass rfl (by kernel_rfl) rfl ?_
          refine WO.pass rfl (by kernel_rfl) rfl ?_
          refine WO.vals [(10, 30, (.bool false))] (by kernel_rfl) (fun _ => by kernel_rfl) ?_
          refine WO.weaken (fr' := [(30, (.bool ((r13 == (p0.Text.size : Int)) && (r12 == p0.Kind))))]) (WO.meet ⟨rfl, rfl⟩) (Sub.cons (by rw [hc]; rfl) Sub.nil)
      case restm14 =>
        rintro _ _ ⟨rfl, rfl⟩
        refine WO.vals [(11, 2, (.bool ((r13 == (p0.Text.size : Int)) && (r12 == p0.Kind))))] (by kernel_rfl) (fun _ => by kernel_rfl) ?_
        refine WO.nil ?_
        refine En.next ?_
        refine W.ret ?_
        have hS16 := hS11.drop
        have he := Option.some.inj hr
        subst r
        exact En.ret1 rfl (.bool ((r13 == (p0.Text.size : Int)) && (r12 == p0.Kind))) rfl ⟨I9, rfl, hl10, hS16⟩
noncomputable def lex_IsName (p0 : ByteArray) : Option Bool := (lex_Right ({ z_lex_Token with Kind := 1, Text := p0 })).bind (fun (r6 : Bool) => some r6)
set_option maxHeartbeats 1000000 in
theorem lex_IsName_ok {E w : World} {I : Mem} {Os : List Mem} {p0 : ByteArray} (hS : St E w I Os) {r : Bool} (hr : lex_IsName p0 = some r) :
    Calls P 24 #[(.string p0)] w (fun e w' => ∃ (I' : Mem), e = .returned (.bool r) ∧ I.Le I' ∧ St E w' I' Os) := by
  refine calls_W (args := [(.string p0)]) (fn := Tryz.f24) rfl rfl rfl ?_
  unfold lex_IsName at hr
  refine W.seq ?_
  refine W.region (l := [0]) (by kernel_rfl) ?_
  refine WO.vals [(0, 2, (.bool false))] (by kernel_rfl) (fun _ => by kernel_rfl) ?_
  refine WO.nil ?_
  refine En.next ?_
  refine W.seq ?_
  refine W.region (l := [0, 1, 2, 3]) (by kernel_rfl) ?_
  refine WO.vals [(0, 3, (.string p0)), (1, 4, (.agg (cs_lex_Token ({ z_lex_Token with Kind := 1, Text := p0 })).toArray))] (by kernel_rfl) (fun _ => by kernel_rfl) ?_
  obtain ⟨r6, hx_r1, hr⟩ := bind_some hr
  refine WO.call rfl (by kernel_rfl) rfl (f := 50) (args := #[(.agg (cs_lex_Token ({ z_lex_Token with Kind := 1, Text := p0 })).toArray)]) (by kernel_rfl) (lex_Right_ok  hS hx_r1) ?_
  rintro _ w2 ⟨I3, rfl, hl4, hS5⟩
  refine ⟨_, rfl, trivial, ?_⟩
  refine WO.vals [(3, 2, (.bool r6))] (by kernel_rfl) (fun _ => by kernel_rfl) ?_
  refine WO.nil ?_
  refine En.next ?_
  refine W.ret ?_
  have he := Option.some.inj hr
  subst r
  exact En.ret1 rfl (.bool r6) rfl ⟨I3, rfl, hl4, hS5⟩
def slices_Index_string (p0 : List ByteArray) (p1 : ByteArray) : Option Int := (forN (fun (i4 : Nat) => fun (_s : Unit) => (idx p0 (i4 : Int)).bind (fun (x11 : ByteArray) => (bif (sEq p1 x11) then some (.inr (i4 : Int)) else some (.inl ())))) p0.length 0 ()).bind (fun (t : Unit ⊕ (Int)) => match t with | .inl _ => some (-1) | .inr s13 => some s13)
set_option maxHeartbeats 1000000 in
theorem slices_Index_string_ok {E w : World} {I : Mem} {Os : List Mem} {p0 : List ByteArray} {p1 : ByteArray} {a_p0 : Option Addr} {c_p0 : Nat} (h_p0 : RSl 1 RStr I a_p0 c_p0 p0) (hS : St E w I Os) {r : Int} (hr : slices_Index_string p0 p1 = some r) :
    Calls P 52 #[(.slice a_p0 p0.length c_p0), (.string p1)] w (fun e w' => ∃ (I' : Mem), e = .returned (.int .i64 r) ∧ I.Le I' ∧ St E w' I' Os) := by
  refine calls_W (args := [(.slice a_p0 p0.length c_p0), (.string p1)]) (fn := Tryz.f52) rfl rfl rfl ?_
  unfold slices_Index_string at hr
  refine W.seq ?_
  refine W.region (l := [0]) (by kernel_rfl) ?_
  refine WO.vals [(0, 4, (.int .i64 0))] (by kernel_rfl) (fun _ => by kernel_rfl) ?_
  refine WO.nil ?_
  refine En.next ?_
  refine W.seq ?_
  refine W.seq ?_
  refine W.region (l := [0, 1, 2]) (by kernel_rfl) ?_
  refine WO.vals [(0, 6, (.slice a_p0 p0.length c_p0)), (1, 7, (.int .i64 (p0.length : Int))), (2, 8, (.int .i64 0))] (by kernel_rfl) (fun _ => by kernel_rfl) ?_
  refine WO.nil ?_
  refine En.next ?_
  refine W.block ?_
  obtain ⟨t1, hloop5, hr⟩ := bind_some hr
  have hlt9 := (h_p0).len_lt
  refine W.weaken (fr' := [(0, (.slice a_p0 p0.length c_p0)), (1, (.string p1)), (7, (.int .i64 (p0.length : Int))), (8, (.int .i64 ((0 : Nat) : Int)))]) (W.forN (m := p0.length) hloop5 (fun (i4 : Nat) => fun (_s : Unit) fr w => ∃ (I2 : Mem), fr = [(0, (.slice a_p0 p0.length c_p0)), (1, (.string p1)), (7, (.int .i64 (p0.length : Int))), (8, (.int .i64 (i4 : Int)))] ∧ I.Le I2 ∧ St E w I2 Os) ⟨I, rfl, Mem.Le.refl _, hS⟩ ?roundt1 ?lastt1) (Sub.cons rfl (Sub.cons rfl (Sub.cons rfl (Sub.cons rfl Sub.nil))))
  case roundt1 =>
    rintro i4 _ _ w6 hi10 ⟨I2, rfl, hl3, hS7⟩ x8 hr1 hext1
    refine W.seq ?_
    refine W.region (l := [0]) (by kernel_rfl) ?_
    refine WO.vals [(0, 9, (.bool (decide ((i4 : Int) < (p0.length : Int)))))] (by kernel_rfl) (fun _ => by kernel_rfl) ?_
    refine WO.nil ?_
    refine En.next ?_
    refine W.seq ?_
    refine W.cond (b := (decide ((i4 : Int) < (p0.length : Int)))) rfl rfl (fun hc => ?_) (fun hc => ?_)
    rotate_left
    · exact absurd hc (by first | (simp; done) | (simp; omega))
    clear hc
    refine W.skip ?_
    refine En.next ?_
    refine W.seq ?_
    refine W.block ?_
    refine W.seq ?_
    refine W.region (l := [0, 1]) (by kernel_rfl) ?_
    refine WO.vals [(0, 10, (.int .i64 (i4 : Int))), (1, 5, (.int .i64 (i4 : Int)))] (by kernel_rfl) (fun _ => by kernel_rfl) ?_
    refine WO.nil ?_
    refine En.next ?_
    refine W.seq ?_
    refine W.region (l := [0, 1, 2, 3, 4, 5]) (by kernel_rfl) ?_
    refine WO.vals [(0, 11, (.string p1)), (1, 12, (.slice a_p0 p0.length c_p0)), (2, 13, (.int .i64 (i4 : Int)))] (by kernel_rfl) (fun _ => by kernel_rfl) ?_
    obtain ⟨x11, hx_x11, hr1⟩ := bind_some hr1
    obtain ⟨h0_x11, h1_x11, hx_x11⟩ := idx_some hx_x11
    obtain ⟨ha_x11, cs_x11, hn_x11, hr_x11, hc_x11⟩ := ((RSl.mono h_p0 hl3)).el _ _ hx_x11
    obtain rfl := hr_x11
    refine WO.indexAddr (e := 9) (sz := 1) rfl (by kernel_rfl) (by kernel_rfl) (by kernel_rfl) rfl ha_x11 rfl h0_x11 h1_x11 ?_
    refine WO.load rfl (by kernel_rfl) (by kernel_rfl) rfl (v := (.string x11)) (fun w' hw' => hc_x11.cell0 (by kernel_rfl) ((rd_f hS7.im) w' hw')) ?_
    refine WO.vals [(5, 16, (.bool (sEq p1 x11)))] (by kernel_rfl) (fun _ => by kernel_rfl) ?_
    refine WO.nil ?_
    refine En.next ?_
    refine W.cond (b := (sEq p1 x11)) rfl rfl (fun hc => ?_) (fun hc => ?_)
    · replace hr1 := cond_t hc hr1
      refine W.seq ?_
      refine W.region (l := [0, 1]) (by kernel_rfl) ?_
      refine WO.vals [(0, 17, (.int .i64 (i4 : Int))), (1, 4, (.int .i64 (i4 : Int)))] (by kernel_rfl) (fun _ => by kernel_rfl) ?_
      refine WO.nil ?_
      refine En.next ?_
      refine W.ret ?_
      refine En.in_ret ?_
      refine En.nx_ret ?_
      refine En.rd_ret ?_
      have ht := hext1 _ (Option.some.inj hr1).symm
      subst t1
      refine En.in_ret ?_
      refine En.nx_ret ?_
      have he := Option.some.inj hr
      subst r
      exact En.ret1 rfl (.int .i64 (i4 : Int)) rfl ⟨I2, rfl, hl3, hS7⟩
    · replace hr1 := cond_f hc hr1
      refine W.skip ?_
      refine En.in_normal ?_
      refine En.next ?_
      refine W.region (l := [0, 1]) (by kernel_rfl) ?_
      refine WO.incr (j := i4) rfl (by kernel_rfl) rfl (by first | omega | (dsimp only at *; omega)) ?_
      refine WO.vals [(1, 8, (.int .i64 ((i4 + 1 : Nat) : Int)))] (by kernel_rfl) (fun _ => by kernel_rfl) ?_
      refine WO.nil ?_
      refine En.weaken (fr' := [(0, (.slice a_p0 p0.length c_p0)), (1, (.string p1)), (7, (.int .i64 (p0.length : Int))), (8, (.int .i64 ((i4 + 1 : Nat) : Int)))]) (En.round ⟨(), (Option.some.inj hr1).symm, I2, rfl, hl3, hS7⟩) (Sub.cons rfl (Sub.cons rfl (Sub.cons rfl (Sub.cons rfl Sub.nil))))
  case lastt1 =>
    rintro _ _ w14 ⟨I2, rfl, hl3, hS15⟩ he
    cases he
    refine W.seq ?_
    refine W.region (l := [0]) (by kernel_rfl) ?_
    refine WO.vals [(0, 9, (.bool (decide ((p0.length : Int) < (p0.length : Int)))))] (by kernel_rfl) (fun _ => by kernel_rfl) ?_
    refine WO.nil ?_
    refine En.next ?_
    refine W.seq ?_
    refine W.cond (b := (decide ((p0.length : Int) < (p0.length : Int)))) rfl rfl (fun hc => ?_) (fun hc => ?_)
    · exact absurd hc (by first | (simp; done) | (simp; omega))
    clear hc
    refine W.exit ?_
    refine En.nx_exit ?_
    refine En.rd_exit ?_
    refine En.in_hit ?_
    refine En.next ?_
    refine W.seq ?_
    refine W.region (l := [0]) (by kernel_rfl) ?_
    refine WO.vals [(0, 4, (.int .i64 (-1)))] (by kernel_rfl) (fun _ => by kernel_rfl) ?_
    refine WO.nil ?_
    refine En.next ?_
    refine W.ret ?_
    have he := Option.some.inj hr
    subst r
    exact En.ret1 rfl (.int .i64 (-1)) rfl ⟨I2, rfl, hl3, hS15⟩
def slices_Contains_string (p0 : List ByteArray) (p1 : ByteArray) : Option Bool := (slices_Index_string p0 p1).bind (fun (r6 : Int) => some (decide (r6 ≥ 0)))
set_option maxHeartbeats 1000000 in
theorem slices_Contains_string_ok {E w : World} {I : Mem} {Os : List Mem} {p0 : List ByteArray} {p1 : ByteArray} {a_p0 : Option Addr} {c_p0 : Nat} (h_p0 : RSl 1 RStr I a_p0 c_p0 p0) (hS : St E w I Os) {r : Bool} (hr : slices_Contains_string p0 p1 = some r) :
    Calls P 27 #[(.slice a_p0 p0.length c_p0), (.string p1)] w (fun e w' => ∃ (I' : Mem), e = .returned (.bool r) ∧ I.Le I' ∧ St E w' I' Os) := by
  refine calls_W (args := [(.slice a_p0 p0.length c_p0), (.string p1)]) (fn := Tryz.f27) rfl rfl rfl ?_
  unfold slices_Contains_string at hr
  refine W.seq ?_
  refine W.region (l := [0]) (by kernel_rfl) ?_
  refine WO.vals [(0, 4, (.bool false))] (by kernel_rfl) (fun _ => by kernel_rfl) ?_
  refine WO.nil ?_
  refine En.next ?_
  refine W.seq ?_
  refine W.region (l := [0, 1, 2, 3, 4]) (by kernel_rfl) ?_
  refine WO.vals [(0, 5, (.slice a_p0 p0.length c_p0)), (1, 6, (.string p1))] (by kernel_rfl) (fun _ => by kernel_rfl) ?_
  obtain ⟨r6, hx_r1, hr⟩ := bind_some hr
  refine WO.call rfl (by kernel_rfl) rfl (f := 52) (args := #[(.slice a_p0 p0.length c_p0), (.string p1)]) (by kernel_rfl) (slices_Index_string_ok h_p0 hS hx_r1) ?_
  rintro _ w2 ⟨I3, rfl, hl4, hS5⟩
  refine ⟨_, rfl, trivial, ?_⟩
  refine WO.vals [(3, 8, (.bool (decide (r6 ≥ 0)))), (4, 4, (.bool (decide (r6 ≥ 0))))] (by kernel_rfl) (fun _ => by kernel_rfl) ?_
  refine WO.nil ?_
  refine En.next ?_
  refine W.ret ?_
  have he := Option.some.inj hr
  subst r
  exact En.ret1 rfl (.bool (decide (r6 ≥ 0))) rfl ⟨I3, rfl, hl4, hS5⟩
def slices_IndexFunc_string (p0 : List ByteArray) (p1 : ByteArray → Option Bool) : Option Int := (forN (fun (i4 : Nat) => fun (_s : Unit) => (idx p0 (i4 : Int)).bind (fun (x11 : ByteArray) => (p1 x11).bind (fun (r17 : Bool) => (bif r17 then some (.inr (i4 : Int)) else some (.inl ()))))) p0.length 0 ()).bind (fun (t : Unit ⊕ (Int)) => match t with | .inl _ => some (-1) | .inr s19 => some s19)
set_option maxHeartbeats 1000000 in
theorem slices_IndexFunc_string_ok {E w : World} {I : Mem} {Os : List Mem} {p0 : List ByteArray} {p1 : ByteArray → Option Bool} {a_p0 : Option Addr} {c_p0 : Nat} {g_p1 : FuncId} {k_p1 : List Value} (h_p0 : RSl 1 RStr I a_p0 c_p0 p0) (h_p1 : ∀ {F : List Mem} {I' : Mem} {w : World} {u0 : ByteArray}, I.Le I' → St E w I' (F ++ Os) → ∀ {r : Bool}, p1 u0 = some r → Calls P g_p1 (([(.string u0)] : List Value) ++ k_p1).toArray w (fun e w' => ∃ (I'' : Mem), e = .returned (.bool r) ∧ I'.Le I'' ∧ St E w' I'' (F ++ Os))) (hcall_p1 : Callable P g_p1) (hS : St E w I Os) {r : Int} (hr : slices_IndexFunc_string p0 p1 = some r) :
    Calls P 51 #[(.slice a_p0 p0.length c_p0), (.func (.func g_p1) #[] k_p1.toArray)] w (fun e w' => ∃ (I' : Mem), e = .returned (.int .i64 r) ∧ I.Le I' ∧ St E w' I' Os) := by
  refine calls_W (args := [(.slice a_p0 p0.length c_p0), (.func (.func g_p1) #[] k_p1.toArray)]) (fn := Tryz.f51) rfl rfl rfl ?_
  unfold slices_IndexFunc_string at hr
  refine W.seq ?_
  refine W.region (l := [0]) (by kernel_rfl) ?_
  refine WO.vals [(0, 4, (.int .i64 0))] (by kernel_rfl) (fun _ => by kernel_rfl) ?_
  refine WO.nil ?_
  refine En.next ?_
  refine W.seq ?_
  refine W.seq ?_
  refine W.region (l := [0, 1, 2]) (by kernel_rfl) ?_
  refine WO.vals [(0, 6, (.slice a_p0 p0.length c_p0)), (1, 7, (.int .i64 (p0.length : Int))), (2, 8, (.int .i64 0))] (by kernel_rfl) (fun _ => by kernel_rfl) ?_
  refine WO.nil ?_
  refine En.next ?_
  refine W.block ?_
  obtain ⟨t1, hloop5, hr⟩ := bind_some hr
  have hlt9 := (h_p0).len_lt
  refine W.weaken (fr' := [(0, (.slice a_p0 p0.length c_p0)), (1, (.func (.func g_p1) #[] k_p1.toArray)), (7, (.int .i64 (p0.length : Int))), (8, (.int .i64 ((0 : Nat) : Int)))]) (W.forN (m := p0.length) hloop5 (fun (i4 : Nat) => fun (_s : Unit) fr w => ∃ (I2 : Mem), fr = [(0, (.slice a_p0 p0.length c_p0)), (1, (.func (.func g_p1) #[] k_p1.toArray)), (7, (.int .i64 (p0.length : Int))), (8, (.int .i64 (i4 : Int)))] ∧ I.Le I2 ∧ St E w I2 Os) ⟨I, rfl, Mem.Le.refl _, hS⟩ ?roundt1 ?lastt1) (Sub.cons rfl (Sub.cons rfl (Sub.cons rfl (Sub.cons rfl Sub.nil))))
  case roundt1 =>
    rintro i4 _ _ w6 hi10 ⟨I2, rfl, hl3, hS7⟩ x8 hr1 hext1
    refine W.seq ?_
    refine W.region (l := [0]) (by kernel_rfl) ?_
    refine WO.vals [(0, 9, (.bool (decide ((i4 : Int) < (p0.length : Int)))))] (by kernel_rfl) (fun _ => by kernel_rfl) ?_
    refine WO.nil ?_
    refine En.next ?_
    refine W.seq ?_
    refine W.cond (b := (decide ((i4 : Int) < (p0.length : Int)))) rfl rfl (fun hc => ?_) (fun hc => ?_)
    rotate_left
    · exact absurd hc (by first | (simp; done) | (simp; omega))
    clear hc
    refine W.skip ?_
    refine En.next ?_
    refine W.seq ?_
    refine W.block ?_
    refine W.seq ?_
    refine W.region (l := [0, 1]) (by kernel_rfl) ?_
    refine WO.vals [(0, 10, (.int .i64 (i4 : Int))), (1, 5, (.int .i64 (i4 : Int)))] (by kernel_rfl) (fun _ => by kernel_rfl) ?_
    refine WO.nil ?_
    refine En.next ?_
    refine W.seq ?_
    refine W.region (l := [0, 1, 2, 3, 4, 5]) (by kernel_rfl) ?_
    refine WO.vals [(0, 11, (.func (.func g_p1) #[] k_p1.toArray)), (1, 12, (.slice a_p0 p0.length c_p0)), (2, 13, (.int .i64 (i4 : Int)))] (by kernel_rfl) (fun _ => by kernel_rfl) ?_
    obtain ⟨x11, hx_x11, hr1⟩ := bind_some hr1
    obtain ⟨h0_x11, h1_x11, hx_x11⟩ := idx_some hx_x11
    obtain ⟨ha_x11, cs_x11, hn_x11, hr_x11, hc_x11⟩ := ((RSl.mono h_p0 hl3)).el _ _ hx_x11
    obtain rfl := hr_x11
    refine WO.indexAddr (e := 9) (sz := 1) rfl (by kernel_rfl) (by kernel_rfl) (by kernel_rfl) rfl ha_x11 rfl h0_x11 h1_x11 ?_
    refine WO.load rfl (by kernel_rfl) (by kernel_rfl) rfl (v := (.string x11)) (fun w' hw' => hc_x11.cell0 (by kernel_rfl) ((rd_f hS7.im) w' hw')) ?_
    obtain ⟨r17, hx_r12, hr1⟩ := bind_some hr1
    refine WO.callv rfl (by kernel_rfl) rfl (g := g_p1) (kk := k_p1) (args := [(.string x11)]) rfl (by kernel_rfl) hcall_p1 (h_p1 (F := []) hl3 hS7  hx_r12) ?_
    rintro _ w13 ⟨I14, rfl, hl15, hS16⟩
    refine ⟨_, rfl, trivial, ?_⟩
    refine WO.nil ?_
    refine En.next ?_
    refine W.cond (b := r17) rfl rfl (fun hc => ?_) (fun hc => ?_)
    · replace hr1 := cond_t hc hr1
      refine W.seq ?_
      refine W.region (l := [0, 1]) (by kernel_rfl) ?_
      refine WO.vals [(0, 17, (.int .i64 (i4 : Int))), (1, 4, (.int .i64 (i4 : Int)))] (by kernel_rfl) (fun _ => by kernel_rfl) ?_
      refine WO.nil ?_
      refine En.next ?_
      refine W.ret ?_
      refine En.in_ret ?_
      refine En.nx_ret ?_
      refine En.rd_ret ?_
      have ht := hext1 _ (Option.some.inj hr1).symm
      subst t1
      refine En.in_ret ?_
      refine En.nx_ret ?_
      have he := Option.some.inj hr
      subst r
      exact En.ret1 rfl (.int .i64 (i4 : Int)) rfl ⟨I14, rfl, (hl3.trans hl15), hS16⟩
    · replace hr1 := cond_f hc hr1
      refine W.skip ?_
      refine En.in_normal ?_
      refine En.next ?_
      refine W.region (l := [0, 1]) (by kernel_rfl) ?_
      refine WO.incr (j := i4) rfl (by kernel_rfl) rfl (by first | omega | (dsimp only at *; omega)) ?_
      refine WO.vals [(1, 8, (.int .i64 ((i4 + 1 : Nat) : Int)))] (by kernel_rfl) (fun _ => by kernel_rfl) ?_
      refine WO.nil ?_
      refine En.weaken (fr' := [(0, (.slice a_p0 p0.length c_p0)), (1, (.func (.func g_p1) #[] k_p1.toArray)), (7, (.int .i64 (p0.length : Int))), (8, (.int .i64 ((i4 + 1 : Nat) : Int)))]) (En.round ⟨(), (Option.some.inj hr1).symm, I14, rfl, (hl3.trans hl15), hS16⟩) (Sub.cons rfl (Sub.cons rfl (Sub.cons rfl (Sub.cons rfl Sub.nil))))
  case lastt1 =>
    rintro _ _ w20 ⟨I2, rfl, hl3, hS21⟩ he
    cases he
    refine W.seq ?_
    refine W.region (l := [0]) (by kernel_rfl) ?_
    refine WO.vals [(0, 9, (.bool (decide ((p0.length : Int) < (p0.length : Int)))))] (by kernel_rfl) (fun _ => by kernel_rfl) ?_
    refine WO.nil ?_
    refine En.next ?_
    refine W.seq ?_
    refine W.cond (b := (decide ((p0.length : Int) < (p0.length : Int)))) rfl rfl (fun hc => ?_) (fun hc => ?_)
    · exact absurd hc (by first | (simp; done) | (simp; omega))
    clear hc
    refine W.exit ?_
    refine En.nx_exit ?_
    refine En.rd_exit ?_
    refine En.in_hit ?_
    refine En.next ?_
    refine W.seq ?_
    refine W.region (l := [0]) (by kernel_rfl) ?_
    refine WO.vals [(0, 4, (.int .i64 (-1)))] (by kernel_rfl) (fun _ => by kernel_rfl) ?_
    refine WO.nil ?_
    refine En.next ?_
    refine W.ret ?_
    have he := Option.some.inj hr
    subst r
    exact En.ret1 rfl (.int .i64 (-1)) rfl ⟨I2, rfl, hl3, hS21⟩
def slices_ContainsFunc_string (p0 : List ByteArray) (p1 : ByteArray → Option Bool) : Option Bool := (slices_IndexFunc_string p0 p1).bind (fun (r6 : Int) => some (decide (r6 ≥ 0)))
set_option maxHeartbeats 1000000 in
theorem slices_ContainsFunc_string_ok {E w : World} {I : Mem} {Os : List Mem} {p0 : List ByteArray} {p1 : ByteArray → Option Bool} {a_p0 : Option Addr} {c_p0 : Nat} {g_p1 : FuncId} {k_p1 : List Value} (h_p0 : RSl 1 RStr I a_p0 c_p0 p0) (h_p1 : ∀ {F : List Mem} {I' : Mem} {w : World} {u0 : ByteArray}, I.Le I' → St E w I' (F ++ Os) → ∀ {r : Bool}, p1 u0 = some r → Calls P g_p1 (([(.string u0)] : List Value) ++ k_p1).toArray w (fun e w' => ∃ (I'' : Mem), e = .returned (.bool r) ∧ I'.Le I'' ∧ St E w' I'' (F ++ Os))) (hcall_p1 : Callable P g_p1) (hS : St E w I Os) {r : Bool} (hr : slices_ContainsFunc_string p0 p1 = some r) :
    Calls P 25 #[(.slice a_p0 p0.length c_p0), (.func (.func g_p1) #[] k_p1.toArray)] w (fun e w' => ∃ (I' : Mem), e = .returned (.bool r) ∧ I.Le I' ∧ St E w' I' Os) := by
  refine calls_W (args := [(.slice a_p0 p0.length c_p0), (.func (.func g_p1) #[] k_p1.toArray)]) (fn := Tryz.f25) rfl rfl rfl ?_
  unfold slices_ContainsFunc_string at hr
  refine W.seq ?_
  refine W.region (l := [0]) (by kernel_rfl) ?_
  refine WO.vals [(0, 4, (.bool false))] (by kernel_rfl) (fun _ => by kernel_rfl) ?_
  refine WO.nil ?_
  refine En.next ?_
  refine W.seq ?_
  refine W.region (l := [0, 1, 2, 3, 4]) (by kernel_rfl) ?_
  refine WO.vals [(0, 5, (.slice a_p0 p0.length c_p0)), (1, 6, (.func (.func g_p1) #[] k_p1.toArray))] (by kernel_rfl) (fun _ => by kernel_rfl) ?_
  obtain ⟨r6, hx_r1, hr⟩ := bind_some hr
  refine WO.call rfl (by kernel_rfl) rfl (f := 51) (args := #[(.slice a_p0 p0.length c_p0), (.func (.func g_p1) #[] k_p1.toArray)]) (by kernel_rfl) (slices_IndexFunc_string_ok h_p0 (fun {F Ic wc} {_} hlc hSc  {rc} hrc => h_p1 hlc hSc  hrc) hcall_p1 hS hx_r1) ?_
  rintro _ w2 ⟨I3, rfl, hl4, hS5⟩
  refine ⟨_, rfl, trivial, ?_⟩
  refine WO.vals [(3, 8, (.bool (decide (r6 ≥ 0)))), (4, 4, (.bool (decide (r6 ≥ 0))))] (by kernel_rfl) (fun _ => by kernel_rfl) ?_
  refine WO.nil ?_
  refine En.next ?_
  refine W.ret ?_
  have he := Option.some.inj hr
  subst r
  exact En.ret1 rfl (.bool (decide (r6 ≥ 0))) rfl ⟨I3, rfl, hl4, hS5⟩
def slices_IndexFunc_api_Role (p0 : List api_Role) (p1 : api_Role → Option Bool) : Option Int := (forN (fun (i4 : Nat) => fun (_s : Unit) => (idx p0 (i4 : Int)).bind (fun (x11 : api_Role) => (p1 x11).bind (fun (r17 : Bool) => (bif r17 then some (.inr (i4 : Int)) else some (.inl ()))))) p0.length 0 ()).bind (fun (t : Unit ⊕ (Int)) => match t with | .inl _ => some (-1) | .inr s19 => some s19)
set_option maxHeartbeats 1000000 in
theorem slices_IndexFunc_api_Role_ok {E w : World} {I : Mem} {Os : List Mem} {p0 : List api_Role} {p1 : api_Role → Option Bool} {a_p0 : Option Addr} {c_p0 : Nat} {g_p1 : FuncId} {k_p1 : List Value} (h_p0 : RSl 2 R_api_Role I a_p0 c_p0 p0) (h_p1 : ∀ {F : List Mem} {I' : Mem} {w : World} {u0 : api_Role} {w_u0 : W_api_Role}, I.Le I' → St E w I' (F ++ Os) → ok_api_Role I' u0 w_u0 → ∀ {r : Bool}, p1 u0 = some r → Calls P g_p1 (([(.agg (cs_api_Role u0 w_u0).toArray)] : List Value) ++ k_p1).toArray w (fun e w' => ∃ (I'' : Mem), e = .returned (.bool r) ∧ I'.Le I'' ∧ St E w' I'' (F ++ Os))) (hcall_p1 : Callable P g_p1) (hS : St E w I Os) {r : Int} (hr : slices_IndexFunc_api_Role p0 p1 = some r) :
    Calls P 53 #[(.slice a_p0 p0.length c_p0), (.func (.func g_p1) #[] k_p1.toArray)] w (fun e w' => ∃ (I' : Mem), e = .returned (.int .i64 r) ∧ I.Le I' ∧ St E w' I' Os) := by
  refine calls_W (args := [(.slice a_p0 p0.length c_p0), (.func (.func g_p1) #[] k_p1.toArray)]) (fn := Tryz.f53) rfl rfl rfl ?_
  unfold slices_IndexFunc_api_Role at hr
  refine W.seq ?_
  refine W.region (l := [0]) (by kernel_rfl) ?_
  refine WO.vals [(0, 4, (.int .i64 0))] (by kernel_rfl) (fun _ => by kernel_rfl) ?_
  refine WO.nil ?_
  refine En.next ?_
  refine W.seq ?_
  refine W.seq ?_
  refine W.region (l := [0, 1, 2]) (by kernel_rfl) ?_
  refine WO.vals [(0, 6, (.slice a_p0 p0.length c_p0)), (1, 7, (.int .i64 (p0.length : Int))), (2, 8, (.int .i64 0))] (by kernel_rfl) (fun _ => by kernel_rfl) ?_
  refine WO.nil ?_
  refine En.next ?_
  refine W.block ?_
  obtain ⟨t1, hloop5, hr⟩ := bind_some hr
  have hlt9 := (h_p0).len_lt
  refine W.weaken (fr' := [(0, (.slice a_p0 p0.length c_p0)), (1, (.func (.func g_p1) #[] k_p1.toArray)), (7, (.int .i64 (p0.length : Int))), (8, (.int .i64 ((0 : Nat) : Int)))]) (W.forN (m := p0.length) hloop5 (fun (i4 : Nat) => fun (_s : Unit) fr w => ∃ (I2 : Mem), fr = [(0, (.slice a_p0 p0.length c_p0)), (1, (.func (.func g_p1) #[] k_p1.toArray)), (7, (.int .i64 (p0.length : Int))), (8, (.int .i64 (i4 : Int)))] ∧ I.Le I2 ∧ St E w I2 Os) ⟨I, rfl, Mem.Le.refl _, hS⟩ ?roundt1 ?lastt1) (Sub.cons rfl (Sub.cons rfl (Sub.cons rfl (Sub.cons rfl Sub.nil))))
  case roundt1 =>
    rintro i4 _ _ w6 hi10 ⟨I2, rfl, hl3, hS7⟩ x8 hr1 hext1
    refine W.seq ?_
    refine W.region (l := [0]) (by kernel_rfl) ?_
    refine WO.vals [(0, 9, (.bool (decide ((i4 : Int) < (p0.length : Int)))))] (by kernel_rfl) (fun _ => by kernel_rfl) ?_
    refine WO.nil ?_
    refine En.next ?_
    refine W.seq ?_
    refine W.cond (b := (decide ((i4 : Int) < (p0.length : Int)))) rfl rfl (fun hc => ?_) (fun hc => ?_)
    rotate_left
    · exact absurd hc (by first | (simp; done) | (simp; omega))
    clear hc
    refine W.skip ?_
    refine En.next ?_
    refine W.seq ?_
    refine W.block ?_
    refine W.seq ?_
    refine W.region (l := [0, 1]) (by kernel_rfl) ?_
    refine WO.vals [(0, 10, (.int .i64 (i4 : Int))), (1, 5, (.int .i64 (i4 : Int)))] (by kernel_rfl) (fun _ => by kernel_rfl) ?_
    refine WO.nil ?_
    refine En.next ?_
    refine W.seq ?_
    refine W.region (l := [0, 1, 2, 3, 4, 5]) (by kernel_rfl) ?_
    refine WO.vals [(0, 11, (.func (.func g_p1) #[] k_p1.toArray)), (1, 12, (.slice a_p0 p0.length c_p0)), (2, 13, (.int .i64 (i4 : Int)))] (by kernel_rfl) (fun _ => by kernel_rfl) ?_
    obtain ⟨x11, hx_x11, hr1⟩ := bind_some hr1
    obtain ⟨h0_x11, h1_x11, hx_x11⟩ := idx_some hx_x11
    obtain ⟨ha_x11, cs_x11, hn_x11, hr_x11, hc_x11⟩ := ((RSl.mono h_p0 hl3)).el _ _ hx_x11
    obtain ⟨w_x11, rfl, h_x11⟩ := hr_x11
    refine WO.indexAddr (e := 28) (sz := 2) rfl (by kernel_rfl) (by kernel_rfl) (by kernel_rfl) rfl ha_x11 rfl h0_x11 h1_x11 ?_
    refine WO.loadN rfl (by kernel_rfl) (by kernel_rfl) rfl ((cs_api_Role x11 w_x11)) (by kernel_rfl) (fun w' hw' => hc_x11.cells (k := 0) (by kernel_rfl) rfl ((rd_f hS7.im) w' hw')) ?_
    obtain ⟨r17, hx_r12, hr1⟩ := bind_some hr1
    refine WO.callv rfl (by kernel_rfl) rfl (g := g_p1) (kk := k_p1) (args := [(.agg (cs_api_Role x11 w_x11).toArray)]) rfl (by kernel_rfl) hcall_p1 (h_p1 (F := []) hl3 hS7 h_x11 hx_r12) ?_
    rintro _ w13 ⟨I14, rfl, hl15, hS16⟩
    refine ⟨_, rfl, trivial, ?_⟩
    refine WO.nil ?_
    refine En.next ?_
    refine W.cond (b := r17) rfl rfl (fun hc => ?_) (fun hc => ?_)
    · replace hr1 := cond_t hc hr1
      refine W.seq ?_
      refine W.region (l := [0, 1]) (by kernel_rfl) ?_
      refine WO.vals [(0, 17, (.int .i64 (i4 : Int))), (1, 4, (.int .i64 (i4 : Int)))] (by kernel_rfl) (fun _ => by kernel_rfl) ?_
      refine WO.nil ?_
      refine En.next ?_
      refine W.ret ?_
      refine En.in_ret ?_
      refine En.nx_ret ?_
      refine En.rd_ret ?_
      have ht := hext1 _ (Option.some.inj hr1).symm
      subst t1
      refine En.in_ret ?_
      refine En.nx_ret ?_
      have he := Option.some.inj hr
      subst r
      exact En.ret1 rfl (.int .i64 (i4 : Int)) rfl ⟨I14, rfl, (hl3.trans hl15), hS16⟩
    · replace hr1 := cond_f hc hr1
      refine W.skip ?_
      refine En.in_normal ?_
      refine En.next ?_
      refine W.region (l := [0, 1]) (by kernel_rfl) ?_
      refine WO.incr (j := i4) rfl (by kernel_rfl) rfl (by first | omega | (dsimp only at *; omega)) ?_
      refine WO.vals [(1, 8, (.int .i64 ((i4 + 1 : Nat) : Int)))] (by kernel_rfl) (fun _ => by kernel_rfl) ?_
      refine WO.nil ?_
      refine En.weaken (fr' := [(0, (.slice a_p0 p0.length c_p0)), (1, (.func (.func g_p1) #[] k_p1.toArray)), (7, (.int .i64 (p0.length : Int))), (8, (.int .i64 ((i4 + 1 : Nat) : Int)))]) (En.round ⟨(), (Option.some.inj hr1).symm, I14, rfl, (hl3.trans hl15), hS16⟩) (Sub.cons rfl (Sub.cons rfl (Sub.cons rfl (Sub.cons rfl Sub.nil))))
  case lastt1 =>
    rintro _ _ w20 ⟨I2, rfl, hl3, hS21⟩ he
    cases he
    refine W.seq ?_
    refine W.region (l := [0]) (by kernel_rfl) ?_
    refine WO.vals [(0, 9, (.bool (decide ((p0.length : Int) < (p0.length : Int)))))] (by kernel_rfl) (fun _ => by kernel_rfl) ?_
    refine WO.nil ?_
    refine En.next ?_
    refine W.seq ?_
    refine W.cond (b := (decide ((p0.length : Int) < (p0.length : Int)))) rfl rfl (fun hc => ?_) (fun hc => ?_)
    · exact absurd hc (by first | (simp; done) | (simp; omega))
    clear hc
    refine W.exit ?_
    refine En.nx_exit ?_
    refine En.rd_exit ?_
    refine En.in_hit ?_
    refine En.next ?_
    refine W.seq ?_
    refine W.region (l := [0]) (by kernel_rfl) ?_
    refine WO.vals [(0, 4, (.int .i64 (-1)))] (by kernel_rfl) (fun _ => by kernel_rfl) ?_
    refine WO.nil ?_
    refine En.next ?_
    refine W.ret ?_
    have he := Option.some.inj hr
    subst r
    exact En.ret1 rfl (.int .i64 (-1)) rfl ⟨I2, rfl, hl3, hS21⟩
def member_at_1 (p0 : api_Role) (q1 : ByteArray) : Option Bool := some (sEq p0.Name q1)
set_option maxHeartbeats 1000000 in
theorem member_at_1_ok {E w : World} {I : Mem} {Os : List Mem} {p0 : api_Role} {q1 : ByteArray} {w_p0 : W_api_Role} {kb1 : Nat} (h_p0 : ok_api_Role I p0 w_p0) (hm1 : (Gv.one kb1 (.cells #[(.string q1)] 9 (0, 0))) ∈ Os) (hS : St E w I Os) {r : Bool} (hr : member_at_1 p0 q1 = some r) :
    Calls P 57 #[(.agg (cs_api_Role p0 w_p0).toArray), (.pointer (some ⟨kb1, 0, none⟩))] w (fun e w' => ∃ (I' : Mem), e = .returned (.bool r) ∧ I.Le I' ∧ St E w' I' Os) := by
  refine calls_W (args := [(.agg (cs_api_Role p0 w_p0).toArray), (.pointer (some ⟨kb1, 0, none⟩))]) (fn := Tryz.f57) rfl rfl rfl ?_
  unfold member_at_1 at hr
  refine W.seq ?_
  refine W.region (l := [0, 1]) (by kernel_rfl) ?_
  refine WO.new hS rfl (by kernel_rfl) rfl (.cells (cs_api_Role p0 w_p0).toArray 28 (0, 0)) (fun b => .pointer (some ⟨b, 0, none⟩)) (by kernel_rfl) (fun _ _ _ => trivial) ?_
  intro b1 w4 hS3
  refine WO.vals [(1, 3, (.bool false))] (by kernel_rfl) (fun _ => by kernel_rfl) ?_
  refine WO.nil ?_
  refine En.next ?_
  refine W.seq ?_
  refine W.region (l := [0, 1, 2, 3, 4]) (by kernel_rfl) ?_
  refine WO.vals [(0, 4, (.pointer (some ⟨b1, 0, none⟩)))] (by kernel_rfl) (fun _ => by kernel_rfl) ?_
  refine WO.load rfl (by kernel_rfl) (by kernel_rfl) rfl (v := (.string p0.Name)) (fun w' hw' => cell_one ((rd_f (hS3.rd (List.Mem.head _))) w' hw') (by kernel_rfl)) ?_
  refine WO.load rfl (by kernel_rfl) (by kernel_rfl) rfl (v := (.string q1)) (fun w' hw' => cell_one ((rd_f (hS3.rd (List.Mem.tail _ hm1))) w' hw') (by kernel_rfl)) ?_
  refine WO.vals [(3, 7, (.bool (sEq p0.Name q1))), (4, 3, (.bool (sEq p0.Name q1)))] (by kernel_rfl) (fun _ => by kernel_rfl) ?_
  refine WO.nil ?_
  refine En.next ?_
  refine W.ret ?_
  have hS5 := hS3.drop
  have he := Option.some.inj hr
  subst r
  exact En.ret1 rfl (.bool (sEq p0.Name q1)) rfl ⟨I, rfl, Mem.Le.refl _, hS5⟩
def member_at (p0 : List api_Role) (p1 : ByteArray) : Option Int := (slices_IndexFunc_api_Role p0 (fun (u0 : api_Role) => member_at_1 u0 p1)).bind (fun (r10 : Int) => some r10)
set_option maxHeartbeats 1000000 in
theorem member_at_ok {E w : World} {I : Mem} {Os : List Mem} {p0 : List api_Role} {p1 : ByteArray} {a_p0 : Option Addr} {c_p0 : Nat} (h_p0 : RSl 2 R_api_Role I a_p0 c_p0 p0) (hS : St E w I Os) {r : Int} (hr : member_at p0 p1 = some r) :
    Calls P 34 #[(.slice a_p0 p0.length c_p0), (.string p1)] w (fun e w' => ∃ (I' : Mem), e = .returned (.int .i64 r) ∧ I.Le I' ∧ St E w' I' Os) := by
  refine calls_W (args := [(.slice a_p0 p0.length c_p0), (.string p1)]) (fn := Tryz.f34) rfl rfl rfl ?_
  unfold member_at at hr
  refine W.seq ?_
  refine W.region (l := [0, 1]) (by kernel_rfl) ?_
  refine WO.new hS rfl (by kernel_rfl) rfl (.cells #[(.string p1)] 9 (0, 0)) (fun b => .pointer (some ⟨b, 0, none⟩)) (by kernel_rfl) (fun _ _ _ => trivial) ?_
  intro b1 w4 hS3
  refine WO.vals [(1, 4, (.int .i64 0))] (by kernel_rfl) (fun _ => by kernel_rfl) ?_
  refine WO.nil ?_
  refine En.next ?_
  refine W.seq ?_
  refine W.region (l := [0, 1, 2, 3]) (by kernel_rfl) ?_
  refine WO.vals [(0, 5, (.slice a_p0 p0.length c_p0)), (1, 6, (.func (.func 57) #[] #[(.pointer (some ⟨b1, 0, none⟩))]))] (by kernel_rfl) (fun _ => by kernel_rfl) ?_
  obtain ⟨r10, hx_r5, hr⟩ := bind_some hr
  refine WO.call rfl (by kernel_rfl) rfl (f := 53) (args := #[(.slice a_p0 p0.length c_p0), (.func (.func 57) #[] #[(.pointer (some ⟨b1, 0, none⟩))])]) (by kernel_rfl) (slices_IndexFunc_api_Role_ok h_p0 (fun {F Ic wc} {_} {_} hlc hSc h_u0 {rc} hrc => member_at_1_ok h_u0 (List.mem_append_right _ (List.Mem.head _)) hSc hrc) (fun _ _ => by kernel_rfl) hS3 hx_r5) ?_
  rintro _ w6 ⟨I7, rfl, hl8, hS9⟩
  refine ⟨_, rfl, trivial, ?_⟩
  refine WO.vals [(3, 4, (.int .i64 r10))] (by kernel_rfl) (fun _ => by kernel_rfl) ?_
  refine WO.nil ?_
  refine En.next ?_
  refine W.ret ?_
  have hS11 := hS9.drop
  have he := Option.some.inj hr
  subst r
  exact En.ret1 rfl (.int .i64 r10) rfl ⟨I7, rfl, hl8, hS11⟩
def slices_Clone_string (p0 : List ByteArray) : Option (List ByteArray) := (app 16 ([] : List ByteArray) p0).bind (fun (x10 : List ByteArray) => some x10)
set_option maxHeartbeats 1000000 in
theorem slices_Clone_string_ok {E w : World} {I : Mem} {Os : List Mem} {p0 : List ByteArray} {a_p0 : Option Addr} {c_p0 : Nat} (h_p0 : RSl 1 RStr I a_p0 c_p0 p0) (hS : St E w I Os) {r : (List ByteArray)} (hr : slices_Clone_string p0 = some r) :
    Calls P 59 #[(.slice a_p0 p0.length c_p0)] w (fun e w' => ∃ (I' : Mem) (ra0 : Option Addr) (rc0 : Nat) (rC0 : Mem), e = .returned (.slice ra0 r.length rc0) ∧ I.Le I' ∧ St E w' I' (rC0 :: Os) ∧ OwnSl 9 1 RStr I' rC0 ra0 rc0 r) := by
  refine calls_W (args := [(.slice a_p0 p0.length c_p0)]) (fn := Tryz.f59) rfl rfl rfl ?_
  unfold slices_Clone_string at hr
  refine W.seq ?_
  refine W.region (l := [0]) (by kernel_rfl) ?_
  refine WO.vals [(0, 2, (.slice none 0 0))] (by kernel_rfl) (fun _ => by kernel_rfl) ?_
  refine WO.nil ?_
  refine En.next ?_
  refine W.seq ?_
  refine W.seq ?_
  refine W.region (l := [0, 1]) (by kernel_rfl) ?_
  refine WO.vals [(0, 3, (.slice a_p0 p0.length c_p0))] (by kernel_rfl) (fun _ => by kernel_rfl) ?_
  refine WO.eqNil (e := 9) rfl (by kernel_rfl) (by kernel_rfl) rfl rfl ?_
  refine WO.nil ?_
  refine En.next ?_
  refine W.cond (b := (a_p0.isNone)) rfl rfl (fun hc => ?_) (fun hc => ?_)
  · have ha0 := Option.isNone_iff_eq_none.1 hc
    subst ha0
    have hx0 := (h_p0).none_nil
    subst hx0
    replace hr : some ([] : List ByteArray) = some r := by simpa [app] using hr
    refine W.seq ?_
    refine W.region (l := [0]) (by kernel_rfl) ?_
    refine WO.vals [(0, 2, (.slice none 0 0))] (by kernel_rfl) (fun _ => by kernel_rfl) ?_
    refine WO.nil ?_
    refine En.next ?_
    refine W.ret ?_
    refine En.nx_ret ?_
    have hS2 := hS.no
    have he := Option.some.inj hr
    subst r
    exact En.ret1 rfl (.slice none ([] : List ByteArray).length 0) rfl ⟨I, none, 0, Mem.no, rfl, Mem.Le.refl _, hS2, OwnSl.nil⟩
  · clear hc
    refine W.skip ?_
    refine En.next ?_
    refine W.seq ?_
    refine W.region (l := [0, 1, 2, 3]) (by kernel_rfl) ?_
    refine WO.newSlice (rel := RStr) (xs := ([] : List ByteArray)) hS rfl (by kernel_rfl) rfl 9 1 [] (by kernel_rfl) rfl (Elr.nil) (fun _ _ _ => trivial) ?_
    intro a6 C4 w8 hS7 ho5
    refine WO.vals [(1, 6, (.slice a_p0 p0.length c_p0))] (by kernel_rfl) (fun _ => by kernel_rfl) ?_
    obtain ⟨x10, hx_x10, hr⟩ := bind_some hr
    obtain ⟨h0_x10, he_x10⟩ := app_some hx_x10
    refine WO.append (e' := 9) (b := 16) (zs := #[(.string (⟨#[]⟩ : ByteArray))]) hS7 ho5 rfl (by kernel_rfl) rfl (by kernel_rfl) (by kernel_rfl) (by kernel_rfl) rfl rfl rfl rfl h_p0 hS7.im h0_x10 he_x10 (fun _ _ _ => trivial) ?_
    intro a11 c12 w13 C14 hS15 ho16
    refine WO.vals [(3, 2, (.slice a11 x10.length c12))] (by kernel_rfl) (fun _ => by kernel_rfl) ?_
    refine WO.nil ?_
    refine En.next ?_
    refine W.ret ?_
    have he := Option.some.inj hr
    subst r
    exact En.ret1 rfl (.slice a11 x10.length c12) rfl ⟨I, a11, c12, C14, rfl, Mem.Le.refl _, hS15, ho16⟩
def member_Find (p0 : List api_Role) (p1 : ByteArray) : Option (api_Role × Bool) := (member_at p0 p1).bind (fun (r10 : Int) => (bif (decide (r10 < 0)) then some (z_api_Role, false) else (idx p0 r10).bind (fun (x16 : api_Role) => (idx p0 r10).bind (fun (x17 : api_Role) => (slices_Clone_string x17.In).bind (fun (r23 : List ByteArray) => some ({ x16 with In := r23 }, true))))))
set_option maxHeartbeats 1000000 in
theorem member_Find_ok {E w : World} {I : Mem} {Os : List Mem} {p0 : List api_Role} {p1 : ByteArray} {a_p0 : Option Addr} {c_p0 : Nat} (h_p0 : RSl 2 R_api_Role I a_p0 c_p0 p0) (hS : St E w I Os) {r : api_Role × Bool} (hr : member_Find p0 p1 = some r) :
    Calls P 38 #[(.slice a_p0 p0.length c_p0), (.string p1)] w (fun e w' => ∃ (I' : Mem) (w_rw0 : W_api_Role), e = .returned (.tuple #[(.agg (cs_api_Role r.1 w_rw0).toArray), (.bool r.2)]) ∧ I.Le I' ∧ St E w' I' Os ∧ ok_api_Role I' r.1 w_rw0) := by
  refine calls_W (args := [(.slice a_p0 p0.length c_p0), (.string p1)]) (fn := Tryz.f38) rfl rfl rfl ?_
  unfold member_Find at hr
  refine W.seq ?_
  refine W.region (l := [0, 1]) (by kernel_rfl) ?_
  refine WO.new hS rfl (by kernel_rfl) rfl (.cells (cs_api_Role z_api_Role zw_api_Role).toArray 28 (0, 0)) (fun b => .pointer (some ⟨b, 0, none⟩)) (by kernel_rfl) (fun _ _ _ => trivial) ?_
  intro b1 w4 hS3
  refine WO.vals [(1, 5, (.bool false))] (by kernel_rfl) (fun _ => by kernel_rfl) ?_
  refine WO.nil ?_
  refine En.next ?_
  refine W.seq ?_
  refine W.region (l := [0, 1, 2, 3]) (by kernel_rfl) ?_
  refine WO.vals [(0, 7, (.slice a_p0 p0.length c_p0)), (1, 8, (.string p1))] (by kernel_rfl) (fun _ => by kernel_rfl) ?_
  obtain ⟨r10, hx_r5, hr⟩ := bind_some hr
  refine WO.call rfl (by kernel_rfl) rfl (f := 34) (args := #[(.slice a_p0 p0.length c_p0), (.string p1)]) (by kernel_rfl) (member_at_ok h_p0 hS3 hx_r5) ?_
  rintro _ w6 ⟨I7, rfl, hl8, hS9⟩
  refine ⟨_, rfl, trivial, ?_⟩
  refine WO.vals [(3, 6, (.int .i64 r10))] (by kernel_rfl) (fun _ => by kernel_rfl) ?_
  refine WO.nil ?_
  refine En.next ?_
  refine W.seq ?_
  refine W.seq ?_
  refine W.region (l := [0, 1]) (by kernel_rfl) ?_
  refine WO.vals [(0, 10, (.int .i64 r10)), (1, 11, (.bool (decide (r10 < 0))))] (by kernel_rfl) (fun _ => by kernel_rfl) ?_
  refine WO.nil ?_
  refine En.next ?_
  refine W.cond (b := (decide (r10 < 0))) rfl rfl (fun hc => ?_) (fun hc => ?_)
  · replace hr := cond_t hc hr
    refine W.seq ?_
    refine W.region (l := [0, 1, 2]) (by kernel_rfl) ?_
    refine WO.vals [(0, 12, (.agg (cs_api_Role z_api_Role zw_api_Role).toArray))] (by kernel_rfl) (fun _ => by kernel_rfl) ?_
    refine WO.storeBox hS9 rfl (by kernel_rfl) rfl 0 rfl rfl (by kernel_rfl) (by kernel_rfl) (by kernel_rfl) ((cs_api_Role z_api_Role zw_api_Role).toArray) (by kernel_rfl) (fun _ _ => trivial) ?_
    intro w12 hS11
    refine WO.vals [(2, 5, (.bool false))] (by kernel_rfl) (fun _ => by kernel_rfl) ?_
    refine WO.nil ?_
    refine En.next ?_
    refine W.ret ?_
    refine En.nx_ret ?_
    have hS13 := hS11.drop
    have he := Option.some.inj hr
    subst r
    exact En.retc2 rfl (.agg (cs_api_Role z_api_Role zw_api_Role).toArray) (.bool false) ⟨_, _, rfl, run_loadVarN (cs := (cs_api_Role z_api_Role zw_api_Role)) (by kernel_rfl) (by kernel_rfl) (cells_one (hS11.rd (List.Mem.head _)) (by kernel_rfl))⟩ rfl ⟨I7, zw_api_Role, rfl, hl8, hS13, zok_api_Role⟩
  · replace hr := cond_f hc hr
    refine W.skip ?_
    refine En.next ?_
    refine W.seq ?_
    have hS14 := hS9.drew
    refine W.draw (l := [0, 1, 2, 3, 4, 5, 6, 7, 8, 9, 10, 11, 12, 13]) (by kernel_rfl) 11 (KR I7 []) qR (.back (by kernel_rfl)) (by kernel_rfl) (KR.nil hS14.im) ?_
    generalize World.drew _ = w15 at *
    refine WO.vals [(0, 13, (.slice a_p0 p0.length c_p0)), (1, 14, (.int .i64 r10))] (by kernel_rfl) (fun _ => by kernel_rfl) ?_
    obtain ⟨x16, hx_x16, hr⟩ := bind_some hr
    obtain ⟨h0_x16, h1_x16, hx_x16⟩ := idx_some hx_x16
    obtain ⟨ha_x16, cs_x16, hn_x16, hr_x16, hc_x16⟩ := ((RSl.mono h_p0 hl8)).el _ _ hx_x16
    obtain ⟨w_x16, rfl, h_x16⟩ := hr_x16
    refine WO.indexAddr (e := 28) (sz := 2) rfl (by kernel_rfl) (by kernel_rfl) (by kernel_rfl) rfl ha_x16 rfl h0_x16 h1_x16 ?_
    refine WO.vals [(3, 16, (.pointer (some ⟨bl a_p0, of a_p0 + (r10).toNat * 2, none⟩)))] (by kernel_rfl) (fun _ => by kernel_rfl) ?_
    refine WO.load rfl (by kernel_rfl) (by kernel_rfl) rfl (v := (.string x16.Name)) (fun w' hw' => hc_x16.cell0 (by kernel_rfl) ((rd_i hS14.im) w' hw')) ?_
    refine WO.vals [(5, 18, (.slice a_p0 p0.length c_p0)), (6, 19, (.int .i64 r10))] (by kernel_rfl) (fun _ => by kernel_rfl) ?_
    obtain ⟨x17, hx_x17, hr⟩ := bind_some hr
    obtain ⟨h0_x17, h1_x17, hx_x17⟩ := idx_some hx_x17
    obtain ⟨ha_x17, cs_x17, hn_x17, hr_x17, hc_x17⟩ := ((RSl.mono h_p0 hl8)).el _ _ hx_x17
    obtain ⟨w_x17, rfl, h_x17⟩ := hr_x17
    refine WO.indexAddr (e := 28) (sz := 2) rfl (by kernel_rfl) (by kernel_rfl) (by kernel_rfl) rfl ha_x17 rfl h0_x17 h1_x17 ?_
    refine WO.vals [(8, 21, (.pointer (some ⟨bl a_p0, of a_p0 + (r10).toNat * 2 + 1, none⟩)))] (by kernel_rfl) (fun _ => by kernel_rfl) ?_
    refine WO.load rfl (by kernel_rfl) (by kernel_rfl) rfl (v := (.slice w_x17.In.a x17.In.length w_x17.In.c)) (fun w' hw' => hc_x17.cellk 1 (by kernel_rfl) ((rd_i hS14.im) w' hw')) ?_
    obtain ⟨r23, hx_r18, hr⟩ := bind_some hr
    refine WO.call rfl (by kernel_rfl) rfl (f := 59) (args := #[(.slice w_x17.In.a x17.In.length w_x17.In.c)]) (by kernel_rfl) (slices_Clone_string_ok h_x17.In hS14 hx_r18) ?_
    rintro _ w19 ⟨I20, a_r23, c_r23, C_r23, rfl, hl21, hS22, h_r23⟩
    refine ⟨_, rfl, (KR.nil (hS22.im.of_le hl21)), ?_⟩
    refine WO.tail rfl ?_
    obtain ⟨I24, hl25, hS27, hp26⟩ := OwnSl.pub h_r23 hS22
    refine WO.vals [(11, 24, (.agg (cs_api_Role ({ x16 with In := r23 }) (⟨⟨a_r23, c_r23⟩⟩ : W_api_Role)).toArray))] (by kernel_rfl) (fun _ => by kernel_rfl) ?_
    refine WO.storeBox hS27 rfl (by kernel_rfl) rfl 0 rfl rfl (by kernel_rfl) (by kernel_rfl) (by kernel_rfl) ((cs_api_Role ({ x16 with In := r23 }) (⟨⟨a_r23, c_r23⟩⟩ : W_api_Role)).toArray) (by kernel_rfl) (fun _ _ => trivial) ?_
    intro w29 hS28
    refine WO.vals [(13, 5, (.bool true))] (by kernel_rfl) (fun _ => by kernel_rfl) ?_
    refine WO.nil ?_
    refine En.next ?_
    refine W.ret ?_
    have hS30 := hS28.drop
    have hk31 : ok_api_Role I24 ({ x16 with In := r23 }) (⟨⟨a_r23, c_r23⟩⟩ : W_api_Role) := ⟨hp26⟩
    have he := Option.some.inj hr
    subst r
    exact En.retc2 rfl (.agg (cs_api_Role ({ x16 with In := r23 }) (⟨⟨a_r23, c_r23⟩⟩ : W_api_Role)).toArray) (.bool true) ⟨_, _, rfl, run_loadVarN (cs := (cs_api_Role ({ x16 with In := r23 }) (⟨⟨a_r23, c_r23⟩⟩ : W_api_Role))) (by kernel_rfl) (by kernel_rfl) (cells_one (hS28.rd (List.Mem.head _)) (by kernel_rfl))⟩ rfl ⟨I24, (⟨⟨a_r23, c_r23⟩⟩ : W_api_Role), rfl, ((hl8.trans hl21).trans hl25), hS30, hk31⟩
theorem sorted39_40_ok {ν : Type} {val : Mem → Value → ν → Prop} {E w : World} {I C : Mem} {Os : List Mem} {m b : Nat} {l : List (ByteArray × ν)} (h : OwnMap Value.string val I C m l) (hS : St E w I (Gv.one b (.cells #[.map (some m)] 60 (0, 0)) :: C :: Os)) {r : List ByteArray} (hr : keysO l = some r) :
    Calls P 39 #[.func (.func 66) #[] #[.pointer (some ⟨b, 0, none⟩)]] w (fun e w' => ∃ (I' : Mem) (a : Option Addr) (c : Nat), e = .returned (.slice a r.length c) ∧ I.Le I' ∧ St E w' I' (Gv.one b (.cells #[.map (some m)] 60 (0, 0)) :: C :: Os) ∧ RSl 1 RStr I' a c r) :=
  keys_own h hS (kt := 9) (by kernel_rfl) (fun b' nn D0 R w h1 h2 h3 h4 h5 => Tryz.sortedAt39_40 b b' nn D0 R w h1 h2 h3 h4 h5) hr
theorem keys40_ok {E w : World} {I : Mem} {Os : List Mem} {m : Nat} (hS : St E w I Os) : Calls P 40 #[.map (some m)] w (fun e w' => ∃ b, e = .returned (.func (.func 66) #[] #[.pointer (some ⟨b, 0, none⟩)]) ∧ St E w' I (Gv.one b (.cells #[.map (some m)] 60 (0, 0)) :: Os)) := by
  refine (Tryz.maps_Keys_40 (some m) w).mono ?_
  rintro e w' ⟨rfl, rfl⟩
  exact ⟨_, rfl, hS.alloc _⟩
noncomputable def member_AllM (p0 : List api_Role) (p1 : ByteArray) : M (List ByteArray) := bindM (optM (member_at p0 p1)) (fun (r6 : Int) => (bif (decide (r6 < 0)) then retM ([] : List ByteArray) else bindM (loopM (fun (s : Bool × (List (ByteArray × Bool))) => match s with | (s18, s19) => (bif s18 then bindM (rangeM (fun (k71 : ByteArray) (x72 : Bool) => fun (s33 : List ByteArray) => (member_Find p0 k71).bind (fun ((r91, r92) : api_Role × Bool) => (forE (fun (i103 : Nat) => fun (s102 : List ByteArray) => (idx r91.In (i103 : Int)).bind (fun (x114 : ByteArray) => (some ((mget sEq s19 x114).getD false)).bind (fun (x115 : Bool) => ((bif (!x115) then (member_at p0 x114).bind (fun (r125 : Int) => some (decide (r125 ≥ 0))) else some false)).bind (fun (j116 : Bool) => ((bif j116 then (app 16 s102 ([x114] : List ByteArray)).bind (fun (x140 : List ByteArray) => some x140) else some s102)).bind (fun (j128 : List ByteArray) => some j128))))) r91.In.length 0 s33).bind (fun (s102 : (List ByteArray)) => some (.inl s102)))) s19 ([] : List ByteArray)) (fun (t : (List ByteArray) ⊕ Unit) => Sum.elim (fun (s33 : List ByteArray) => bindM (optM (forE (fun (i53 : Nat) => fun (s52 : List (ByteArray × Bool)) => (idx s33 (i53 : Int)).bind (fun (x61 : ByteArray) => some (mset sEq s52 x61 true))) s33.length 0 s19)) (fun (s52 : List (ByteArray × Bool)) => retM (.inl ((decide ((s33.length : Int) > 0)), s52)))) (fun _ _ => False) t) else retM (.inr s19))) (true, (mset sEq ([] : List (ByteArray × Bool)) p1 true))) (fun (s156 : List (ByteArray × Bool)) => bindM (optM (keysO s156)) (fun (r163 : List ByteArray) => retM r163))))
noncomputable def member_All (p0 : List api_Role) (p1 : ByteArray) : Option (List ByteArray) := ofM (member_AllM p0 p1)
set_option maxHeartbeats 1000000 in
theorem member_All_ok {E w : World} {I : Mem} {Os : List Mem} {p0 : List api_Role} {p1 : ByteArray} {a_p0 : Option Addr} {c_p0 : Nat} (h_p0 : RSl 2 R_api_Role I a_p0 c_p0 p0) (hS : St E w I Os) {r : (List ByteArray)} (hr : member_All p0 p1 = some r) :
    Calls P 13 #[(.slice a_p0 p0.length c_p0), (.string p1)] w (fun e w' => ∃ (I' : Mem) (ra0 : Option Addr) (rc0 : Nat), e = .returned (.slice ra0 r.length rc0) ∧ I.Le I' ∧ St E w' I' Os ∧ RSl 1 RStr I' ra0 rc0 r) := by
  refine calls_W (args := [(.slice a_p0 p0.length c_p0), (.string p1)]) (fn := Tryz.f13) rfl rfl rfl ?_
  replace hr := ofM_some (m := member_AllM p0 p1) hr
  unfold member_AllM at hr
  refine W.seq ?_
  refine W.region (l := [0]) (by kernel_rfl) ?_
  refine WO.vals [(0, 4, (.slice none 0 0))] (by kernel_rfl) (fun _ => by kernel_rfl) ?_
  refine WO.nil ?_
  refine En.next ?_
  refine W.seq ?_
  refine W.seq ?_
  refine W.region (l := [0, 1, 2, 3]) (by kernel_rfl) ?_
  refine WO.vals [(0, 15, (.slice a_p0 p0.length c_p0)), (1, 16, (.string p1))] (by kernel_rfl) (fun _ => by kernel_rfl) ?_
  obtain ⟨r6, hx_r1, hr⟩ := optM_some hr
  refine WO.call rfl (by kernel_rfl) rfl (f := 34) (args := #[(.slice a_p0 p0.length c_p0), (.string p1)]) (by kernel_rfl) (member_at_ok h_p0 hS hx_r1) ?_
  rintro _ w2 ⟨I3, rfl, hl4, hS5⟩
  refine ⟨_, rfl, trivial, ?_⟩
  refine WO.vals [(3, 18, (.bool (decide (r6 < 0))))] (by kernel_rfl) (fun _ => by kernel_rfl) ?_
  refine WO.nil ?_
  refine En.next ?_
  refine W.cond (b := (decide (r6 < 0))) rfl rfl (fun hc => ?_) (fun hc => ?_)
  · replace hr := condM_t hc hr
    refine W.seq ?_
    refine W.region (l := [0]) (by kernel_rfl) ?_
    refine WO.vals [(0, 4, (.slice none 0 0))] (by kernel_rfl) (fun _ => by kernel_rfl) ?_
    refine WO.nil ?_
    refine En.next ?_
    refine W.ret ?_
    refine En.nx_ret ?_
    have he : ([] : List ByteArray) = r := hr
    subst r
    exact En.ret1 rfl (.slice none 0 0) rfl ⟨I3, none, 0, rfl, hl4, hS5, SlAt.nil⟩
  · replace hr := condM_f hc hr
    refine W.skip ?_
    refine En.next ?_
    refine W.seq ?_
    refine W.region (l := [0, 1, 2, 3, 4]) (by kernel_rfl) ?_
    refine WO.new hS5 rfl (by kernel_rfl) rfl (.map #[] 0) (fun b => .map (some b)) (by kernel_rfl) (fun _ _ _ => trivial) ?_
    intro b7 w10 hS9
    refine WO.vals [(1, 20, (.string p1))] (by kernel_rfl) (fun _ => by kernel_rfl) ?_
    refine WO.update (OwnMap.nil (enc := Value.string) (val := (val1 RBool)) (I := I3) (m := b7)) hS9 (t := 60) (kt := 9) (et := 4) (by kernel_rfl) (keyLaw_str (kt := 9) (by kernel_rfl)) rfl (by kernel_rfl) rfl (.inr rfl) rfl p1 rfl rfl (xv := true) rfl (fun _ _ _ => trivial) ?_
    intro w13 C11 hS12 hm14
    refine WO.vals [(3, 21, (.map (some b7))), (4, 5, (.map (some b7)))] (by kernel_rfl) (fun _ => by kernel_rfl) ?_
    refine WO.nil ?_
    refine En.next ?_
    refine W.seq ?_
    refine W.seq ?_
    refine W.region (l := [0]) (by kernel_rfl) ?_
    refine WO.vals [(0, 6, (.bool true))] (by kernel_rfl) (fun _ => by kernel_rfl) ?_
    refine WO.nil ?_
    refine En.next ?_
    refine W.block ?_
    have hloop20 : Gv.loopM _ _ _ := hr
    refine W.weaken (fr' := [(0, (.slice a_p0 p0.length c_p0)), (5, (.map (some b7))), (6, (.bool true))]) (W.loopM hloop20 (fun (s : Bool × (List (ByteArray × Bool))) fr w => match s with | (s18, s19) => ∃ (I16 : Mem), ∃ (C_s19 : Mem), fr = [(0, (.slice a_p0 p0.length c_p0)), (5, (.map (some b7))), (6, (.bool s18))] ∧ I3.Le I16 ∧ St E w I16 ((C_s19) :: Os) ∧ OwnMap Value.string (val1 RBool) I16 C_s19 b7 s19) ⟨I3, C11, rfl, Mem.Le.refl _, hS12, hm14⟩ ?_) (Sub.cons rfl (Sub.cons rfl (Sub.cons rfl Sub.nil)))
    rintro ⟨s18, s19⟩ _ w21 ⟨I16, C_s19, rfl, hl17, hS22, h_s19⟩ Kx23 hr1
    refine W.seq ?_
    refine W.seq ?_
    refine W.region (l := [0]) (by kernel_rfl) ?_
    refine WO.vals [(0, 22, (.bool s18))] (by kernel_rfl) (fun _ => by kernel_rfl) ?_
    refine WO.nil ?_
    refine En.next ?_
    refine W.cond (b := s18) rfl rfl (fun hc => ?_) (fun hc => ?_)
    · replace hr1 := condM_t hc hr1
      refine W.skip ?_
      refine En.next ?_
      refine W.block ?_
      refine W.seq ?_
      refine W.region (l := [0]) (by kernel_rfl) ?_
      refine WO.vals [(0, 7, (.slice none 0 0))] (by kernel_rfl) (fun _ => by kernel_rfl) ?_
      refine WO.nil ?_
      refine En.next ?_
      refine W.seq ?_
      refine W.seq ?_
      refine W.region (l := [0, 1]) (by kernel_rfl) ?_
      refine WO.vals [(0, 23, (.map (some b7)))] (by kernel_rfl) (fun _ => by kernel_rfl) ?_
      refine WO.rangeMap h_s19 hS22 (t := 60) (kt := 9) (et := 4) (by kernel_rfl) rfl (by kernel_rfl) rfl rfl (fun _ _ _ => trivial) ?_
      intro b24 w25 D26 hS27 hit28
      refine WO.nil ?_
      refine En.next ?_
      refine W.block ?_
      have hloop38 : Gv.rangeM _ _ _ _ := hr1
      have hS40 := hS27.no
      have hS41 := hS40.front1
      have hS42 := hS41.front2
      refine W.weaken (fr' := [(0, (.slice a_p0 p0.length c_p0)), (5, (.map (some b7))), (7, (.slice none ([] : List ByteArray).length 0)), (24, (.pointer (some ⟨b24, 0, none⟩)))]) (W.rangeM hloop38 (fun (rm34 : List (ByteArray × Bool)) => fun (s33 : List ByteArray) fr w => ∃ (I31 : Mem), ∃ (a_s33 : Option Addr), ∃ (c_s33 : Nat), ∃ (C_s33 : Mem), ∃ (D35 : Mem), ∃ (lst37 : Option (Value × Value)), fr = [(0, (.slice a_p0 p0.length c_p0)), (5, (.map (some b7))), (7, (.slice a_s33 s33.length c_s33)), (24, (.pointer (some ⟨b24, 0, none⟩)))] ∧ I16.Le I31 ∧ St E w I31 ((C_s19) :: (D35) :: (C_s33) :: Os) ∧ OwnSl 9 1 RStr I31 C_s33 a_s33 c_s33 s33 ∧ IterSt Value.string (val1 RBool) I31 C_s19 b7 s19 D35 b24 rm34 lst37) ⟨I16, none, 0, Mem.no, D26, _, rfl, Mem.Le.refl _, hS42, OwnSl.nil, hit28⟩ ?_) (Sub.cons rfl (Sub.cons rfl (Sub.cons rfl (Sub.cons rfl Sub.nil))))
      rintro rm34 s33 _ w43 ⟨I31, a_s33, c_s33, C_s33, D35, lst37, rfl, hl32, hS44, h_s33, hit36⟩ hst45 hend46
      refine W.seq ?_
      refine W.region (l := [0, 1]) (by kernel_rfl) ?_
      have hS47 := hS44.front1
      refine WO.next hit36 hS47 rfl (by kernel_rfl) rfl rfl (fun _ _ _ => trivial) (fun he48 => ?_) ?_
      · skip
        replace hr1 := hend46 he48
        refine WO.vals [(1, 26, (.bool false))] (by kernel_rfl) (fun _ => by kernel_rfl) ?_
        refine WO.nil ?_
        refine En.next ?_
        refine W.seq ?_
        refine W.cond (b := false) rfl rfl (fun hc => ?_) (fun hc => ?_)
        · cases hc
        clear hc
        refine W.exit ?_
        refine En.nx_exit ?_
        refine En.rd_exit ?_
        refine En.in_hit ?_
        refine En.next ?_
        refine W.seq ?_
        refine W.region (l := [0, 1, 2, 3]) (by kernel_rfl) ?_
        refine WO.vals [(0, 57, (.slice a_s33 s33.length c_s33)), (1, 58, (.int .i64 (s33.length : Int))), (2, 59, (.bool (decide ((s33.length : Int) > 0)))), (3, 6, (.bool (decide ((s33.length : Int) > 0))))] (by kernel_rfl) (fun _ => by kernel_rfl) ?_
        refine WO.nil ?_
        refine En.next ?_
        refine W.seq ?_
        refine W.region (l := [0, 1, 2]) (by kernel_rfl) ?_
        refine WO.vals [(0, 60, (.slice a_s33 s33.length c_s33)), (1, 61, (.int .i64 (s33.length : Int))), (2, 62, (.int .i64 0))] (by kernel_rfl) (fun _ => by kernel_rfl) ?_
        refine WO.nil ?_
        refine En.next ?_
        refine W.block ?_
        obtain ⟨s52, hloop54, hr1⟩ := optM_some hr1
        have hS55 := hS47.drop
        have hlt59 := (h_s33.sl).len_lt
        refine W.weaken (fr' := [(0, (.slice a_p0 p0.length c_p0)), (5, (.map (some b7))), (6, (.bool (decide ((s33.length : Int) > 0)))), (60, (.slice a_s33 s33.length c_s33)), (61, (.int .i64 (s33.length : Int))), (62, (.int .i64 ((0 : Nat) : Int)))]) (W.forE (m := s33.length) hloop54 (fun (i53 : Nat) => fun (s52 : List (ByteArray × Bool)) fr w => ∃ (I50 : Mem), ∃ (C_s52 : Mem), fr = [(0, (.slice a_p0 p0.length c_p0)), (5, (.map (some b7))), (6, (.bool (decide ((s33.length : Int) > 0)))), (60, (.slice a_s33 s33.length c_s33)), (61, (.int .i64 (s33.length : Int))), (62, (.int .i64 (i53 : Int)))] ∧ I31.Le I50 ∧ St E w I50 ((C_s52) :: (C_s33) :: Os) ∧ OwnMap Value.string (val1 RBool) I50 C_s52 b7 s52) ⟨I31, C_s19, rfl, Mem.Le.refl _, hS55, (OwnMap.mono h_s19 hl32)⟩ ?roundt49 ?lastt49) (Sub.cons rfl (Sub.cons rfl (Sub.cons rfl (Sub.cons rfl (Sub.cons rfl (Sub.cons rfl Sub.nil))))))
        case roundt49 =>
          rintro i53 s52 _ w56 hi60 ⟨I50, C_s52, rfl, hl51, hS57, h_s52⟩ x58 hr2
          refine W.seq ?_
          refine W.region (l := [0]) (by kernel_rfl) ?_
          refine WO.vals [(0, 63, (.bool (decide ((i53 : Int) < (s33.length : Int)))))] (by kernel_rfl) (fun _ => by kernel_rfl) ?_
          refine WO.nil ?_
          refine En.next ?_
          refine W.seq ?_
          refine W.cond (b := (decide ((i53 : Int) < (s33.length : Int)))) rfl rfl (fun hc => ?_) (fun hc => ?_)
          rotate_left
          · exact absurd hc (by first | (simp; done) | (simp; omega))
          clear hc
          refine W.skip ?_
          refine En.next ?_
          refine W.seq ?_
          refine W.block ?_
          refine W.seq ?_
          refine W.region (l := [0, 1, 2]) (by kernel_rfl) ?_
          obtain ⟨x61, hx_x61, hr2⟩ := bind_some hr2
          obtain ⟨h0_x61, h1_x61, hx_x61⟩ := idx_some hx_x61
          obtain ⟨ha_x61, cs_x61, hn_x61, hr_x61, hc_x61⟩ := ((h_s33.mono hl51).sl).el _ _ hx_x61
          obtain rfl := hr_x61
          refine WO.indexAddr (e := 9) (sz := 1) rfl (by kernel_rfl) (by kernel_rfl) (by kernel_rfl) rfl ha_x61 rfl h0_x61 h1_x61 ?_
          refine WO.load rfl (by kernel_rfl) (by kernel_rfl) rfl (v := (.string x61)) (fun w' hw' => hc_x61.cell0 (by kernel_rfl) ((rd_f (hS57.rd (List.Mem.tail _ (List.Mem.head _)))) w' hw')) ?_
          refine WO.vals [(2, 14, (.string x61))] (by kernel_rfl) (fun _ => by kernel_rfl) ?_
          refine WO.nil ?_
          refine En.next ?_
          refine W.region (l := [0, 1, 2]) (by kernel_rfl) ?_
          refine WO.vals [(0, 66, (.map (some b7))), (1, 67, (.string x61))] (by kernel_rfl) (fun _ => by kernel_rfl) ?_
          refine WO.update h_s52 hS57 (t := 60) (kt := 9) (et := 4) (by kernel_rfl) (keyLaw_str (kt := 9) (by kernel_rfl)) rfl (by kernel_rfl) rfl (.inl rfl) rfl x61 rfl rfl (xv := true) rfl (fun _ _ _ => trivial) ?_
          intro w65 C62 hS63 hm66
          refine WO.nil ?_
          refine En.in_normal ?_
          refine En.next ?_
          refine W.region (l := [0, 1]) (by kernel_rfl) ?_
          refine WO.incr (j := i53) rfl (by kernel_rfl) rfl (by first | omega | (dsimp only at *; omega)) ?_
          refine WO.vals [(1, 62, (.int .i64 ((i53 + 1 : Nat) : Int)))] (by kernel_rfl) (fun _ => by kernel_rfl) ?_
          refine WO.nil ?_
          have he := Option.some.inj hr2
          subst x58
          refine En.weaken (fr' := [(0, (.slice a_p0 p0.length c_p0)), (5, (.map (some b7))), (6, (.bool (decide ((s33.length : Int) > 0)))), (60, (.slice a_s33 s33.length c_s33)), (61, (.int .i64 (s33.length : Int))), (62, (.int .i64 ((i53 + 1 : Nat) : Int)))]) (En.round ⟨I50, C62, rfl, hl51, hS63, hm66⟩) (Sub.cons rfl (Sub.cons rfl (Sub.cons rfl (Sub.cons rfl (Sub.cons rfl (Sub.cons rfl Sub.nil))))))
        case lastt49 =>
          rintro _ w67 ⟨I50, C_s52, rfl, hl51, hS68, h_s52⟩
          refine W.seq ?_
          refine W.region (l := [0]) (by kernel_rfl) ?_
          refine WO.vals [(0, 63, (.bool (decide ((s33.length : Int) < (s33.length : Int)))))] (by kernel_rfl) (fun _ => by kernel_rfl) ?_
          refine WO.nil ?_
          refine En.next ?_
          refine W.seq ?_
          refine W.cond (b := (decide ((s33.length : Int) < (s33.length : Int)))) rfl rfl (fun hc => ?_) (fun hc => ?_)
          · exact absurd hc (by first | (simp; done) | (simp; omega))
          clear hc
          refine W.exit ?_
          refine En.nx_exit ?_
          refine En.rd_exit ?_
          refine En.in_hit ?_
          refine En.in_normal ?_
          have hS69 := hS68.front1
          have hS70 := hS69.drop
          refine En.weaken (fr' := [(0, (.slice a_p0 p0.length c_p0)), (5, (.map (some b7))), (6, (.bool (decide ((s33.length : Int) > 0))))]) (En.round ⟨((decide ((s33.length : Int) > 0)), s52), hr1, I50, C_s52, rfl, ((hl17.trans hl32).trans hl51), hS70, h_s52⟩) (Sub.cons rfl (Sub.cons rfl (Sub.cons rfl Sub.nil)))
      · skip
        intro k71 x72 rm73 v74 w75 D76 hp77 hv78 hS79 hit80
        obtain ⟨y81, hy82, hex83⟩ := hst45 k71 x72 rm73 hp77
        have hr2 := hy82
        obtain rfl := (List.cons.inj hv78).1
        refine WO.vals [(1, 26, (.bool true))] (by kernel_rfl) (fun _ => by kernel_rfl) ?_
        refine WO.nil ?_
        refine En.next ?_
        refine W.seq ?_
        refine W.cond (b := true) rfl rfl (fun hc => ?_) (fun hc => ?_)
        rotate_left
        · cases hc
        clear hc
        refine W.skip ?_
        refine En.next ?_
        refine W.block ?_
        refine W.seq ?_
        refine W.region (l := [0, 1, 2]) (by kernel_rfl) ?_
        have hS84 := hS79.front1
        have hS85 := hS84.front1
        refine WO.entry hit80 hS85 rfl (by kernel_rfl) rfl rfl trivial ?_
        refine WO.vals [(1, 28, (.string k71)), (2, 8, (.string k71))] (by kernel_rfl) (fun _ => by kernel_rfl) ?_
        refine WO.nil ?_
        refine En.next ?_
        refine W.seq ?_
        refine W.region (l := [0, 1, 2, 3, 4, 5, 6, 7, 8]) (by kernel_rfl) ?_
        refine WO.vals [(0, 30, (.slice a_p0 p0.length c_p0)), (1, 31, (.string k71))] (by kernel_rfl) (fun _ => by kernel_rfl) ?_
        obtain ⟨⟨r91, r92⟩, hx_r86, hr2⟩ := bind_some hr2
        refine WO.call rfl (by kernel_rfl) rfl (f := 38) (args := #[(.slice a_p0 p0.length c_p0), (.string k71)]) (by kernel_rfl) (member_Find_ok (RSl.mono h_p0 ((hl4.trans hl17).trans hl32)) hS85 hx_r86) ?_
        rintro _ w87 ⟨I88, w_r91, rfl, hl89, hS90, h_r91⟩
        refine ⟨_, rfl, trivial, ?_⟩
        refine WO.vals [(3, 29, (.tuple #[(.agg (cs_api_Role r91 w_r91).toArray), (.bool r92)])), (4, 33, (.agg (cs_api_Role r91 w_r91).toArray)), (5, 34, (.bool r92))] (by kernel_rfl) (fun _ => by kernel_rfl) ?_
        refine WO.new hS90 rfl (by kernel_rfl) rfl (.cells (cs_api_Role z_api_Role zw_api_Role).toArray 28 (0, 0)) (fun b => .pointer (some ⟨b, 0, none⟩)) (by kernel_rfl) (fun _ _ _ => trivial) ?_
        intro b93 w96 hS95
        refine WO.storeBox hS95 rfl (by kernel_rfl) rfl 0 rfl rfl (by kernel_rfl) (by kernel_rfl) (by kernel_rfl) ((cs_api_Role r91 w_r91).toArray) (by kernel_rfl) (fun _ _ => trivial) ?_
        intro w98 hS97
        refine WO.vals [(8, 10, (.bool r92))] (by kernel_rfl) (fun _ => by kernel_rfl) ?_
        refine WO.nil ?_
        refine En.next ?_
        refine W.seq ?_
        refine W.region (l := [0, 1, 2, 3]) (by kernel_rfl) ?_
        refine WO.vals [(0, 35, (.pointer (some ⟨b93, 1, none⟩)))] (by kernel_rfl) (fun _ => by kernel_rfl) ?_
        refine WO.load rfl (by kernel_rfl) (by kernel_rfl) rfl (v := (.slice w_r91.In.a r91.In.length w_r91.In.c)) (fun w' hw' => cell_one ((rd_f (hS97.rd (List.Mem.head _))) w' hw') (by kernel_rfl)) ?_
        refine WO.vals [(2, 37, (.int .i64 (r91.In.length : Int))), (3, 38, (.int .i64 0))] (by kernel_rfl) (fun _ => by kernel_rfl) ?_
        refine WO.nil ?_
        refine En.next ?_
        refine W.block ?_
        obtain ⟨s102, hloop104, hr2⟩ := bind_some hr2
        have hS105 := hS97.drop
        have hS106 := hS105.front2
        have hS107 := hS106.front1
        have hS108 := hS107.front2
        have hlt112 := (h_r91.In).len_lt
        refine W.weaken (fr' := [(0, (.slice a_p0 p0.length c_p0)), (5, (.map (some b7))), (7, (.slice a_s33 s33.length c_s33)), (24, (.pointer (some ⟨b24, 0, none⟩))), (36, (.slice w_r91.In.a r91.In.length w_r91.In.c)), (37, (.int .i64 (r91.In.length : Int))), (38, (.int .i64 ((0 : Nat) : Int)))]) (W.forE (m := r91.In.length) hloop104 (fun (i103 : Nat) => fun (s102 : List ByteArray) fr w => ∃ (I100 : Mem), ∃ (a_s102 : Option Addr), ∃ (c_s102 : Nat), ∃ (C_s102 : Mem), fr = [(0, (.slice a_p0 p0.length c_p0)), (5, (.map (some b7))), (7, (.slice a_s102 s102.length c_s102)), (24, (.pointer (some ⟨b24, 0, none⟩))), (36, (.slice w_r91.In.a r91.In.length w_r91.In.c)), (37, (.int .i64 (r91.In.length : Int))), (38, (.int .i64 (i103 : Int)))] ∧ I88.Le I100 ∧ St E w I100 ((C_s19) :: (D76) :: (C_s102) :: Os) ∧ OwnSl 9 1 RStr I100 C_s102 a_s102 c_s102 s102) ⟨I88, a_s33, c_s33, C_s33, rfl, Mem.Le.refl _, hS108, (OwnSl.mono h_s33 hl89)⟩ ?roundt99 ?lastt99) (Sub.cons rfl (Sub.cons rfl (Sub.cons rfl (Sub.cons rfl (Sub.cons rfl (Sub.cons rfl (Sub.cons rfl Sub.nil)))))))
        case roundt99 =>
          rintro i103 s102 _ w109 hi113 ⟨I100, a_s102, c_s102, C_s102, rfl, hl101, hS110, h_s102⟩ x111 hr3
          refine W.seq ?_
          refine W.region (l := [0]) (by kernel_rfl) ?_
          refine WO.vals [(0, 39, (.bool (decide ((i103 : Int) < (r91.In.length : Int)))))] (by kernel_rfl) (fun _ => by kernel_rfl) ?_
          refine WO.nil ?_
          refine En.next ?_
          refine W.seq ?_
          refine W.cond (b := (decide ((i103 : Int) < (r91.In.length : Int)))) rfl rfl (fun hc => ?_) (fun hc => ?_)
          rotate_left
          · exact absurd hc (by first | (simp; done) | (simp; omega))
          clear hc
          refine W.skip ?_
          refine En.next ?_
          refine W.seq ?_
          refine W.block ?_
          refine W.seq ?_
          refine W.region (l := [0, 1, 2]) (by kernel_rfl) ?_
          obtain ⟨x114, hx_x114, hr3⟩ := bind_some hr3
          obtain ⟨h0_x114, h1_x114, hx_x114⟩ := idx_some hx_x114
          obtain ⟨ha_x114, cs_x114, hn_x114, hr_x114, hc_x114⟩ := ((RSl.mono h_r91.In hl101)).el _ _ hx_x114
          obtain rfl := hr_x114
          refine WO.indexAddr (e := 9) (sz := 1) rfl (by kernel_rfl) (by kernel_rfl) (by kernel_rfl) rfl ha_x114 rfl h0_x114 h1_x114 ?_
          refine WO.load rfl (by kernel_rfl) (by kernel_rfl) rfl (v := (.string x114)) (fun w' hw' => hc_x114.cell0 (by kernel_rfl) ((rd_f hS110.im) w' hw')) ?_
          refine WO.vals [(2, 12, (.string x114))] (by kernel_rfl) (fun _ => by kernel_rfl) ?_
          refine WO.nil ?_
          refine En.next ?_
          refine W.seq ?_
          refine W.region (l := [0, 1, 2, 3, 4, 5, 6, 7, 8, 9]) (by kernel_rfl) ?_
          refine WO.vals [(0, 42, (.map (some b7))), (1, 43, (.string x114))] (by kernel_rfl) (fun _ => by kernel_rfl) ?_
          obtain ⟨x115, hx_x115, hr3⟩ := bind_some hr3
          obtain ⟨v_x115, hv_x115, hq_x115⟩ := OwnMap.lookup (OwnMap.mono h_s19 ((hl32.trans hl89).trans hl101)) (t := 60) (kt := 9) (et := 4) (by kernel_rfl) (keyLaw_str (kt := 9) (by kernel_rfl)) x114 (zv := (.bool false)) (z0 := false) (by kernel_rfl) rfl
          rw [Option.some.inj hx_x115] at hv_x115
          obtain rfl := (List.cons.inj hv_x115).1
          refine WO.lookup rfl (by kernel_rfl) rfl rfl hq_x115 ((rd_f (hS110.rd (List.Mem.head _)))) (.bool x115) rfl ?_
          refine WO.vals [(3, 45, (.bool (!x115))), (4, 46, (.bool (!x115)))] (by kernel_rfl) (fun _ => by kernel_rfl) ?_
          obtain ⟨j116, hr4, hr3⟩ := bind_some hr3
          refine WO.join (l1 := [5, 6, 7, 8, 9]) (l2 := []) (J := (fun fr w => ∃ (I118 : Mem), fr = [(0, (.slice a_p0 p0.length c_p0)), (5, (.map (some b7))), (7, (.slice a_s102 s102.length c_s102)), (12, (.string x114)), (24, (.pointer (some ⟨b24, 0, none⟩))), (36, (.slice w_r91.In.a r91.In.length w_r91.In.c)), (37, (.int .i64 (r91.In.length : Int))), (38, (.int .i64 (i103 : Int))), (51, (.bool j116))] ∧ I100.Le I118 ∧ St E w I118 ((C_s19) :: (D76) :: (C_s102) :: Os))) ?restj116 ?waysj116
          case waysj116 =>
            refine WO.caseb (!x115) (fun hc => ?_) (fun hc => ?_)
            · replace hr4 := cond_t hc hr4
              refine WO.reslot 46 rfl (show Value.bool (!x115) = Value.bool true by rw [hc]) ?_
              refine WO.vals [(5, 47, (.slice a_p0 p0.length c_p0)), (6, 48, (.string x114))] (by kernel_rfl) (fun _ => by kernel_rfl) ?_
              obtain ⟨r125, hx_r120, hr4⟩ := bind_some hr4
              refine WO.call rfl (by kernel_rfl) rfl (f := 34) (args := #[(.slice a_p0 p0.length c_p0), (.string x114)]) (by kernel_rfl) (member_at_ok (RSl.mono h_p0 ((((hl4.trans hl17).trans hl32).trans hl89).trans hl101)) hS110 hx_r120) ?_
              rintro _ w121 ⟨I122, rfl, hl123, hS124⟩
              refine ⟨_, rfl, trivial, ?_⟩
              refine WO.vals [(8, 50, (.bool (decide (r125 ≥ 0)))), (9, 51, (.bool (decide (r125 ≥ 0))))] (by kernel_rfl) (fun _ => by kernel_rfl) ?_
              have he := Option.some.inj hr4
              subst j116
              refine WO.weaken (fr' := [(0, (.slice a_p0 p0.length c_p0)), (5, (.map (some b7))), (7, (.slice a_s102 s102.length c_s102)), (12, (.string x114)), (24, (.pointer (some ⟨b24, 0, none⟩))), (36, (.slice w_r91.In.a r91.In.length w_r91.In.c)), (37, (.int .i64 (r91.In.length : Int))), (38, (.int .i64 (i103 : Int))), (51, (.bool (decide (r125 ≥ 0))))]) (WO.meet ⟨I122, rfl, hl123, hS124⟩) (Sub.cons rfl (Sub.cons rfl (Sub.cons rfl (Sub.cons rfl (Sub.cons rfl (Sub.cons rfl (Sub.cons rfl (Sub.cons rfl (Sub.cons rfl Sub.nil)))))))))
            · replace hr4 := cond_f hc hr4
              refine WO.reslot 46 rfl (show Value.bool (!x115) = Value.bool false by rw [hc]) ?_
              refine WO.pass rfl (by kernel_rfl) rfl ?_
              refine WO.pass rfl (by kernel_rfl) rfl ?_
              refine WO.pass rfl (by kernel_rfl) rfl ?_
              refine WO.pass rfl (by kernel_rfl) rfl ?_
              refine WO.vals [(9, 51, (.bool false))] (by kernel_rfl) (fun _ => by kernel_rfl) ?_
              have he := Option.some.inj hr4
              subst j116
              refine WO.weaken (fr' := [(0, (.slice a_p0 p0.length c_p0)), (5, (.map (some b7))), (7, (.slice a_s102 s102.length c_s102)), (12, (.string x114)), (24, (.pointer (some ⟨b24, 0, none⟩))), (36, (.slice w_r91.In.a r91.In.length w_r91.In.c)), (37, (.int .i64 (r91.In.length : Int))), (38, (.int .i64 (i103 : Int))), (51, (.bool false))]) (WO.meet ⟨I100, rfl, Mem.Le.refl _, hS110⟩) (Sub.cons rfl (Sub.cons rfl (Sub.cons rfl (Sub.cons rfl (Sub.cons rfl (Sub.cons rfl (Sub.cons rfl (Sub.cons rfl (Sub.cons rfl Sub.nil)))))))))
          case restj116 =>
            rintro _ w126 ⟨I118, rfl, hl119, hS127⟩
            refine WO.nil ?_
            refine En.next ?_
            obtain ⟨j128, hr4, hr3⟩ := bind_some hr3
            refine W.join (J := (fun fr w => ∃ (I130 : Mem), ∃ (a_j128 : Option Addr), ∃ (c_j128 : Nat), ∃ (C_j128 : Mem), fr = [(0, (.slice a_p0 p0.length c_p0)), (5, (.map (some b7))), (7, (.slice a_j128 j128.length c_j128)), (24, (.pointer (some ⟨b24, 0, none⟩))), (36, (.slice w_r91.In.a r91.In.length w_r91.In.c)), (37, (.int .i64 (r91.In.length : Int))), (38, (.int .i64 (i103 : Int)))] ∧ I118.Le I130 ∧ St E w I130 ((C_s19) :: (D76) :: (C_j128) :: Os) ∧ OwnSl 9 1 RStr I130 C_j128 a_j128 c_j128 j128)) ?restj128 ?waysj128
            case waysj128 =>
              refine W.cond (b := j116) rfl rfl (fun hc => ?_) (fun hc => ?_)
              · replace hr4 := cond_t hc hr4
                refine W.region (l := [0, 1, 2, 3, 4]) (by kernel_rfl) ?_
                refine WO.vals [(0, 52, (.slice a_s102 s102.length c_s102)), (1, 53, (.string x114))] (by kernel_rfl) (fun _ => by kernel_rfl) ?_
                refine WO.newSlice (rel := RStr) (xs := ([x114] : List ByteArray)) hS127 rfl (by kernel_rfl) rfl 9 1 [[(.string x114)]] (by kernel_rfl) rfl ((Elr.cons rfl Elr.nil)) (fun _ _ _ => trivial) ?_
                intro a135 C133 w137 hS136 ho134
                have hS139 := hS136.front3
                obtain ⟨x140, hx_x140, hr4⟩ := bind_some hr4
                obtain ⟨h0_x140, he_x140⟩ := app_some hx_x140
                refine WO.append (e' := 9) (b := 16) (zs := #[(.string (⟨#[]⟩ : ByteArray))]) hS139 (OwnSl.mono h_s102 hl119) rfl (by kernel_rfl) rfl (by kernel_rfl) (by kernel_rfl) (by kernel_rfl) rfl rfl rfl rfl ho134.sl (hS139.rd (List.Mem.tail _ (List.Mem.head _))) h0_x140 he_x140 (fun _ _ _ => trivial) ?_
                intro a141 c142 w143 C144 hS145 ho146
                have hS147 := hS145.front1
                have hS148 := hS147.drop
                refine WO.vals [(4, 7, (.slice a141 x140.length c142))] (by kernel_rfl) (fun _ => by kernel_rfl) ?_
                refine WO.nil ?_
                have hS149 := hS148.front2
                have hS150 := hS149.front2
                have he := Option.some.inj hr4
                subst j128
                refine En.weaken (fr' := [(0, (.slice a_p0 p0.length c_p0)), (5, (.map (some b7))), (7, (.slice a141 x140.length c142)), (24, (.pointer (some ⟨b24, 0, none⟩))), (36, (.slice w_r91.In.a r91.In.length w_r91.In.c)), (37, (.int .i64 (r91.In.length : Int))), (38, (.int .i64 (i103 : Int)))]) (En.round ⟨I118, a141, c142, C144, rfl, Mem.Le.refl _, hS150, ho146⟩) (Sub.cons rfl (Sub.cons rfl (Sub.cons rfl (Sub.cons rfl (Sub.cons rfl (Sub.cons rfl (Sub.cons rfl Sub.nil)))))))
              · replace hr4 := cond_f hc hr4
                refine W.skip ?_
                have he := Option.some.inj hr4
                subst j128
                refine En.weaken (fr' := [(0, (.slice a_p0 p0.length c_p0)), (5, (.map (some b7))), (7, (.slice a_s102 s102.length c_s102)), (24, (.pointer (some ⟨b24, 0, none⟩))), (36, (.slice w_r91.In.a r91.In.length w_r91.In.c)), (37, (.int .i64 (r91.In.length : Int))), (38, (.int .i64 (i103 : Int)))]) (En.round ⟨I118, a_s102, c_s102, C_s102, rfl, Mem.Le.refl _, hS127, (OwnSl.mono h_s102 hl119)⟩) (Sub.cons rfl (Sub.cons rfl (Sub.cons rfl (Sub.cons rfl (Sub.cons rfl (Sub.cons rfl (Sub.cons rfl Sub.nil)))))))
            case restj128 =>
              rintro _ w151 ⟨I130, a_j128, c_j128, C_j128, rfl, hl131, hS152, h_j128⟩
              refine En.in_normal ?_
              refine En.next ?_
              refine W.region (l := [0, 1]) (by kernel_rfl) ?_
              refine WO.incr (j := i103) rfl (by kernel_rfl) rfl (by first | omega | (dsimp only at *; omega)) ?_
              refine WO.vals [(1, 38, (.int .i64 ((i103 + 1 : Nat) : Int)))] (by kernel_rfl) (fun _ => by kernel_rfl) ?_
              refine WO.nil ?_
              have he := Option.some.inj hr3
              subst x111
              refine En.weaken (fr' := [(0, (.slice a_p0 p0.length c_p0)), (5, (.map (some b7))), (7, (.slice a_j128 j128.length c_j128)), (24, (.pointer (some ⟨b24, 0, none⟩))), (36, (.slice w_r91.In.a r91.In.length w_r91.In.c)), (37, (.int .i64 (r91.In.length : Int))), (38, (.int .i64 ((i103 + 1 : Nat) : Int)))]) (En.round ⟨I130, a_j128, c_j128, C_j128, rfl, ((hl101.trans hl119).trans hl131), hS152, h_j128⟩) (Sub.cons rfl (Sub.cons rfl (Sub.cons rfl (Sub.cons rfl (Sub.cons rfl (Sub.cons rfl (Sub.cons rfl Sub.nil)))))))
        case lastt99 =>
          rintro _ w153 ⟨I100, a_s102, c_s102, C_s102, rfl, hl101, hS154, h_s102⟩
          refine W.seq ?_
          refine W.region (l := [0]) (by kernel_rfl) ?_
          refine WO.vals [(0, 39, (.bool (decide ((r91.In.length : Int) < (r91.In.length : Int)))))] (by kernel_rfl) (fun _ => by kernel_rfl) ?_
          refine WO.nil ?_
          refine En.next ?_
          refine W.seq ?_
          refine W.cond (b := (decide ((r91.In.length : Int) < (r91.In.length : Int)))) rfl rfl (fun hc => ?_) (fun hc => ?_)
          · exact absurd hc (by first | (simp; done) | (simp; omega))
          clear hc
          refine W.exit ?_
          refine En.nx_exit ?_
          refine En.rd_exit ?_
          refine En.in_hit ?_
          refine En.in_normal ?_
          refine En.weaken (fr' := [(0, (.slice a_p0 p0.length c_p0)), (5, (.map (some b7))), (7, (.slice a_s102 s102.length c_s102)), (24, (.pointer (some ⟨b24, 0, none⟩)))]) (En.round ⟨k71, x72, rm73, s102, hp77, hy82.trans (congrArg some (Option.some.inj hr2).symm), I100, a_s102, c_s102, C_s102, D76, _, rfl, ((hl32.trans hl89).trans hl101), hS154, h_s102, (IterSt.mono hit80 (hl89.trans hl101))⟩) (Sub.cons rfl (Sub.cons rfl (Sub.cons rfl (Sub.cons rfl Sub.nil))))
    · replace hr1 := condM_f hc hr1
      refine W.exit ?_
      refine En.nx_exit ?_
      refine En.rd_exit ?_
      replace hr := hr1
      refine En.in_hit ?_
      refine En.next ?_
      refine W.seq ?_
      refine W.region (l := [0, 1, 2, 3]) (by kernel_rfl) ?_
      refine WO.vals [(0, 69, (.map (some b7)))] (by kernel_rfl) (fun _ => by kernel_rfl) ?_
      refine WO.call rfl (by kernel_rfl) rfl (f := 40) (args := #[(.map (some b7))]) (by kernel_rfl) (keys40_ok hS22) ?_
      rintro _ w176 ⟨b174, rfl, hS175⟩
      refine ⟨_, rfl, trivial, ?_⟩
      have hS178 := hS175.front1
      have hS179 := hS178.front1
      obtain ⟨r180, hx181, hr⟩ := optM_some hr
      refine WO.call rfl (by kernel_rfl) rfl (f := 39) (args := #[(.func (.func 66) #[] #[(.pointer (some ⟨b174, 0, none⟩))])]) (by kernel_rfl) (sorted39_40_ok h_s19 hS179 hx181) ?_
      rintro _ w188 ⟨I182, a183, c184, rfl, hl185, hS186, hp187⟩
      refine ⟨_, rfl, trivial, ?_⟩
      refine WO.vals [(3, 4, (.slice a183 r180.length c184))] (by kernel_rfl) (fun _ => by kernel_rfl) ?_
      refine WO.nil ?_
      refine En.next ?_
      refine W.ret ?_
      have hS189 := hS186.drop
      have hS190 := hS189.drop
      have he : r180 = r := hr
      subst r
      exact En.ret1 rfl (.slice a183 r180.length c184) rfl ⟨I182, a183, c184, rfl, ((hl4.trans hl17).trans hl185), hS190, hp187⟩

noncomputable def member_Is (p0 : List api_Role) (p1 : ByteArray) (p2 : ByteArray) : Option Bool := (member_All p0 p1).bind (fun (r6 : List ByteArray) => (slices_Contains_string r6 p2).bind (fun (r12 : Bool) => some r12))
set_option maxHeartbeats 1000000 in
theorem member_Is_ok {E w : World} {I : Mem} {Os : List Mem} {p0 : List api_Role} {p1 : ByteArray} {p2 : ByteArray} {a_p0 : Option Addr} {c_p0 : Nat} (h_p0 : RSl 2 R_api_Role I a_p0 c_p0 p0) (hS : St E w I Os) {r : Bool} (hr : member_Is p0 p1 p2 = some r) :
    Calls P 14 #[(.slice a_p0 p0.length c_p0), (.string p1), (.string p2)] w (fun e w' => ∃ (I' : Mem), e = .returned (.bool r) ∧ I.Le I' ∧ St E w' I' Os) := by
  refine calls_W (args := [(.slice a_p0 p0.length c_p0), (.string p1), (.string p2)]) (fn := Tryz.f14) rfl rfl rfl ?_
  unfold member_Is at hr
  refine W.seq ?_
  refine W.region (l := [0]) (by kernel_rfl) ?_
  refine WO.vals [(0, 6, (.bool false))] (by kernel_rfl) (fun _ => by kernel_rfl) ?_
  refine WO.nil ?_
  refine En.next ?_
  refine W.seq ?_
  refine W.region (l := [0, 1, 2, 3, 4, 5]) (by kernel_rfl) ?_
  refine WO.vals [(0, 7, (.slice a_p0 p0.length c_p0)), (1, 8, (.string p1))] (by kernel_rfl) (fun _ => by kernel_rfl) ?_
  obtain ⟨r6, hx_r1, hr⟩ := bind_some hr
  refine WO.call rfl (by kernel_rfl) rfl (f := 13) (args := #[(.slice a_p0 p0.length c_p0), (.string p1)]) (by kernel_rfl) (member_All_ok h_p0 hS hx_r1) ?_
  rintro _ w2 ⟨I3, a_r6, c_r6, rfl, hl4, hS5, h_r6⟩
  refine ⟨_, rfl, trivial, ?_⟩
  refine WO.vals [(3, 10, (.string p2))] (by kernel_rfl) (fun _ => by kernel_rfl) ?_
  obtain ⟨r12, hx_r7, hr⟩ := bind_some hr
  refine WO.call rfl (by kernel_rfl) rfl (f := 27) (args := #[(.slice a_r6 r6.length c_r6), (.string p2)]) (by kernel_rfl) (slices_Contains_string_ok h_r6 hS5 hx_r7) ?_
  rintro _ w8 ⟨I9, rfl, hl10, hS11⟩
  refine ⟨_, rfl, trivial, ?_⟩
  refine WO.vals [(5, 6, (.bool r12))] (by kernel_rfl) (fun _ => by kernel_rfl) ?_
  refine WO.nil ?_
  refine En.next ?_
  refine W.ret ?_
  have he := Option.some.inj hr
  subst r
  exact En.ret1 rfl (.bool r12) rfl ⟨I9, rfl, (hl4.trans hl10), hS11⟩
noncomputable def member_round_1 (p0 : ByteArray) (q1 : List api_Role) (q2 : api_Role) : Option Bool := (member_Is q1 p0 q2.Name).bind (fun (r6 : Bool) => some r6)
set_option maxHeartbeats 1000000 in
theorem member_round_1_ok {E w : World} {I : Mem} {Os : List Mem} {p0 : ByteArray} {q1 : List api_Role} {q2 : api_Role} {kb1 : Nat} {a_q1 : Option Addr} {c_q1 : Nat} {kb2 : Nat} {w_q2 : W_api_Role} (h_q1 : RSl 2 R_api_Role I a_q1 c_q1 q1) (h_q2 : ok_api_Role I q2 w_q2) (hm1 : (Gv.one kb1 (.cells #[(.slice a_q1 q1.length c_q1)] 22 (0, 0))) ∈ Os) (hm2 : (Gv.one kb2 (.cells (cs_api_Role q2 w_q2).toArray 28 (0, 0))) ∈ Os) (hS : St E w I Os) {r : Bool} (hr : member_round_1 p0 q1 q2 = some r) :
    Calls P 54 #[(.string p0), (.pointer (some ⟨kb1, 0, none⟩)), (.pointer (some ⟨kb2, 0, none⟩))] w (fun e w' => ∃ (I' : Mem), e = .returned (.bool r) ∧ I.Le I' ∧ St E w' I' Os) := by
  refine calls_W (args := [(.string p0), (.pointer (some ⟨kb1, 0, none⟩)), (.pointer (some ⟨kb2, 0, none⟩))]) (fn := Tryz.f54) rfl rfl rfl ?_
  unfold member_round_1 at hr
  refine W.seq ?_
  refine W.region (l := [0]) (by kernel_rfl) ?_
  refine WO.vals [(0, 4, (.bool false))] (by kernel_rfl) (fun _ => by kernel_rfl) ?_
  refine WO.nil ?_
  refine En.next ?_
  refine W.seq ?_
  refine W.region (l := [0, 1, 2, 3, 4, 5]) (by kernel_rfl) ?_
  refine WO.load rfl (by kernel_rfl) (by kernel_rfl) rfl (v := (.slice a_q1 q1.length c_q1)) (fun w' hw' => cell_one ((rd_f (hS.rd hm1)) w' hw') (by kernel_rfl)) ?_
  refine WO.vals [(1, 6, (.string p0)), (2, 7, (.pointer (some ⟨kb2, 0, none⟩)))] (by kernel_rfl) (fun _ => by kernel_rfl) ?_
  refine WO.load rfl (by kernel_rfl) (by kernel_rfl) rfl (v := (.string q2.Name)) (fun w' hw' => cell_one ((rd_f (hS.rd hm2)) w' hw') (by kernel_rfl)) ?_
  obtain ⟨r6, hx_r1, hr⟩ := bind_some hr
  refine WO.call rfl (by kernel_rfl) rfl (f := 14) (args := #[(.slice a_q1 q1.length c_q1), (.string p0), (.string q2.Name)]) (by kernel_rfl) (member_Is_ok h_q1 hS hx_r1) ?_
  rintro _ w2 ⟨I3, rfl, hl4, hS5⟩
  refine ⟨_, rfl, trivial, ?_⟩
  refine WO.vals [(5, 4, (.bool r6))] (by kernel_rfl) (fun _ => by kernel_rfl) ?_
  refine WO.nil ?_
  refine En.next ?_
  refine W.ret ?_
  have he := Option.some.inj hr
  subst r
  exact En.ret1 rfl (.bool r6) rfl ⟨I3, rfl, hl4, hS5⟩
noncomputable def member_round (p0 : List api_Role) (p1 : api_Role) : Option Bool := (slices_ContainsFunc_string p1.In (fun (u0 : ByteArray) => member_round_1 u0 p0 p1)).bind (fun (r14 : Bool) => some r14)
set_option maxHeartbeats 1000000 in
theorem member_round_ok {E w : World} {I : Mem} {Os : List Mem} {p0 : List api_Role} {p1 : api_Role} {a_p0 : Option Addr} {c_p0 : Nat} {w_p1 : W_api_Role} (h_p0 : RSl 2 R_api_Role I a_p0 c_p0 p0) (h_p1 : ok_api_Role I p1 w_p1) (hS : St E w I Os) {r : Bool} (hr : member_round p0 p1 = some r) :
    Calls P 30 #[(.slice a_p0 p0.length c_p0), (.agg (cs_api_Role p1 w_p1).toArray)] w (fun e w' => ∃ (I' : Mem), e = .returned (.bool r) ∧ I.Le I' ∧ St E w' I' Os) := by
  refine calls_W (args := [(.slice a_p0 p0.length c_p0), (.agg (cs_api_Role p1 w_p1).toArray)]) (fn := Tryz.f30) rfl rfl rfl ?_
  unfold member_round at hr
  refine W.seq ?_
  refine W.region (l := [0, 1, 2]) (by kernel_rfl) ?_
  refine WO.new hS rfl (by kernel_rfl) rfl (.cells #[(.slice a_p0 p0.length c_p0)] 22 (0, 0)) (fun b => .pointer (some ⟨b, 0, none⟩)) (by kernel_rfl) (fun _ _ _ => trivial) ?_
  intro b1 w4 hS3
  refine WO.new hS3 rfl (by kernel_rfl) rfl (.cells (cs_api_Role p1 w_p1).toArray 28 (0, 0)) (fun b => .pointer (some ⟨b, 0, none⟩)) (by kernel_rfl) (fun _ _ _ => trivial) ?_
  intro b5 w8 hS7
  refine WO.vals [(2, 4, (.bool false))] (by kernel_rfl) (fun _ => by kernel_rfl) ?_
  refine WO.nil ?_
  refine En.next ?_
  refine W.seq ?_
  refine W.region (l := [0, 1, 2, 3, 4]) (by kernel_rfl) ?_
  refine WO.vals [(0, 5, (.pointer (some ⟨b5, 1, none⟩)))] (by kernel_rfl) (fun _ => by kernel_rfl) ?_
  refine WO.load rfl (by kernel_rfl) (by kernel_rfl) rfl (v := (.slice w_p1.In.a p1.In.length w_p1.In.c)) (fun w' hw' => cell_one ((rd_f (hS7.rd (List.Mem.head _))) w' hw') (by kernel_rfl)) ?_
  refine WO.vals [(2, 7, (.func (.func 54) #[] #[(.pointer (some ⟨b1, 0, none⟩)), (.pointer (some ⟨b5, 0, none⟩))]))] (by kernel_rfl) (fun _ => by kernel_rfl) ?_
  obtain ⟨r14, hx_r9, hr⟩ := bind_some hr
  refine WO.call rfl (by kernel_rfl) rfl (f := 25) (args := #[(.slice w_p1.In.a p1.In.length w_p1.In.c), (.func (.func 54) #[] #[(.pointer (some ⟨b1, 0, none⟩)), (.pointer (some ⟨b5, 0, none⟩))])]) (by kernel_rfl) (slices_ContainsFunc_string_ok h_p1.In (fun {F Ic wc} {_} hlc hSc  {rc} hrc => member_round_1_ok (RSl.mono h_p0 hlc) (h_p1.mono hlc) (List.mem_append_right _ (List.Mem.tail _ (List.Mem.head _))) (List.mem_append_right _ (List.Mem.head _)) hSc hrc) (fun _ _ => by kernel_rfl) hS7 hx_r9) ?_
  rintro _ w10 ⟨I11, rfl, hl12, hS13⟩
  refine ⟨_, rfl, trivial, ?_⟩
  refine WO.vals [(4, 4, (.bool r14))] (by kernel_rfl) (fun _ => by kernel_rfl) ?_
  refine WO.nil ?_
  refine En.next ?_
  refine W.ret ?_
  have hS15 := hS13.drop
  have hS16 := hS15.drop
  have he := Option.some.inj hr
  subst r
  exact En.ret1 rfl (.bool r14) rfl ⟨I11, rfl, hl12, hS16⟩
def slices_ContainsFunc_api_Role (p0 : List api_Role) (p1 : api_Role → Option Bool) : Option Bool := (slices_IndexFunc_api_Role p0 p1).bind (fun (r6 : Int) => some (decide (r6 ≥ 0)))
set_option maxHeartbeats 1000000 in
theorem slices_ContainsFunc_api_Role_ok {E w : World} {I : Mem} {Os : List Mem} {p0 : List api_Role} {p1 : api_Role → Option Bool} {a_p0 : Option Addr} {c_p0 : Nat} {g_p1 : FuncId} {k_p1 : List Value} (h_p0 : RSl 2 R_api_Role I a_p0 c_p0 p0) (h_p1 : ∀ {F : List Mem} {I' : Mem} {w : World} {u0 : api_Role} {w_u0 : W_api_Role}, I.Le I' → St E w I' (F ++ Os) → ok_api_Role I' u0 w_u0 → ∀ {r : Bool}, p1 u0 = some r → Calls P g_p1 (([(.agg (cs_api_Role u0 w_u0).toArray)] : List Value) ++ k_p1).toArray w (fun e w' => ∃ (I'' : Mem), e = .returned (.bool r) ∧ I'.Le I'' ∧ St E w' I'' (F ++ Os))) (hcall_p1 : Callable P g_p1) (hS : St E w I Os) {r : Bool} (hr : slices_ContainsFunc_api_Role p0 p1 = some r) :
    Calls P 28 #[(.slice a_p0 p0.length c_p0), (.func (.func g_p1) #[] k_p1.toArray)] w (fun e w' => ∃ (I' : Mem), e = .returned (.bool r) ∧ I.Le I' ∧ St E w' I' Os) := by
  refine calls_W (args := [(.slice a_p0 p0.length c_p0), (.func (.func g_p1) #[] k_p1.toArray)]) (fn := Tryz.f28) rfl rfl rfl ?_
  unfold slices_ContainsFunc_api_Role at hr
  refine W.seq ?_
  refine W.region (l := [0]) (by kernel_rfl) ?_
  refine WO.vals [(0, 4, (.bool false))] (by kernel_rfl) (fun _ => by kernel_rfl) ?_
  refine WO.nil ?_
  refine En.next ?_
  refine W.seq ?_
  refine W.region (l := [0, 1, 2, 3, 4]) (by kernel_rfl) ?_
  refine WO.vals [(0, 5, (.slice a_p0 p0.length c_p0)), (1, 6, (.func (.func g_p1) #[] k_p1.toArray))] (by kernel_rfl) (fun _ => by kernel_rfl) ?_
  obtain ⟨r6, hx_r1, hr⟩ := bind_some hr
  refine WO.call rfl (by kernel_rfl) rfl (f := 53) (args := #[(.slice a_p0 p0.length c_p0), (.func (.func g_p1) #[] k_p1.toArray)]) (by kernel_rfl) (slices_IndexFunc_api_Role_ok h_p0 (fun {F Ic wc} {_} {_} hlc hSc h_u0 {rc} hrc => h_p1 hlc hSc h_u0 hrc) hcall_p1 hS hx_r1) ?_
  rintro _ w2 ⟨I3, rfl, hl4, hS5⟩
  refine ⟨_, rfl, trivial, ?_⟩
  refine WO.vals [(3, 8, (.bool (decide (r6 ≥ 0)))), (4, 4, (.bool (decide (r6 ≥ 0))))] (by kernel_rfl) (fun _ => by kernel_rfl) ?_
  refine WO.nil ?_
  refine En.next ?_
  refine W.ret ?_
  have he := Option.some.inj hr
  subst r
  exact En.ret1 rfl (.bool (decide (r6 ≥ 0))) rfl ⟨I3, rfl, hl4, hS5⟩
def member_Check_1 (p0 : ByteArray) (q1 : List ByteArray) : Option Bool := (slices_Contains_string q1 p0).bind (fun (r6 : Bool) => some (!r6))
set_option maxHeartbeats 1000000 in
theorem member_Check_1_ok {E w : World} {I : Mem} {Os : List Mem} {p0 : ByteArray} {q1 : List ByteArray} {kb1 : Nat} {a_q1 : Option Addr} {c_q1 : Nat} (h_q1 : RSl 1 RStr I a_q1 c_q1 q1) (hm1 : (Gv.one kb1 (.cells #[(.slice a_q1 q1.length c_q1)] 26 (0, 0))) ∈ Os) (hS : St E w I Os) {r : Bool} (hr : member_Check_1 p0 q1 = some r) :
    Calls P 26 #[(.string p0), (.pointer (some ⟨kb1, 0, none⟩))] w (fun e w' => ∃ (I' : Mem), e = .returned (.bool r) ∧ I.Le I' ∧ St E w' I' Os) := by
  refine calls_W (args := [(.string p0), (.pointer (some ⟨kb1, 0, none⟩))]) (fn := Tryz.f26) rfl rfl rfl ?_
  unfold member_Check_1 at hr
  refine W.seq ?_
  refine W.region (l := [0]) (by kernel_rfl) ?_
  refine WO.vals [(0, 3, (.bool false))] (by kernel_rfl) (fun _ => by kernel_rfl) ?_
  refine WO.nil ?_
  refine En.next ?_
  refine W.seq ?_
  refine W.region (l := [0, 1, 2, 3, 4]) (by kernel_rfl) ?_
  refine WO.load rfl (by kernel_rfl) (by kernel_rfl) rfl (v := (.slice a_q1 q1.length c_q1)) (fun w' hw' => cell_one ((rd_f (hS.rd hm1)) w' hw') (by kernel_rfl)) ?_
  refine WO.vals [(1, 5, (.string p0))] (by kernel_rfl) (fun _ => by kernel_rfl) ?_
  obtain ⟨r6, hx_r1, hr⟩ := bind_some hr
  refine WO.call rfl (by kernel_rfl) rfl (f := 27) (args := #[(.slice a_q1 q1.length c_q1), (.string p0)]) (by kernel_rfl) (slices_Contains_string_ok h_q1 hS hx_r1) ?_
  rintro _ w2 ⟨I3, rfl, hl4, hS5⟩
  refine ⟨_, rfl, trivial, ?_⟩
  refine WO.vals [(3, 7, (.bool (!r6))), (4, 3, (.bool (!r6)))] (by kernel_rfl) (fun _ => by kernel_rfl) ?_
  refine WO.nil ?_
  refine En.next ?_
  refine W.ret ?_
  have he := Option.some.inj hr
  subst r
  exact En.ret1 rfl (.bool (!r6)) rfl ⟨I3, rfl, hl4, hS5⟩
noncomputable def member_Check_2 (p0 : api_Role) (q1 : List api_Role) : Option Bool := (member_round q1 p0).bind (fun (r10 : Bool) => some r10)
set_option maxHeartbeats 1000000 in
theorem member_Check_2_ok {E w : World} {I : Mem} {Os : List Mem} {p0 : api_Role} {q1 : List api_Role} {w_p0 : W_api_Role} {kb1 : Nat} {a_q1 : Option Addr} {c_q1 : Nat} (h_p0 : ok_api_Role I p0 w_p0) (h_q1 : RSl 2 R_api_Role I a_q1 c_q1 q1) (hm1 : (Gv.one kb1 (.cells #[(.slice a_q1 q1.length c_q1)] 22 (0, 0))) ∈ Os) (hS : St E w I Os) {r : Bool} (hr : member_Check_2 p0 q1 = some r) :
    Calls P 29 #[(.agg (cs_api_Role p0 w_p0).toArray), (.pointer (some ⟨kb1, 0, none⟩))] w (fun e w' => ∃ (I' : Mem), e = .returned (.bool r) ∧ I.Le I' ∧ St E w' I' Os) := by
  refine calls_W (args := [(.agg (cs_api_Role p0 w_p0).toArray), (.pointer (some ⟨kb1, 0, none⟩))]) (fn := Tryz.f29) rfl rfl rfl ?_
  unfold member_Check_2 at hr
  refine W.seq ?_
  refine W.region (l := [0, 1]) (by kernel_rfl) ?_
  refine WO.new hS rfl (by kernel_rfl) rfl (.cells (cs_api_Role p0 w_p0).toArray 28 (0, 0)) (fun b => .pointer (some ⟨b, 0, none⟩)) (by kernel_rfl) (fun _ _ _ => trivial) ?_
  intro b1 w4 hS3
  refine WO.vals [(1, 3, (.bool false))] (by kernel_rfl) (fun _ => by kernel_rfl) ?_
  refine WO.nil ?_
  refine En.next ?_
  refine W.seq ?_
  refine W.region (l := [0, 1, 2, 3]) (by kernel_rfl) ?_
  refine WO.load rfl (by kernel_rfl) (by kernel_rfl) rfl (v := (.slice a_q1 q1.length c_q1)) (fun w' hw' => cell_one ((rd_f (hS3.rd (List.Mem.tail _ hm1))) w' hw') (by kernel_rfl)) ?_
  refine WO.loadN rfl (by kernel_rfl) (by kernel_rfl) rfl ((cs_api_Role p0 w_p0)) (by kernel_rfl) (fun w' hw' => cells_one ((rd_f (hS3.rd (List.Mem.head _))) w' hw') (by kernel_rfl)) ?_
  obtain ⟨r10, hx_r5, hr⟩ := bind_some hr
  refine WO.call rfl (by kernel_rfl) rfl (f := 30) (args := #[(.slice a_q1 q1.length c_q1), (.agg (cs_api_Role p0 w_p0).toArray)]) (by kernel_rfl) (member_round_ok h_q1 h_p0 hS3 hx_r5) ?_
  rintro _ w6 ⟨I7, rfl, hl8, hS9⟩
  refine ⟨_, rfl, trivial, ?_⟩
  refine WO.vals [(3, 3, (.bool r10))] (by kernel_rfl) (fun _ => by kernel_rfl) ?_
  refine WO.nil ?_
  refine En.next ?_
  refine W.ret ?_
  have hS11 := hS9.drop
  have he := Option.some.inj hr
  subst r
  exact En.ret1 rfl (.bool r10) rfl ⟨I7, rfl, hl8, hS11⟩
end Go.Proofs.YthndadengamanaaGreat
