/- What functions of the program come to, each by a plain one. Conditions: none. -/
import Derived.Test.YthndadengamanaaF3
set_option maxRecDepth 100000
namespace Go.Proofs.Ythndadengamanaa
open Go.Gv
noncomputable def registrarref18_All (p0 : List api_Role) (p1 : ByteArray) : Option (List ByteArray) := (registrarref18_Reach p0 p1).bind (fun (r6 : List Bool) => (forE (fun (i11 : Nat) => fun (s10 : List ByteArray) => (idx r6 (i11 : Int)).bind (fun (x18 : Bool) => ((bif x18 then (idx p0 (i11 : Int)).bind (fun (x23 : api_Role) => (registrarref18_into s10 x23.Name).bind (fun (r29 : List ByteArray) => some r29)) else some s10)).bind (fun (j19 : List ByteArray) => some j19))) p0.length 0 ([] : List ByteArray)).bind (fun (s10 : (List ByteArray)) => some s10))
set_option maxHeartbeats 1000000 in
theorem registrarref18_All_ok {E w : World} {I : Mem} {Os : List Mem} {p0 : List api_Role} {p1 : ByteArray} {a_p0 : Option Addr} {c_p0 : Nat} (h_p0 : RSl 2 R_api_Role I a_p0 c_p0 p0) (hS : St E w I Os) {r : (List ByteArray)} (hr : registrarref18_All p0 p1 = some r) :
    Calls P 13 #[(.slice a_p0 p0.length c_p0), (.string p1)] w (fun e w' => ∃ (I' : Mem) (ra0 : Option Addr) (rc0 : Nat), e = .returned (.slice ra0 r.length rc0) ∧ I.Le I' ∧ St E w' I' Os ∧ RSl 1 RStr I' ra0 rc0 r) := by
  refine calls_W (args := [(.slice a_p0 p0.length c_p0), (.string p1)]) (fn := Try.f13) rfl rfl rfl ?_
  unfold registrarref18_All at hr
  refine W.seq ?_
  refine W.region (l := [0]) (by kernel_rfl) ?_
  refine WO.vals [(0, 4, (.slice none 0 0))] (by kernel_rfl) (fun _ => by kernel_rfl) ?_
  refine WO.nil ?_
  refine En.next ?_
  refine W.seq ?_
  refine W.region (l := [0, 1, 2, 3]) (by kernel_rfl) ?_
  refine WO.vals [(0, 8, (.slice a_p0 p0.length c_p0)), (1, 9, (.string p1))] (by kernel_rfl) (fun _ => by kernel_rfl) ?_
  obtain ⟨r6, hx_r1, hr⟩ := bind_some hr
  refine WO.call rfl (by kernel_rfl) rfl (f := 27) (args := #[(.slice a_p0 p0.length c_p0), (.string p1)]) (by kernel_rfl) (registrarref18_Reach_ok h_p0 hS hx_r1) ?_
  rintro _ w2 ⟨I3, a_r6, c_r6, rfl, hl4, hS5, h_r6⟩
  refine ⟨_, rfl, trivial, ?_⟩
  refine WO.vals [(3, 5, (.slice a_r6 r6.length c_r6))] (by kernel_rfl) (fun _ => by kernel_rfl) ?_
  refine WO.nil ?_
  refine En.next ?_
  refine W.seq ?_
  refine W.region (l := [0]) (by kernel_rfl) ?_
  refine WO.vals [(0, 6, (.slice none 0 0))] (by kernel_rfl) (fun _ => by kernel_rfl) ?_
  refine WO.nil ?_
  refine En.next ?_
  refine W.seq ?_
  refine W.seq ?_
  refine W.region (l := [0]) (by kernel_rfl) ?_
  refine WO.vals [(0, 7, (.int .i64 0))] (by kernel_rfl) (fun _ => by kernel_rfl) ?_
  refine WO.nil ?_
  refine En.next ?_
  refine W.block ?_
  obtain ⟨s10, hloop12, hr⟩ := bind_some hr
  have hlt16 := ((RSl.mono h_p0 hl4)).len_lt
  refine W.weaken (fr' := [(0, (.slice a_p0 p0.length c_p0)), (5, (.slice a_r6 r6.length c_r6)), (6, (.slice none 0 0)), (7, (.int .i64 ((0 : Nat) : Int)))]) (W.forE (m := p0.length) hloop12 (fun (i11 : Nat) => fun (s10 : List ByteArray) fr w => ∃ (I8 : Mem), ∃ (a_s10 : Option Addr), ∃ (c_s10 : Nat), fr = [(0, (.slice a_p0 p0.length c_p0)), (5, (.slice a_r6 r6.length c_r6)), (6, (.slice a_s10 s10.length c_s10)), (7, (.int .i64 (i11 : Int)))] ∧ I3.Le I8 ∧ St E w I8 Os ∧ RSl 1 RStr I8 a_s10 c_s10 s10) ⟨I3, none, 0, rfl, Mem.Le.refl _, hS5, SlAt.nil⟩ ?roundt7 ?lastt7) (Sub.cons rfl (Sub.cons rfl (Sub.cons rfl (Sub.cons rfl Sub.nil))))
  case roundt7 =>
    rintro i11 s10 _ w13 hi17 ⟨I8, a_s10, c_s10, rfl, hl9, hS14, h_s10⟩ x15 hr1
    refine W.seq ?_
    refine W.seq ?_
    refine W.region (l := [0, 1, 2, 3]) (by kernel_rfl) ?_
    refine WO.vals [(0, 11, (.int .i64 (i11 : Int))), (1, 12, (.slice a_p0 p0.length c_p0)), (2, 13, (.int .i64 (p0.length : Int))), (3, 14, (.bool (decide ((i11 : Int) < (p0.length : Int)))))] (by kernel_rfl) (fun _ => by kernel_rfl) ?_
    refine WO.nil ?_
    refine En.next ?_
    refine W.cond (b := (decide ((i11 : Int) < (p0.length : Int)))) rfl rfl (fun hc => ?_) (fun hc => ?_)
    rotate_left
    · exact absurd hc (by first | (simp; done) | (simp; omega))
    clear hc
    refine W.skip ?_
    refine En.next ?_
    refine W.seq ?_
    refine W.block ?_
    refine W.seq ?_
    refine W.region (l := [0, 1, 2, 3]) (by kernel_rfl) ?_
    refine WO.vals [(0, 17, (.slice a_r6 r6.length c_r6)), (1, 18, (.int .i64 (i11 : Int)))] (by kernel_rfl) (fun _ => by kernel_rfl) ?_
    obtain ⟨x18, hx_x18, hr1⟩ := bind_some hr1
    obtain ⟨h0_x18, h1_x18, hx_x18⟩ := idx_some hx_x18
    obtain ⟨ha_x18, cs_x18, hn_x18, hr_x18, hc_x18⟩ := ((RSl.mono h_r6 hl9)).el _ _ hx_x18
    obtain rfl := hr_x18
    refine WO.indexAddr (e := 4) (sz := 1) rfl (by kernel_rfl) (by kernel_rfl) (by kernel_rfl) rfl ha_x18 rfl h0_x18 h1_x18 ?_
    refine WO.load rfl (by kernel_rfl) (by kernel_rfl) rfl (v := (.bool x18)) (fun w' hw' => hc_x18.cell0 (by kernel_rfl) ((rd_f hS14.im) w' hw')) ?_
    refine WO.nil ?_
    refine En.next ?_
    obtain ⟨j19, hr2, hr1⟩ := bind_some hr1
    refine W.join (J := (fun fr w => ∃ (I21 : Mem), ∃ (a_j19 : Option Addr), ∃ (c_j19 : Nat), fr = [(0, (.slice a_p0 p0.length c_p0)), (5, (.slice a_r6 r6.length c_r6)), (6, (.slice a_j19 j19.length c_j19)), (7, (.int .i64 (i11 : Int)))] ∧ I8.Le I21 ∧ St E w I21 Os ∧ RSl 1 RStr I21 a_j19 c_j19 j19)) ?restj19 ?waysj19
    case waysj19 =>
      refine W.cond (b := x18) rfl rfl (fun hc => ?_) (fun hc => ?_)
      · replace hr2 := cond_t hc hr2
        refine W.region (l := [0, 1, 2, 3, 4, 5, 6, 7]) (by kernel_rfl) ?_
        refine WO.vals [(0, 21, (.slice a_s10 s10.length c_s10)), (1, 22, (.slice a_p0 p0.length c_p0)), (2, 23, (.int .i64 (i11 : Int)))] (by kernel_rfl) (fun _ => by kernel_rfl) ?_
        obtain ⟨x23, hx_x23, hr2⟩ := bind_some hr2
        obtain ⟨h0_x23, h1_x23, hx_x23⟩ := idx_some hx_x23
        obtain ⟨ha_x23, cs_x23, hn_x23, hr_x23, hc_x23⟩ := ((RSl.mono h_p0 (hl4.trans hl9))).el _ _ hx_x23
        obtain ⟨w_x23, rfl, h_x23⟩ := hr_x23
        refine WO.indexAddr (e := 27) (sz := 2) rfl (by kernel_rfl) (by kernel_rfl) (by kernel_rfl) rfl ha_x23 rfl h0_x23 h1_x23 ?_
        refine WO.vals [(4, 25, (.pointer (some ⟨bl a_p0, of a_p0 + ((i11 : Int)).toNat * 2, none⟩)))] (by kernel_rfl) (fun _ => by kernel_rfl) ?_
        refine WO.load rfl (by kernel_rfl) (by kernel_rfl) rfl (v := (.string x23.Name)) (fun w' hw' => hc_x23.cell0 (by kernel_rfl) ((rd_f hS14.im) w' hw')) ?_
        obtain ⟨r29, hx_r24, hr2⟩ := bind_some hr2
        refine WO.call rfl (by kernel_rfl) rfl (f := 28) (args := #[(.slice a_s10 s10.length c_s10), (.string x23.Name)]) (by kernel_rfl) (registrarref18_into_ok h_s10 hS14 hx_r24) ?_
        rintro _ w25 ⟨I26, a_r29, c_r29, rfl, hl27, hS28, h_r29⟩
        refine ⟨_, rfl, trivial, ?_⟩
        refine WO.vals [(7, 6, (.slice a_r29 r29.length c_r29))] (by kernel_rfl) (fun _ => by kernel_rfl) ?_
        refine WO.nil ?_
        have he := Option.some.inj hr2
        subst j19
        refine En.weaken (fr' := [(0, (.slice a_p0 p0.length c_p0)), (5, (.slice a_r6 r6.length c_r6)), (6, (.slice a_r29 r29.length c_r29)), (7, (.int .i64 (i11 : Int)))]) (En.round ⟨I26, a_r29, c_r29, rfl, hl27, hS28, h_r29⟩) (Sub.cons rfl (Sub.cons rfl (Sub.cons rfl (Sub.cons rfl Sub.nil))))
      · replace hr2 := cond_f hc hr2
        refine W.skip ?_
        have he := Option.some.inj hr2
        subst j19
        refine En.weaken (fr' := [(0, (.slice a_p0 p0.length c_p0)), (5, (.slice a_r6 r6.length c_r6)), (6, (.slice a_s10 s10.length c_s10)), (7, (.int .i64 (i11 : Int)))]) (En.round ⟨I8, a_s10, c_s10, rfl, Mem.Le.refl _, hS14, h_s10⟩) (Sub.cons rfl (Sub.cons rfl (Sub.cons rfl (Sub.cons rfl Sub.nil))))
    case restj19 =>
      rintro _ w30 ⟨I21, a_j19, c_j19, rfl, hl22, hS31, h_j19⟩
      refine En.in_normal ?_
      refine En.next ?_
      refine W.region (l := [0, 1, 2]) (by kernel_rfl) ?_
      refine WO.vals [(0, 15, (.int .i64 (i11 : Int)))] (by kernel_rfl) (fun _ => by kernel_rfl) ?_
      refine WO.incr (j := i11) rfl (by kernel_rfl) rfl (by first | omega | (dsimp only at *; omega)) ?_
      refine WO.vals [(2, 7, (.int .i64 ((i11 + 1 : Nat) : Int)))] (by kernel_rfl) (fun _ => by kernel_rfl) ?_
      refine WO.nil ?_
      have he := Option.some.inj hr1
      subst x15
      refine En.weaken (fr' := [(0, (.slice a_p0 p0.length c_p0)), (5, (.slice a_r6 r6.length c_r6)), (6, (.slice a_j19 j19.length c_j19)), (7, (.int .i64 ((i11 + 1 : Nat) : Int)))]) (En.round ⟨I21, a_j19, c_j19, rfl, (hl9.trans hl22), hS31, h_j19⟩) (Sub.cons rfl (Sub.cons rfl (Sub.cons rfl (Sub.cons rfl Sub.nil))))
  case lastt7 =>
    rintro _ w32 ⟨I8, a_s10, c_s10, rfl, hl9, hS33, h_s10⟩
    refine W.seq ?_
    refine W.seq ?_
    refine W.region (l := [0, 1, 2, 3]) (by kernel_rfl) ?_
    refine WO.vals [(0, 11, (.int .i64 (p0.length : Int))), (1, 12, (.slice a_p0 p0.length c_p0)), (2, 13, (.int .i64 (p0.length : Int))), (3, 14, (.bool (decide ((p0.length : Int) < (p0.length : Int)))))] (by kernel_rfl) (fun _ => by kernel_rfl) ?_
    refine WO.nil ?_
    refine En.next ?_
    refine W.cond (b := (decide ((p0.length : Int) < (p0.length : Int)))) rfl rfl (fun hc => ?_) (fun hc => ?_)
    · exact absurd hc (by first | (simp; done) | (simp; omega))
    clear hc
    refine W.exit ?_
    refine En.nx_exit ?_
    refine En.rd_exit ?_
    refine En.in_hit ?_
    refine En.next ?_
    refine W.seq ?_
    refine W.region (l := [0, 1]) (by kernel_rfl) ?_
    refine WO.vals [(0, 28, (.slice a_s10 s10.length c_s10)), (1, 4, (.slice a_s10 s10.length c_s10))] (by kernel_rfl) (fun _ => by kernel_rfl) ?_
    refine WO.nil ?_
    refine En.next ?_
    refine W.ret ?_
    have he := Option.some.inj hr
    subst r
    exact En.ret1 rfl (.slice a_s10 s10.length c_s10) rfl ⟨I8, a_s10, c_s10, rfl, (hl4.trans hl9), hS33, h_s10⟩
def registrarref12_SameTexts (p0 : List ByteArray) (p1 : List ByteArray) : Option Bool := (bif ((p0.length : Int) != (p1.length : Int)) then some false else (forN (fun (i4 : Nat) => fun (_s : Unit) => (idx p0 (i4 : Int)).bind (fun (x13 : ByteArray) => (idx p1 (i4 : Int)).bind (fun (x14 : ByteArray) => (bif (!sEq x13 x14) then some (.inr false) else some (.inl ()))))) p0.length 0 ()).bind (fun (t : Unit ⊕ (Bool)) => match t with | .inl _ => some true | .inr s16 => some s16))
set_option maxHeartbeats 1000000 in
theorem registrarref12_SameTexts_ok {E w : World} {I : Mem} {Os : List Mem} {p0 : List ByteArray} {p1 : List ByteArray} {a_p0 : Option Addr} {c_p0 : Nat} {a_p1 : Option Addr} {c_p1 : Nat} (h_p0 : RSl 1 RStr I a_p0 c_p0 p0) (h_p1 : RSl 1 RStr I a_p1 c_p1 p1) (hS : St E w I Os) {r : Bool} (hr : registrarref12_SameTexts p0 p1 = some r) :
    Calls P 11 #[(.slice a_p0 p0.length c_p0), (.slice a_p1 p1.length c_p1)] w (fun e w' => ∃ (I' : Mem), e = .returned (.bool r) ∧ I.Le I' ∧ St E w' I' Os) := by
  refine calls_W (args := [(.slice a_p0 p0.length c_p0), (.slice a_p1 p1.length c_p1)]) (fn := Try.f11) rfl rfl rfl ?_
  unfold registrarref12_SameTexts at hr
  refine W.seq ?_
  refine W.region (l := [0]) (by kernel_rfl) ?_
  refine WO.vals [(0, 4, (.bool false))] (by kernel_rfl) (fun _ => by kernel_rfl) ?_
  refine WO.nil ?_
  refine En.next ?_
  refine W.seq ?_
  refine W.seq ?_
  refine W.region (l := [0, 1, 2, 3, 4]) (by kernel_rfl) ?_
  refine WO.vals [(0, 6, (.slice a_p0 p0.length c_p0)), (1, 7, (.int .i64 (p0.length : Int))), (2, 8, (.slice a_p1 p1.length c_p1)), (3, 9, (.int .i64 (p1.length : Int))), (4, 10, (.bool ((p0.length : Int) != (p1.length : Int))))] (by kernel_rfl) (fun _ => by kernel_rfl) ?_
  refine WO.nil ?_
  refine En.next ?_
  refine W.cond (b := ((p0.length : Int) != (p1.length : Int))) rfl rfl (fun hc => ?_) (fun hc => ?_)
  · replace hr := cond_t hc hr
    refine W.seq ?_
    refine W.region (l := [0]) (by kernel_rfl) ?_
    refine WO.vals [(0, 4, (.bool false))] (by kernel_rfl) (fun _ => by kernel_rfl) ?_
    refine WO.nil ?_
    refine En.next ?_
    refine W.ret ?_
    refine En.nx_ret ?_
    have he := Option.some.inj hr
    subst r
    exact En.ret1 rfl (.bool false) rfl ⟨I, rfl, Mem.Le.refl _, hS⟩
  · replace hr := cond_f hc hr
    refine W.skip ?_
    refine En.next ?_
    refine W.seq ?_
    refine W.seq ?_
    refine W.region (l := [0]) (by kernel_rfl) ?_
    refine WO.vals [(0, 5, (.int .i64 0))] (by kernel_rfl) (fun _ => by kernel_rfl) ?_
    refine WO.nil ?_
    refine En.next ?_
    refine W.block ?_
    obtain ⟨t1, hloop5, hr⟩ := bind_some hr
    have hlt9 := (h_p0).len_lt
    refine W.weaken (fr' := [(0, (.slice a_p0 p0.length c_p0)), (1, (.slice a_p1 p1.length c_p1)), (5, (.int .i64 ((0 : Nat) : Int)))]) (W.forN (m := p0.length) hloop5 (fun (i4 : Nat) => fun (_s : Unit) fr w => ∃ (I2 : Mem), fr = [(0, (.slice a_p0 p0.length c_p0)), (1, (.slice a_p1 p1.length c_p1)), (5, (.int .i64 (i4 : Int)))] ∧ I.Le I2 ∧ St E w I2 Os) ⟨I, rfl, Mem.Le.refl _, hS⟩ ?roundt1 ?lastt1) (Sub.cons rfl (Sub.cons rfl (Sub.cons rfl Sub.nil)))
    case roundt1 =>
      rintro i4 _ _ w6 hi10 ⟨I2, rfl, hl3, hS7⟩ x8 hr1 hext1
      refine W.seq ?_
      refine W.seq ?_
      refine W.region (l := [0, 1, 2, 3]) (by kernel_rfl) ?_
      refine WO.vals [(0, 11, (.int .i64 (i4 : Int))), (1, 12, (.slice a_p0 p0.length c_p0)), (2, 13, (.int .i64 (p0.length : Int))), (3, 14, (.bool (decide ((i4 : Int) < (p0.length : Int)))))] (by kernel_rfl) (fun _ => by kernel_rfl) ?_
      refine WO.nil ?_
      refine En.next ?_
      refine W.cond (b := (decide ((i4 : Int) < (p0.length : Int)))) rfl rfl (fun hc => ?_) (fun hc => ?_)
      rotate_left
      · exact absurd hc (by first | (simp; done) | (simp; omega))
      clear hc
      refine W.skip ?_
      refine En.next ?_
      refine W.seq ?_
      refine W.block ?_
      refine W.seq ?_
      have hS11 := hS7.drew
      refine W.draw (l := [0, 1, 2, 3, 4, 5, 6, 7, 8]) (by kernel_rfl) 8 (KR I2 []) qR (.back (by kernel_rfl)) (by kernel_rfl) (KR.nil hS11.im) ?_
      generalize World.drew _ = w12 at *
      refine WO.vals [(0, 17, (.slice a_p0 p0.length c_p0)), (1, 18, (.int .i64 (i4 : Int)))] (by kernel_rfl) (fun _ => by kernel_rfl) ?_
      obtain ⟨x13, hx_x13, hr1⟩ := bind_some hr1
      obtain ⟨h0_x13, h1_x13, hx_x13⟩ := idx_some hx_x13
      obtain ⟨ha_x13, cs_x13, hn_x13, hr_x13, hc_x13⟩ := ((RSl.mono h_p0 hl3)).el _ _ hx_x13
      obtain rfl := hr_x13
      refine WO.indexAddr (e := 9) (sz := 1) rfl (by kernel_rfl) (by kernel_rfl) (by kernel_rfl) rfl ha_x13 rfl h0_x13 h1_x13 ?_
      refine WO.load rfl (by kernel_rfl) (by kernel_rfl) rfl (v := (.string x13)) (fun w' hw' => hc_x13.cell0 (by kernel_rfl) ((rd_i hS11.im) w' hw')) ?_
      refine WO.vals [(4, 21, (.slice a_p1 p1.length c_p1)), (5, 22, (.int .i64 (i4 : Int)))] (by kernel_rfl) (fun _ => by kernel_rfl) ?_
      obtain ⟨x14, hx_x14, hr1⟩ := bind_some hr1
      obtain ⟨h0_x14, h1_x14, hx_x14⟩ := idx_some hx_x14
      obtain ⟨ha_x14, cs_x14, hn_x14, hr_x14, hc_x14⟩ := ((RSl.mono h_p1 hl3)).el _ _ hx_x14
      obtain rfl := hr_x14
      refine WO.indexAddr (e := 9) (sz := 1) rfl (by kernel_rfl) (by kernel_rfl) (by kernel_rfl) rfl ha_x14 rfl h0_x14 h1_x14 ?_
      refine WO.load rfl (by kernel_rfl) (by kernel_rfl) rfl (v := (.string x14)) (fun w' hw' => hc_x14.cell0 (by kernel_rfl) ((rd_i hS11.im) w' hw')) ?_
      refine WO.tail rfl ?_
      refine WO.vals [(8, 25, (.bool (!sEq x13 x14)))] (by kernel_rfl) (fun _ => by kernel_rfl) ?_
      refine WO.nil ?_
      refine En.next ?_
      refine W.cond (b := (!sEq x13 x14)) rfl rfl (fun hc => ?_) (fun hc => ?_)
      · replace hr1 := cond_t hc hr1
        refine W.seq ?_
        refine W.region (l := [0]) (by kernel_rfl) ?_
        refine WO.vals [(0, 4, (.bool false))] (by kernel_rfl) (fun _ => by kernel_rfl) ?_
        refine WO.nil ?_
        refine En.next ?_
        refine W.ret ?_
        refine En.in_ret ?_
        refine En.nx_ret ?_
        refine En.rd_ret ?_
        have ht := hext1 _ (Option.some.inj hr1).symm
        subst t1
        refine En.in_ret ?_
        refine En.nx_ret ?_
        have he := Option.some.inj hr
        subst r
        exact En.ret1 rfl (.bool false) rfl ⟨I2, rfl, hl3, hS11⟩
      · replace hr1 := cond_f hc hr1
        refine W.skip ?_
        refine En.in_normal ?_
        refine En.next ?_
        refine W.region (l := [0, 1, 2]) (by kernel_rfl) ?_
        refine WO.vals [(0, 15, (.int .i64 (i4 : Int)))] (by kernel_rfl) (fun _ => by kernel_rfl) ?_
        refine WO.incr (j := i4) rfl (by kernel_rfl) rfl (by first | omega | (dsimp only at *; omega)) ?_
        refine WO.vals [(2, 5, (.int .i64 ((i4 + 1 : Nat) : Int)))] (by kernel_rfl) (fun _ => by kernel_rfl) ?_
        refine WO.nil ?_
        refine En.weaken (fr' := [(0, (.slice a_p0 p0.length c_p0)), (1, (.slice a_p1 p1.length c_p1)), (5, (.int .i64 ((i4 + 1 : Nat) : Int)))]) (En.round ⟨(), (Option.some.inj hr1).symm, I2, rfl, hl3, hS11⟩) (Sub.cons rfl (Sub.cons rfl (Sub.cons rfl Sub.nil)))
    case lastt1 =>
      rintro _ _ w17 ⟨I2, rfl, hl3, hS18⟩ he
      cases he
      refine W.seq ?_
      refine W.seq ?_
      refine W.region (l := [0, 1, 2, 3]) (by kernel_rfl) ?_
      refine WO.vals [(0, 11, (.int .i64 (p0.length : Int))), (1, 12, (.slice a_p0 p0.length c_p0)), (2, 13, (.int .i64 (p0.length : Int))), (3, 14, (.bool (decide ((p0.length : Int) < (p0.length : Int)))))] (by kernel_rfl) (fun _ => by kernel_rfl) ?_
      refine WO.nil ?_
      refine En.next ?_
      refine W.cond (b := (decide ((p0.length : Int) < (p0.length : Int)))) rfl rfl (fun hc => ?_) (fun hc => ?_)
      · exact absurd hc (by first | (simp; done) | (simp; omega))
      clear hc
      refine W.exit ?_
      refine En.nx_exit ?_
      refine En.rd_exit ?_
      refine En.in_hit ?_
      refine En.next ?_
      refine W.seq ?_
      refine W.region (l := [0]) (by kernel_rfl) ?_
      refine WO.vals [(0, 4, (.bool true))] (by kernel_rfl) (fun _ => by kernel_rfl) ?_
      refine WO.nil ?_
      refine En.next ?_
      refine W.ret ?_
      have he := Option.some.inj hr
      subst r
      exact En.ret1 rfl (.bool true) rfl ⟨I2, rfl, hl3, hS18⟩
def registrarref14_Has (p0 : List ByteArray) (p1 : ByteArray) : Option Bool := (forN (fun (i4 : Nat) => fun (_s : Unit) => (idx p0 (i4 : Int)).bind (fun (x11 : ByteArray) => (bif (sEq x11 p1) then some (.inr true) else some (.inl ())))) p0.length 0 ()).bind (fun (t : Unit ⊕ (Bool)) => match t with | .inl _ => some false | .inr s13 => some s13)
set_option maxHeartbeats 1000000 in
theorem registrarref14_Has_ok {E w : World} {I : Mem} {Os : List Mem} {p0 : List ByteArray} {p1 : ByteArray} {a_p0 : Option Addr} {c_p0 : Nat} (h_p0 : RSl 1 RStr I a_p0 c_p0 p0) (hS : St E w I Os) {r : Bool} (hr : registrarref14_Has p0 p1 = some r) :
    Calls P 22 #[(.slice a_p0 p0.length c_p0), (.string p1)] w (fun e w' => ∃ (I' : Mem), e = .returned (.bool r) ∧ I.Le I' ∧ St E w' I' Os) := by
  refine calls_W (args := [(.slice a_p0 p0.length c_p0), (.string p1)]) (fn := Try.f22) rfl rfl rfl ?_
  unfold registrarref14_Has at hr
  refine W.seq ?_
  refine W.region (l := [0]) (by kernel_rfl) ?_
  refine WO.vals [(0, 4, (.bool false))] (by kernel_rfl) (fun _ => by kernel_rfl) ?_
  refine WO.nil ?_
  refine En.next ?_
  refine W.seq ?_
  refine W.seq ?_
  refine W.region (l := [0]) (by kernel_rfl) ?_
  refine WO.vals [(0, 5, (.int .i64 0))] (by kernel_rfl) (fun _ => by kernel_rfl) ?_
  refine WO.nil ?_
  refine En.next ?_
  refine W.block ?_
  obtain ⟨t1, hloop5, hr⟩ := bind_some hr
  have hlt9 := (h_p0).len_lt
  refine W.weaken (fr' := [(0, (.slice a_p0 p0.length c_p0)), (1, (.string p1)), (5, (.int .i64 ((0 : Nat) : Int)))]) (W.forN (m := p0.length) hloop5 (fun (i4 : Nat) => fun (_s : Unit) fr w => ∃ (I2 : Mem), fr = [(0, (.slice a_p0 p0.length c_p0)), (1, (.string p1)), (5, (.int .i64 (i4 : Int)))] ∧ I.Le I2 ∧ St E w I2 Os) ⟨I, rfl, Mem.Le.refl _, hS⟩ ?roundt1 ?lastt1) (Sub.cons rfl (Sub.cons rfl (Sub.cons rfl Sub.nil)))
  case roundt1 =>
    rintro i4 _ _ w6 hi10 ⟨I2, rfl, hl3, hS7⟩ x8 hr1 hext1
    refine W.seq ?_
    refine W.seq ?_
    refine W.region (l := [0, 1, 2, 3]) (by kernel_rfl) ?_
    refine WO.vals [(0, 6, (.int .i64 (i4 : Int))), (1, 7, (.slice a_p0 p0.length c_p0)), (2, 8, (.int .i64 (p0.length : Int))), (3, 9, (.bool (decide ((i4 : Int) < (p0.length : Int)))))] (by kernel_rfl) (fun _ => by kernel_rfl) ?_
    refine WO.nil ?_
    refine En.next ?_
    refine W.cond (b := (decide ((i4 : Int) < (p0.length : Int)))) rfl rfl (fun hc => ?_) (fun hc => ?_)
    rotate_left
    · exact absurd hc (by first | (simp; done) | (simp; omega))
    clear hc
    refine W.skip ?_
    refine En.next ?_
    refine W.seq ?_
    refine W.block ?_
    refine W.seq ?_
    refine W.region (l := [0, 1, 2, 3, 4, 5]) (by kernel_rfl) ?_
    refine WO.vals [(0, 12, (.slice a_p0 p0.length c_p0)), (1, 13, (.int .i64 (i4 : Int)))] (by kernel_rfl) (fun _ => by kernel_rfl) ?_
    obtain ⟨x11, hx_x11, hr1⟩ := bind_some hr1
    obtain ⟨h0_x11, h1_x11, hx_x11⟩ := idx_some hx_x11
    obtain ⟨ha_x11, cs_x11, hn_x11, hr_x11, hc_x11⟩ := ((RSl.mono h_p0 hl3)).el _ _ hx_x11
    obtain rfl := hr_x11
    refine WO.indexAddr (e := 9) (sz := 1) rfl (by kernel_rfl) (by kernel_rfl) (by kernel_rfl) rfl ha_x11 rfl h0_x11 h1_x11 ?_
    refine WO.load rfl (by kernel_rfl) (by kernel_rfl) rfl (v := (.string x11)) (fun w' hw' => hc_x11.cell0 (by kernel_rfl) ((rd_f hS7.im) w' hw')) ?_
    refine WO.vals [(4, 16, (.string p1)), (5, 17, (.bool (sEq x11 p1)))] (by kernel_rfl) (fun _ => by kernel_rfl) ?_
    refine WO.nil ?_
    refine En.next ?_
    refine W.cond (b := (sEq x11 p1)) rfl rfl (fun hc => ?_) (fun hc => ?_)
    · replace hr1 := cond_t hc hr1
      refine W.seq ?_
      refine W.region (l := [0]) (by kernel_rfl) ?_
      refine WO.vals [(0, 4, (.bool true))] (by kernel_rfl) (fun _ => by kernel_rfl) ?_
      refine WO.nil ?_
      refine En.next ?_
      refine W.ret ?_
      refine En.in_ret ?_
      refine En.nx_ret ?_
      refine En.rd_ret ?_
      have ht := hext1 _ (Option.some.inj hr1).symm
      subst t1
      refine En.in_ret ?_
      refine En.nx_ret ?_
      have he := Option.some.inj hr
      subst r
      exact En.ret1 rfl (.bool true) rfl ⟨I2, rfl, hl3, hS7⟩
    · replace hr1 := cond_f hc hr1
      refine W.skip ?_
      refine En.in_normal ?_
      refine En.next ?_
      refine W.region (l := [0, 1, 2]) (by kernel_rfl) ?_
      refine WO.vals [(0, 10, (.int .i64 (i4 : Int)))] (by kernel_rfl) (fun _ => by kernel_rfl) ?_
      refine WO.incr (j := i4) rfl (by kernel_rfl) rfl (by first | omega | (dsimp only at *; omega)) ?_
      refine WO.vals [(2, 5, (.int .i64 ((i4 + 1 : Nat) : Int)))] (by kernel_rfl) (fun _ => by kernel_rfl) ?_
      refine WO.nil ?_
      refine En.weaken (fr' := [(0, (.slice a_p0 p0.length c_p0)), (1, (.string p1)), (5, (.int .i64 ((i4 + 1 : Nat) : Int)))]) (En.round ⟨(), (Option.some.inj hr1).symm, I2, rfl, hl3, hS7⟩) (Sub.cons rfl (Sub.cons rfl (Sub.cons rfl Sub.nil)))
  case lastt1 =>
    rintro _ _ w14 ⟨I2, rfl, hl3, hS15⟩ he
    cases he
    refine W.seq ?_
    refine W.seq ?_
    refine W.region (l := [0, 1, 2, 3]) (by kernel_rfl) ?_
    refine WO.vals [(0, 6, (.int .i64 (p0.length : Int))), (1, 7, (.slice a_p0 p0.length c_p0)), (2, 8, (.int .i64 (p0.length : Int))), (3, 9, (.bool (decide ((p0.length : Int) < (p0.length : Int)))))] (by kernel_rfl) (fun _ => by kernel_rfl) ?_
    refine WO.nil ?_
    refine En.next ?_
    refine W.cond (b := (decide ((p0.length : Int) < (p0.length : Int)))) rfl rfl (fun hc => ?_) (fun hc => ?_)
    · exact absurd hc (by first | (simp; done) | (simp; omega))
    clear hc
    refine W.exit ?_
    refine En.nx_exit ?_
    refine En.rd_exit ?_
    refine En.in_hit ?_
    refine En.next ?_
    refine W.seq ?_
    refine W.region (l := [0]) (by kernel_rfl) ?_
    refine WO.vals [(0, 4, (.bool false))] (by kernel_rfl) (fun _ => by kernel_rfl) ?_
    refine WO.nil ?_
    refine En.next ?_
    refine W.ret ?_
    have he := Option.some.inj hr
    subst r
    exact En.ret1 rfl (.bool false) rfl ⟨I2, rfl, hl3, hS15⟩
noncomputable def registrarref18_Is (p0 : List api_Role) (p1 : ByteArray) (p2 : ByteArray) : Option Bool := (registrarref18_All p0 p1).bind (fun (r6 : List ByteArray) => (registrarref14_Has r6 p2).bind (fun (r12 : Bool) => some r12))
set_option maxHeartbeats 1000000 in
theorem registrarref18_Is_ok {E w : World} {I : Mem} {Os : List Mem} {p0 : List api_Role} {p1 : ByteArray} {p2 : ByteArray} {a_p0 : Option Addr} {c_p0 : Nat} (h_p0 : RSl 2 R_api_Role I a_p0 c_p0 p0) (hS : St E w I Os) {r : Bool} (hr : registrarref18_Is p0 p1 p2 = some r) :
    Calls P 15 #[(.slice a_p0 p0.length c_p0), (.string p1), (.string p2)] w (fun e w' => ∃ (I' : Mem), e = .returned (.bool r) ∧ I.Le I' ∧ St E w' I' Os) := by
  refine calls_W (args := [(.slice a_p0 p0.length c_p0), (.string p1), (.string p2)]) (fn := Try.f15) rfl rfl rfl ?_
  unfold registrarref18_Is at hr
  refine W.seq ?_
  refine W.region (l := [0]) (by kernel_rfl) ?_
  refine WO.vals [(0, 6, (.bool false))] (by kernel_rfl) (fun _ => by kernel_rfl) ?_
  refine WO.nil ?_
  refine En.next ?_
  refine W.seq ?_
  refine W.region (l := [0, 1, 2, 3, 4, 5]) (by kernel_rfl) ?_
  refine WO.vals [(0, 7, (.slice a_p0 p0.length c_p0)), (1, 8, (.string p1))] (by kernel_rfl) (fun _ => by kernel_rfl) ?_
  obtain ⟨r6, hx_r1, hr⟩ := bind_some hr
  refine WO.call rfl (by kernel_rfl) rfl (f := 13) (args := #[(.slice a_p0 p0.length c_p0), (.string p1)]) (by kernel_rfl) (registrarref18_All_ok h_p0 hS hx_r1) ?_
  rintro _ w2 ⟨I3, a_r6, c_r6, rfl, hl4, hS5, h_r6⟩
  refine ⟨_, rfl, trivial, ?_⟩
  refine WO.vals [(3, 10, (.string p2))] (by kernel_rfl) (fun _ => by kernel_rfl) ?_
  obtain ⟨r12, hx_r7, hr⟩ := bind_some hr
  refine WO.call rfl (by kernel_rfl) rfl (f := 22) (args := #[(.slice a_r6 r6.length c_r6), (.string p2)]) (by kernel_rfl) (registrarref14_Has_ok h_r6 hS5 hx_r7) ?_
  rintro _ w8 ⟨I9, rfl, hl10, hS11⟩
  refine ⟨_, rfl, trivial, ?_⟩
  refine WO.vals [(5, 6, (.bool r12))] (by kernel_rfl) (fun _ => by kernel_rfl) ?_
  refine WO.nil ?_
  refine En.next ?_
  refine W.ret ?_
  have he := Option.some.inj hr
  subst r
  exact En.ret1 rfl (.bool r12) rfl ⟨I9, rfl, (hl4.trans hl10), hS11⟩
noncomputable def registrarlaw18_MemberTells (p0 : List api_Role) (p1 : ByteArray) (p2 : ByteArray) : Option Bool := (registrarref18_Few p0).bind (fun (r6 : Bool) => (bif (((!r6) || (decide ((p1.size : Int) > 100))) || (decide ((p2.size : Int) > 100))) then (registrarlaw18_works).bind (fun (r16 : Bool) => some r16) else (member_Find p0 p1).bind (fun ((r22, r23) : api_Role × Bool) => (registrarref18_At p0 p1).bind (fun (r35 : Int) => (((bif (!(r23 == (decide (r35 ≥ 0)))) then some true else ((bif r23 then (idx p0 r35).bind (fun (x50 : api_Role) => (registrarref18_Same ([r22] : List api_Role) ([x50] : List api_Role)).bind (fun (r74 : Bool) => some (!r74))) else some false)).bind (fun (j46 : Bool) => some j46))).bind (fun (j42 : Bool) => some (j42 || ((!r23) && ((!sEq r22.Name (⟨#[]⟩ : ByteArray)) || (decide ((r22.In.length : Int) > 0))))))).bind (fun (j36 : Bool) => (bif j36 then some false else (member_All p0 p1).bind (fun (r162 : List ByteArray) => (registrarref18_All p0 p1).bind (fun (r168 : List ByteArray) => (registrarref12_SameTexts r162 r168).bind (fun (r174 : Bool) => ((bif r174 then (member_Is p0 p1 p2).bind (fun (r184 : Bool) => (registrarref18_Is p0 p1 p2).bind (fun (r190 : Bool) => some (r184 == r190))) else some false)).bind (fun (j175 : Bool) => ((bif j175 then (registrarlaw18_works).bind (fun (r202 : Bool) => some r202) else some false)).bind (fun (j193 : Bool) => some j193)))))))))))
set_option maxHeartbeats 1000000 in
theorem registrarlaw18_MemberTells_ok {E w : World} {I : Mem} {Os : List Mem} {p0 : List api_Role} {p1 : ByteArray} {p2 : ByteArray} {a_p0 : Option Addr} {c_p0 : Nat} (h_p0 : RSl 2 R_api_Role I a_p0 c_p0 p0) (hS : St E w I Os) {r : Bool} (hr : registrarlaw18_MemberTells p0 p1 p2 = some r) :
    Calls P 3 #[(.slice a_p0 p0.length c_p0), (.string p1), (.string p2)] w (fun e w' => ∃ (I' : Mem), e = .returned (.bool r) ∧ I.Le I' ∧ St E w' I' Os) := by
  refine calls_W (args := [(.slice a_p0 p0.length c_p0), (.string p1), (.string p2)]) (fn := Try.f3) rfl rfl rfl ?_
  unfold registrarlaw18_MemberTells at hr
  refine W.seq ?_
  refine W.region (l := [0]) (by kernel_rfl) ?_
  refine WO.vals [(0, 6, (.bool false))] (by kernel_rfl) (fun _ => by kernel_rfl) ?_
  refine WO.nil ?_
  refine En.next ?_
  refine W.seq ?_
  refine W.seq ?_
  refine W.region (l := [0, 1, 2, 3, 4, 5, 6, 7, 8, 9, 10, 11, 12]) (by kernel_rfl) ?_
  refine WO.vals [(0, 10, (.slice a_p0 p0.length c_p0))] (by kernel_rfl) (fun _ => by kernel_rfl) ?_
  obtain ⟨r6, hx_r1, hr⟩ := bind_some hr
  refine WO.call rfl (by kernel_rfl) rfl (f := 6) (args := #[(.slice a_p0 p0.length c_p0)]) (by kernel_rfl) (registrarref18_Few_ok h_p0 hS hx_r1) ?_
  rintro _ w2 ⟨I3, rfl, hl4, hS5⟩
  refine ⟨_, rfl, trivial, ?_⟩
  refine WO.vals [(2, 12, (.bool (!r6))), (3, 13, (.bool (!r6)))] (by kernel_rfl) (fun _ => by kernel_rfl) ?_
  refine WO.join (l1 := [4, 5, 6, 7]) (l2 := [8, 9, 10, 11, 12]) (J := fun frx wx => frx = [(17, (.bool ((!r6) || (decide ((p1.size : Int) > 100))))), (0, (.slice a_p0 p0.length c_p0)), (1, (.string p1)), (2, (.string p2))] ∧ w2 = wx) ?restm7 ?waysm7
  case waysm7 =>
    refine WO.caseb (!r6) (fun hc => ?_) (fun hc => ?_)
    · skip
      refine WO.reslot 13 rfl (show Value.bool (!r6) = Value.bool true by rw [hc]) ?_
      refine WO.pass rfl (by kernel_rfl) rfl ?_
      refine WO.pass rfl (by kernel_rfl) rfl ?_
      refine WO.pass rfl (by kernel_rfl) rfl ?_
      refine WO.vals [(7, 17, (.bool true))] (by kernel_rfl) (fun _ => by kernel_rfl) ?_
      refine WO.weaken (fr' := [(17, (.bool ((!r6) || (decide ((p1.size : Int) > 100))))), (0, (.slice a_p0 p0.length c_p0)), (1, (.string p1)), (2, (.string p2))]) (WO.meet ⟨rfl, rfl⟩) (Sub.cons (by rw [hc]; rfl) (Sub.cons rfl (Sub.cons rfl (Sub.cons rfl Sub.nil))))
    · skip
      refine WO.reslot 13 rfl (show Value.bool (!r6) = Value.bool false by rw [hc]) ?_
      refine WO.vals [(4, 14, (.string p1)), (5, 15, (.int .i64 (p1.size : Int))), (6, 16, (.bool (decide ((p1.size : Int) > 100)))), (7, 17, (.bool (decide ((p1.size : Int) > 100))))] (by kernel_rfl) (fun _ => by kernel_rfl) ?_
      refine WO.weaken (fr' := [(17, (.bool ((!r6) || (decide ((p1.size : Int) > 100))))), (0, (.slice a_p0 p0.length c_p0)), (1, (.string p1)), (2, (.string p2))]) (WO.meet ⟨rfl, rfl⟩) (Sub.cons (by rw [hc]; rfl) (Sub.cons rfl (Sub.cons rfl (Sub.cons rfl Sub.nil))))
  case restm7 =>
    rintro _ _ ⟨rfl, rfl⟩
    refine WO.vals [(8, 18, (.bool ((!r6) || (decide ((p1.size : Int) > 100)))))] (by kernel_rfl) (fun _ => by kernel_rfl) ?_
    refine WO.join (l1 := [9, 10, 11, 12]) (l2 := []) (J := fun frx wx => frx = [(22, (.bool (((!r6) || (decide ((p1.size : Int) > 100))) || (decide ((p2.size : Int) > 100))))), (0, (.slice a_p0 p0.length c_p0)), (1, (.string p1)), (2, (.string p2))] ∧ w2 = wx) ?restm9 ?waysm9
    case waysm9 =>
      refine WO.caseb ((!r6) || (decide ((p1.size : Int) > 100))) (fun hc => ?_) (fun hc => ?_)
      · skip
        refine WO.reslot 18 rfl (show Value.bool ((!r6) || (decide ((p1.size : Int) > 100))) = Value.bool true by rw [hc]) ?_
        refine WO.pass rfl (by kernel_rfl) rfl ?_
        refine WO.pass rfl (by kernel_rfl) rfl ?_
        refine WO.pass rfl (by kernel_rfl) rfl ?_
        refine WO.vals [(12, 22, (.bool true))] (by kernel_rfl) (fun _ => by kernel_rfl) ?_
        refine WO.weaken (fr' := [(22, (.bool (((!r6) || (decide ((p1.size : Int) > 100))) || (decide ((p2.size : Int) > 100))))), (0, (.slice a_p0 p0.length c_p0)), (1, (.string p1)), (2, (.string p2))]) (WO.meet ⟨rfl, rfl⟩) (Sub.cons (by rw [hc]; rfl) (Sub.cons rfl (Sub.cons rfl (Sub.cons rfl Sub.nil))))
      · skip
        refine WO.reslot 18 rfl (show Value.bool ((!r6) || (decide ((p1.size : Int) > 100))) = Value.bool false by rw [hc]) ?_
        refine WO.vals [(9, 19, (.string p2)), (10, 20, (.int .i64 (p2.size : Int))), (11, 21, (.bool (decide ((p2.size : Int) > 100)))), (12, 22, (.bool (decide ((p2.size : Int) > 100))))] (by kernel_rfl) (fun _ => by kernel_rfl) ?_
        refine WO.weaken (fr' := [(22, (.bool (((!r6) || (decide ((p1.size : Int) > 100))) || (decide ((p2.size : Int) > 100))))), (0, (.slice a_p0 p0.length c_p0)), (1, (.string p1)), (2, (.string p2))]) (WO.meet ⟨rfl, rfl⟩) (Sub.cons (by rw [hc]; rfl) (Sub.cons rfl (Sub.cons rfl (Sub.cons rfl Sub.nil))))
    case restm9 =>
      rintro _ _ ⟨rfl, rfl⟩
      refine WO.nil ?_
      refine En.next ?_
      refine W.cond (b := (((!r6) || (decide ((p1.size : Int) > 100))) || (decide ((p2.size : Int) > 100)))) rfl rfl (fun hc => ?_) (fun hc => ?_)
      · replace hr := cond_t hc hr
        refine W.seq ?_
        refine W.region (l := [0, 1]) (by kernel_rfl) ?_
        obtain ⟨r16, hx_r11, hr⟩ := bind_some hr
        refine WO.call rfl (by kernel_rfl) rfl (f := 7) (args := #[]) (by kernel_rfl) (registrarlaw18_works_ok  hS5 hx_r11) ?_
        rintro _ w12 ⟨I13, rfl, hl14, hS15⟩
        refine ⟨_, rfl, trivial, ?_⟩
        refine WO.vals [(1, 6, (.bool r16))] (by kernel_rfl) (fun _ => by kernel_rfl) ?_
        refine WO.nil ?_
        refine En.next ?_
        refine W.ret ?_
        refine En.nx_ret ?_
        have he := Option.some.inj hr
        subst r
        exact En.ret1 rfl (.bool r16) rfl ⟨I13, rfl, (hl4.trans hl14), hS15⟩
      · replace hr := cond_f hc hr
        refine W.skip ?_
        refine En.next ?_
        refine W.seq ?_
        refine W.region (l := [0, 1, 2, 3, 4, 5, 6, 7, 8]) (by kernel_rfl) ?_
        refine WO.vals [(0, 25, (.slice a_p0 p0.length c_p0)), (1, 26, (.string p1))] (by kernel_rfl) (fun _ => by kernel_rfl) ?_
        obtain ⟨⟨r22, r23⟩, hx_r17, hr⟩ := bind_some hr
        refine WO.call rfl (by kernel_rfl) rfl (f := 8) (args := #[(.slice a_p0 p0.length c_p0), (.string p1)]) (by kernel_rfl) (member_Find_ok (RSl.mono h_p0 hl4) hS5 hx_r17) ?_
        rintro _ w18 ⟨I19, w_r22, rfl, hl20, hS21, h_r22⟩
        refine ⟨_, rfl, trivial, ?_⟩
        refine WO.vals [(3, 24, (.tuple #[(.agg (cs_api_Role r22 w_r22).toArray), (.bool r23)])), (4, 28, (.agg (cs_api_Role r22 w_r22).toArray)), (5, 29, (.bool r23))] (by kernel_rfl) (fun _ => by kernel_rfl) ?_
        refine WO.new hS21 rfl (by kernel_rfl) rfl (.cells (cs_api_Role z_api_Role zw_api_Role).toArray 27 (0, 0)) (fun b => .pointer (some ⟨b, 0, none⟩)) (by kernel_rfl) (fun _ _ _ => trivial) ?_
        intro b24 w27 hS26
        refine WO.storeBox hS26 rfl (by kernel_rfl) rfl 0 rfl rfl (by kernel_rfl) (by kernel_rfl) (by kernel_rfl) ((cs_api_Role r22 w_r22).toArray) (by kernel_rfl) (fun _ _ => trivial) ?_
        intro w29 hS28
        refine WO.vals [(8, 8, (.bool r23))] (by kernel_rfl) (fun _ => by kernel_rfl) ?_
        refine WO.nil ?_
        refine En.next ?_
        refine W.seq ?_
        refine W.region (l := [0, 1, 2, 3]) (by kernel_rfl) ?_
        refine WO.vals [(0, 30, (.slice a_p0 p0.length c_p0)), (1, 31, (.string p1))] (by kernel_rfl) (fun _ => by kernel_rfl) ?_
        obtain ⟨r35, hx_r30, hr⟩ := bind_some hr
        refine WO.call rfl (by kernel_rfl) rfl (f := 9) (args := #[(.slice a_p0 p0.length c_p0), (.string p1)]) (by kernel_rfl) (registrarref18_At_ok (RSl.mono h_p0 (hl4.trans hl20)) hS28 hx_r30) ?_
        rintro _ w31 ⟨I32, rfl, hl33, hS34⟩
        refine ⟨_, rfl, trivial, ?_⟩
        refine WO.vals [(3, 9, (.int .i64 r35))] (by kernel_rfl) (fun _ => by kernel_rfl) ?_
        refine WO.nil ?_
        refine En.next ?_
        refine W.seq ?_
        refine W.seq ?_
        obtain ⟨j36, hr1, hr⟩ := bind_some hr
        refine W.join (J := (fun fr w => ∃ (I38 : Mem), fr = [(0, (.slice a_p0 p0.length c_p0)), (1, (.string p1)), (2, (.string p2)), (65, (.bool j36))] ∧ I32.Le I38 ∧ St E w I38 Os)) ?restj36 ?waysj36
        case waysj36 =>
          have hS40 := hS34.drew
          refine W.draws (.split 13 8 (.leaf [0, 1, 2, 3, 4, 5, 6, 7, 9, 10, 11, 12, 13, 8, 14, 15, 16, 17, 18, 19, 20, 21, 22, 23, 24, 25, 26, 27, 28, 29, 30, 31, 32]) (.leaf [0, 1, 2, 3, 4, 5, 6, 7, 9, 10, 11, 12, 8, 13, 14, 15, 16, 17, 18, 19, 20, 21, 22, 23, 24, 25, 26, 27, 28, 29, 30, 31, 32])) 18 (KR I32 [Gv.one b24 (.cells (cs_api_Role r22 w_r22).toArray 27 (0, 0))]) qR (.back (by kernel_rfl)) (by kernel_rfl) (KR.cons (hS40.rd (List.Mem.head _)) (KR.nil hS40.im)) ?_
          generalize World.drew _ = w41 at *
          refine ⟨?_, ?_⟩
          · skip
            show WO _ _ _ _ _ _ _ [0, 1, 2, 3, 4, 5, 6, 7, 9, 10, 11, 12, 13, 8, 14, 15, 16, 17, 18, 19, 20, 21, 22, 23, 24, 25, 26, 27, 28, 29, 30, 31, 32] _ _
            refine WO.vals [(0, 33, (.bool r23)), (1, 34, (.int .i64 r35)), (2, 35, (.bool (decide (r35 ≥ 0)))), (3, 36, (.bool (!(r23 == (decide (r35 ≥ 0)))))), (4, 37, (.bool (!(r23 == (decide (r35 ≥ 0))))))] (by kernel_rfl) (fun _ => by kernel_rfl) ?_
            obtain ⟨j42, hr2, hr1⟩ := bind_some hr1
            refine WO.join (l1 := [5, 6, 7, 9, 10, 11, 12, 13, 8, 14, 15, 16, 17]) (l2 := [18, 19, 20, 21, 22, 23, 24, 25, 26, 27, 28, 29, 30, 31, 32]) (J := (fun fr w => ∃ (I44 : Mem), fr = [(0, (.slice a_p0 p0.length c_p0)), (1, (.string p1)), (2, (.string p2)), (7, (.pointer (some ⟨b24, 0, none⟩))), (8, (.bool r23)), (50, (.bool j42))] ∧ I32.Le I44 ∧ St E w I44 ((Gv.one b24 (.cells (cs_api_Role r22 w_r22).toArray 27 (0, 0))) :: Os))) ?restj42 ?waysj42
            case waysj42 =>
              refine WO.caseb (!(r23 == (decide (r35 ≥ 0)))) (fun hc => ?_) (fun hc => ?_)
              · replace hr2 := cond_t hc hr2
                refine WO.reslot 37 rfl (show Value.bool (!(r23 == (decide (r35 ≥ 0)))) = Value.bool true by rw [hc]) ?_
                refine WO.pass rfl (by kernel_rfl) rfl ?_
                refine WO.pass rfl (by kernel_rfl) rfl ?_
                refine WO.pass rfl (by kernel_rfl) rfl ?_
                refine WO.pass rfl (by kernel_rfl) rfl ?_
                refine WO.pass rfl (by kernel_rfl) rfl ?_
                refine WO.pass rfl (by kernel_rfl) rfl ?_
                refine WO.pass rfl (by kernel_rfl) rfl ?_
                refine WO.pass rfl (by kernel_rfl) rfl ?_
                refine WO.pass rfl (by kernel_rfl) rfl ?_
                refine WO.pass rfl (by kernel_rfl) rfl ?_
                refine WO.pass rfl (by kernel_rfl) rfl ?_
                refine WO.pass rfl (by kernel_rfl) rfl ?_
                refine WO.vals [(17, 50, (.bool true))] (by kernel_rfl) (fun _ => by kernel_rfl) ?_
                have he := Option.some.inj hr2
                subst j42
                refine WO.weaken (fr' := [(0, (.slice a_p0 p0.length c_p0)), (1, (.string p1)), (2, (.string p2)), (7, (.pointer (some ⟨b24, 0, none⟩))), (8, (.bool r23)), (50, (.bool true))]) (WO.meet ⟨I32, rfl, Mem.Le.refl _, hS40⟩) (Sub.cons rfl (Sub.cons rfl (Sub.cons rfl (Sub.cons rfl (Sub.cons rfl (Sub.cons rfl Sub.nil))))))
              · replace hr2 := cond_f hc hr2
                refine WO.reslot 37 rfl (show Value.bool (!(r23 == (decide (r35 ≥ 0)))) = Value.bool false by rw [hc]) ?_
                refine WO.vals [(5, 38, (.bool r23)), (6, 39, (.bool r23))] (by kernel_rfl) (fun _ => by kernel_rfl) ?_
                obtain ⟨j46, hr3, hr2⟩ := bind_some hr2
                refine WO.join (l1 := [7, 9, 10, 11, 12, 13, 8, 14, 15, 16]) (l2 := [17]) (J := (fun fr w => ∃ (I48 : Mem), fr = [(0, (.slice a_p0 p0.length c_p0)), (1, (.string p1)), (2, (.string p2)), (7, (.pointer (some ⟨b24, 0, none⟩))), (8, (.bool r23)), (37, (.bool false)), (49, (.bool j46))] ∧ I32.Le I48 ∧ St E w I48 ((Gv.one b24 (.cells (cs_api_Role r22 w_r22).toArray 27 (0, 0))) :: Os))) ?restj46 ?waysj46
                case waysj46 =>
                  refine WO.caseb r23 (fun hc => ?_) (fun hc => ?_)
                  · replace hr3 := cond_t hc hr3
                    refine WO.reslot 39 rfl (show Value.bool r23 = Value.bool true by rw [hc]) ?_
                    refine WO.loadN rfl (by kernel_rfl) (by kernel_rfl) rfl ((cs_api_Role r22 w_r22)) (by kernel_rfl) (fun w' hw' => cells_one ((rd_c (List.Mem.head _) (hS40.rd (List.Mem.head _))) w' hw') (by kernel_rfl)) ?_
                    refine WO.vals [(9, 42, (.slice a_p0 p0.length c_p0)), (10, 43, (.int .i64 r35))] (by kernel_rfl) (fun _ => by kernel_rfl) ?_
                    obtain ⟨x50, hx_x50, hr3⟩ := bind_some hr3
                    obtain ⟨h0_x50, h1_x50, hx_x50⟩ := idx_some hx_x50
                    obtain ⟨ha_x50, cs_x50, hn_x50, hr_x50, hc_x50⟩ := ((RSl.mono h_p0 ((hl4.trans hl20).trans hl33))).el _ _ hx_x50
                    obtain ⟨w_x50, rfl, h_x50⟩ := hr_x50
                    refine WO.indexAddr (e := 27) (sz := 2) rfl (by kernel_rfl) (by kernel_rfl) (by kernel_rfl) rfl ha_x50 rfl h0_x50 h1_x50 ?_
                    refine WO.loadN rfl (by kernel_rfl) (by kernel_rfl) rfl ((cs_api_Role x50 w_x50)) (by kernel_rfl) (fun w' hw' => hc_x50.cells (k := 0) (by kernel_rfl) rfl ((rd_i hS40.im) w' hw')) ?_
                    refine WO.newSlice (rel := R_api_Role) (xs := ([x50] : List api_Role)) hS40 rfl (by kernel_rfl) rfl 27 2 [(cs_api_Role x50 w_x50)] (by kernel_rfl) rfl ((Elr.cons ⟨w_x50, rfl, h_x50⟩ Elr.nil)) (fun C52 w56 hS55 => (KR.cons (hS55.rd (List.Mem.tail _ (List.Mem.head _))) (KR.nil hS55.im))) ?_
                    intro a54 C52 w56 hS55 ho53
                    refine WO.newSlice (rel := R_api_Role) (xs := ([r22] : List api_Role)) hS55 rfl (by kernel_rfl) rfl 27 2 [(cs_api_Role r22 w_r22)] (by kernel_rfl) rfl ((Elr.cons ⟨w_r22, rfl, (h_r22.mono hl33)⟩ Elr.nil)) (fun C59 w63 hS62 => (KR.cons (hS62.rd (List.Mem.tail _ (List.Mem.tail _ (List.Mem.head _)))) (KR.nil hS62.im))) ?_
                    intro a61 C59 w63 hS62 ho60
                    have hS65 := hS62.publish
                    have hp66 := (ho60).publish hS62
                    have hS67 := hS65.publish
                    have hp68 := ((OwnSl.mono ho53 (Mem.le_with I32 C59))).publish hS65
                    obtain ⟨r74, hx_r69, hr3⟩ := bind_some hr3
                    refine WO.call rfl (by kernel_rfl) rfl (f := 10) (args := #[(.slice a61 1 1), (.slice a54 1 1)]) (by kernel_rfl) (registrarref18_Same_ok (RSl.mono hp66 (Mem.le_with (I32.with C59) C52)) hp68 hS67 hx_r69) ?_
                    rintro _ w70 ⟨I71, rfl, hl72, hS73⟩
                    have hS75 := St.back hS65 hl72 hS73
                    have hS76 := St.back hS62 (Mem.Le.refl _) hS75
                    refine ⟨_, rfl, (KR.cons (hS76.rd (List.Mem.tail _ (List.Mem.tail _ (List.Mem.head _)))) (KR.nil hS76.im)), ?_⟩
                    refine WO.vals [(15, 48, (.bool (!r74))), (16, 49, (.bool (!r74)))] (by kernel_rfl) (fun _ => by kernel_rfl) ?_
                    have hS77 := hS76.drop
                    have hS78 := hS77.drop
                    have he := Option.some.inj hr3
                    subst j46
                    refine WO.weaken (fr' := [(0, (.slice a_p0 p0.length c_p0)), (1, (.string p1)), (2, (.string p2)), (7, (.pointer (some ⟨b24, 0, none⟩))), (8, (.bool r23)), (37, (.bool false)), (49, (.bool (!r74)))]) (WO.meet ⟨I32, rfl, Mem.Le.refl _, hS78⟩) (Sub.cons rfl (Sub.cons rfl (Sub.cons rfl (Sub.cons rfl (Sub.cons rfl (Sub.cons rfl (Sub.cons rfl Sub.nil)))))))
                  · replace hr3 := cond_f hc hr3
                    refine WO.reslot 39 rfl (show Value.bool r23 = Value.bool false by rw [hc]) ?_
                    refine WO.pass rfl (by kernel_rfl) rfl ?_
                    refine WO.pass rfl (by kernel_rfl) rfl ?_
                    refine WO.pass rfl (by kernel_rfl) rfl ?_
                    refine WO.pass rfl (by kernel_rfl) rfl ?_
                    refine WO.pass rfl (by kernel_rfl) rfl ?_
                    refine WO.pass rfl (by kernel_rfl) rfl ?_
                    refine WO.pass rfl (by kernel_rfl) rfl ?_
                    refine WO.pass rfl (by kernel_rfl) rfl ?_
                    refine WO.pass rfl (by kernel_rfl) rfl ?_
                    refine WO.vals [(16, 49, (.bool false))] (by kernel_rfl) (fun _ => by kernel_rfl) ?_
                    have he := Option.some.inj hr3
                    subst j46
                    refine WO.weaken (fr' := [(0, (.slice a_p0 p0.length c_p0)), (1, (.string p1)), (2, (.string p2)), (7, (.pointer (some ⟨b24, 0, none⟩))), (8, (.bool r23)), (37, (.bool false)), (49, (.bool false))]) (WO.meet ⟨I32, rfl, Mem.Le.refl _, hS40⟩) (Sub.cons rfl (Sub.cons rfl (Sub.cons rfl (Sub.cons rfl (Sub.cons rfl (Sub.cons rfl (Sub.cons rfl Sub.nil)))))))
                case restj46 =>
                  rintro _ w79 ⟨I48, rfl, hl49, hS80⟩
                  refine WO.vals [(17, 50, (.bool j46))] (by kernel_rfl) (fun _ => by kernel_rfl) ?_
                  have he := Option.some.inj hr2
                  subst j42
                  refine WO.weaken (fr' := [(0, (.slice a_p0 p0.length c_p0)), (1, (.string p1)), (2, (.string p2)), (7, (.pointer (some ⟨b24, 0, none⟩))), (8, (.bool r23)), (50, (.bool j46))]) (WO.meet ⟨I48, rfl, hl49, hS80⟩) (Sub.cons rfl (Sub.cons rfl (Sub.cons rfl (Sub.cons rfl (Sub.cons rfl (Sub.cons rfl Sub.nil))))))
            case restj42 =>
              rintro _ w81 ⟨I44, rfl, hl45, hS82⟩
              refine WO.tail rfl ?_
              refine WO.vals [(18, 51, (.bool j42))] (by kernel_rfl) (fun _ => by kernel_rfl) ?_
              refine WO.join (l1 := [19, 20, 21, 22, 23, 24, 25, 26, 27, 28, 29, 30, 31, 32]) (l2 := []) (J := fun frx wx => frx = [(65, (.bool (j42 || ((!r23) && ((!sEq r22.Name (⟨#[]⟩ : ByteArray)) || (decide ((r22.In.length : Int) > 0))))))), (0, (.slice a_p0 p0.length c_p0)), (1, (.string p1)), (2, (.string p2))] ∧ w81 = wx) ?restm89 ?waysm89
              case waysm89 =>
                refine WO.caseb j42 (fun hc => ?_) (fun hc => ?_)
                · skip
                  refine WO.reslot 51 rfl (show Value.bool j42 = Value.bool true by rw [hc]) ?_
                  refine WO.pass rfl (by kernel_rfl) rfl ?_
                  refine WO.pass rfl (by kernel_rfl) rfl ?_
                  refine WO.pass rfl (by kernel_rfl) rfl ?_
                  refine WO.pass rfl (by kernel_rfl) rfl ?_
                  refine WO.pass rfl (by kernel_rfl) rfl ?_
                  refine WO.pass rfl (by kernel_rfl) rfl ?_
                  refine WO.pass rfl (by kernel_rfl) rfl ?_
                  refine WO.pass rfl (by kernel_rfl) rfl ?_
                  refine WO.pass rfl (by kernel_rfl) rfl ?_
                  refine WO.pass rfl (by kernel_rfl) rfl ?_
                  refine WO.pass rfl (by kernel_rfl) rfl ?_
                  refine WO.pass rfl (by kernel_rfl) rfl ?_
                  refine WO.pass rfl (by kernel_rfl) rfl ?_
                  refine WO.vals [(32, 65, (.bool true))] (by kernel_rfl) (fun _ => by kernel_rfl) ?_
                  refine WO.weaken (fr' := [(65, (.bool (j42 || ((!r23) && ((!sEq r22.Name (⟨#[]⟩ : ByteArray)) || (decide ((r22.In.length : Int) > 0))))))), (0, (.slice a_p0 p0.length c_p0)), (1, (.string p1)), (2, (.string p2))]) (WO.meet ⟨rfl, rfl⟩) (Sub.cons (by rw [hc]; rfl) (Sub.cons rfl (Sub.cons rfl (Sub.cons rfl Sub.nil))))
                · skip
                  refine WO.reslot 51 rfl (show Value.bool j42 = Value.bool false by rw [hc]) ?_
                  refine WO.vals [(19, 52, (.bool r23)), (20, 53, (.bool (!r23))), (21, 54, (.bool (!r23)))] (by kernel_rfl) (fun _ => by kernel_rfl) ?_
                  refine WO.join (l1 := [22, 23, 24, 25, 26, 27, 28, 29, 30, 31]) (l2 := [32]) (J := fun frx wx => frx = [(64, (.bool ((!r23) && ((!sEq r22.Name (⟨#[]⟩ : ByteArray)) || (decide ((r22.In.length : Int) > 0)))))), (0, (.slice a_p0 p0.length c_p0)), (1, (.string p1)), (2, (.string p2)), (51, (.bool false))] ∧ w81 = wx) ?restm93 ?waysm93
                  case waysm93 =>
                    refine WO.caseb (!r23) (fun hc => ?_) (fun hc => ?_)
                    · skip
                      refine WO.reslot 54 rfl (show Value.bool (!r23) = Value.bool true by rw [hc]) ?_
                      refine WO.vals [(22, 55, (.pointer (some ⟨b24, 0, none⟩)))] (by kernel_rfl) (fun _ => by kernel_rfl) ?_
                      refine WO.load rfl (by kernel_rfl) (by kernel_rfl) rfl (v := (.string r22.Name)) (fun w' hw' => cell_one ((rd_f (hS82.rd (List.Mem.head _))) w' hw') (by kernel_rfl)) ?_
                      refine WO.vals [(24, 57, (.bool (!sEq r22.Name (⟨#[]⟩ : ByteArray)))), (25, 58, (.bool (!sEq r22.Name (⟨#[]⟩ : ByteArray))))] (by kernel_rfl) (fun _ => by kernel_rfl) ?_
                      refine WO.join (l1 := [26, 27, 28, 29, 30]) (l2 := [31]) (J := fun frx wx => frx = [(63, (.bool ((!sEq r22.Name (⟨#[]⟩ : ByteArray)) || (decide ((r22.In.length : Int) > 0))))), (0, (.slice a_p0 p0.length c_p0)), (1, (.string p1)), (2, (.string p2)), (51, (.bool false)), (54, (.bool true))] ∧ w81 = wx) ?restm95 ?waysm95
                      case waysm95 =>
                        refine WO.caseb (!sEq r22.Name (⟨#[]⟩ : ByteArray)) (fun hc => ?_) (fun hc => ?_)
                        · skip
                          refine WO.reslot 58 rfl (show Value.bool (!sEq r22.Name (⟨#[]⟩ : ByteArray)) = Value.bool true by rw [hc]) ?_
                          refine WO.pass rfl (by kernel_rfl) rfl ?_
                          refine WO.pass rfl (by kernel_rfl) rfl ?_
                          refine WO.pass rfl (by kernel_rfl) rfl ?_
                          refine WO.pass rfl (by kernel_rfl) rfl ?_
                          refine WO.vals [(30, 63, (.bool true))] (by kernel_rfl) (fun _ => by kernel_rfl) ?_
                          refine WO.weaken (fr' := [(63, (.bool ((!sEq r22.Name (⟨#[]⟩ : ByteArray)) || (decide ((r22.In.length : Int) > 0))))), (0, (.slice a_p0 p0.length c_p0)), (1, (.string p1)), (2, (.string p2)), (51, (.bool false)), (54, (.bool true))]) (WO.meet ⟨rfl, rfl⟩) (Sub.cons (by rw [hc]; rfl) (Sub.cons rfl (Sub.cons rfl (Sub.cons rfl (Sub.cons rfl (Sub.cons rfl Sub.nil))))))
                        · skip
                          refine WO.reslot 58 rfl (show Value.bool (!sEq r22.Name (⟨#[]⟩ : ByteArray)) = Value.bool false by rw [hc]) ?_
                          refine WO.vals [(26, 59, (.pointer (some ⟨b24, 1, none⟩)))] (by kernel_rfl) (fun _ => by kernel_rfl) ?_
                          refine WO.load rfl (by kernel_rfl) (by kernel_rfl) rfl (v := (.slice w_r22.In.a r22.In.length w_r22.In.c)) (fun w' hw' => cell_one ((rd_f (hS82.rd (List.Mem.head _))) w' hw') (by kernel_rfl)) ?_
                          refine WO.vals [(28, 61, (.int .i64 (r22.In.length : Int))), (29, 62, (.bool (decide ((r22.In.length : Int) > 0)))), (30, 63, (.bool (decide ((r22.In.length : Int) > 0))))] (by kernel_rfl) (fun _ => by kernel_rfl) ?_
                          refine WO.weaken (fr' := [(63, (.bool ((!sEq r22.Name (⟨#[]⟩ : ByteArray)) || (decide ((r22.In.length : Int) > 0))))), (0, (.slice a_p0 p0.length c_p0)), (1, (.string p1)), (2, (.string p2)), (51, (.bool false)), (54, (.bool true))]) (WO.meet ⟨rfl, rfl⟩) (Sub.cons (by rw [hc]; rfl) (Sub.cons rfl (Sub.cons rfl (Sub.cons rfl (Sub.cons rfl (Sub.cons rfl Sub.nil))))))
                      case restm95 =>
                        rintro _ _ ⟨rfl, rfl⟩
                        refine WO.vals [(31, 64, (.bool ((!sEq r22.Name (⟨#[]⟩ : ByteArray)) || (decide ((r22.In.length : Int) > 0)))))] (by kernel_rfl) (fun _ => by kernel_rfl) ?_
                        refine WO.weaken (fr' := [(64, (.bool ((!r23) && ((!sEq r22.Name (⟨#[]⟩ : ByteArray)) || (decide ((r22.In.length : Int) > 0)))))), (0, (.slice a_p0 p0.length c_p0)), (1, (.string p1)), (2, (.string p2)), (51, (.bool false))]) (WO.meet ⟨rfl, rfl⟩) (Sub.cons (by rw [hc]; rfl) (Sub.cons rfl (Sub.cons rfl (Sub.cons rfl (Sub.cons rfl Sub.nil)))))
                    · skip
                      refine WO.reslot 54 rfl (show Value.bool (!r23) = Value.bool false by rw [hc]) ?_
                      refine WO.pass rfl (by kernel_rfl) rfl ?_
                      refine WO.pass rfl (by kernel_rfl) rfl ?_
                      refine WO.pass rfl (by kernel_rfl) rfl ?_
                      refine WO.pass rfl (by kernel_rfl) rfl ?_
                      refine WO.pass rfl (by kernel_rfl) rfl ?_
                      refine WO.pass rfl (by kernel_rfl) rfl ?_
                      refine WO.pass rfl (by kernel_rfl) rfl ?_
                      refine WO.pass rfl (by kernel_rfl) rfl ?_
                      refine WO.pass rfl (by kernel_rfl) rfl ?_
                      refine WO.vals [(31, 64, (.bool false))] (by kernel_rfl) (fun _ => by kernel_rfl) ?_
                      refine WO.weaken (fr' := [(64, (.bool ((!r23) && ((!sEq r22.Name (⟨#[]⟩ : ByteArray)) || (decide ((r22.In.length : Int) > 0)))))), (0, (.slice a_p0 p0.length c_p0)), (1, (.string p1)), (2, (.string p2)), (51, (.bool false))]) (WO.meet ⟨rfl, rfl⟩) (Sub.cons (by rw [hc]; rfl) (Sub.cons rfl (Sub.cons rfl (Sub.cons rfl (Sub.cons rfl Sub.nil)))))
                  case restm93 =>
                    rintro _ _ ⟨rfl, rfl⟩
                    refine WO.vals [(32, 65, (.bool ((!r23) && ((!sEq r22.Name (⟨#[]⟩ : ByteArray)) || (decide ((r22.In.length : Int) > 0))))))] (by kernel_rfl) (fun _ => by kernel_rfl) ?_
                    refine WO.weaken (fr' := [(65, (.bool (j42 || ((!r23) && ((!sEq r22.Name (⟨#[]⟩ : ByteArray)) || (decide ((r22.In.length : Int) > 0))))))), (0, (.slice a_p0 p0.length c_p0)), (1, (.string p1)), (2, (.string p2))]) (WO.meet ⟨rfl, rfl⟩) (Sub.cons (by rw [hc]; rfl) (Sub.cons rfl (Sub.cons rfl (Sub.cons rfl Sub.nil))))
              case restm89 =>
                rintro _ _ ⟨rfl, rfl⟩
                refine WO.nil ?_
                have hS97 := hS82.drop
                have he := Option.some.inj hr1
                subst j36
                refine En.weaken (fr' := [(0, (.slice a_p0 p0.length c_p0)), (1, (.string p1)), (2, (.string p2)), (65, (.bool (j42 || ((!r23) && ((!sEq r22.Name (⟨#[]⟩ : ByteArray)) || (decide ((r22.In.length : Int) > 0)))))))]) (En.round ⟨I44, rfl, hl45, hS97⟩) (Sub.cons rfl (Sub.cons rfl (Sub.cons rfl (Sub.cons rfl Sub.nil))))
          · skip
            show WO _ _ _ _ _ _ _ [0, 1, 2, 3, 4, 5, 6, 7, 9, 10, 11, 12, 8, 13, 14, 15, 16, 17, 18, 19, 20, 21, 22, 23, 24, 25, 26, 27, 28, 29, 30, 31, 32] _ _
            refine WO.vals [(0, 33, (.bool r23)), (1, 34, (.int .i64 r35)), (2, 35, (.bool (decide (r35 ≥ 0)))), (3, 36, (.bool (!(r23 == (decide (r35 ≥ 0)))))), (4, 37, (.bool (!(r23 == (decide (r35 ≥ 0))))))] (by kernel_rfl) (fun _ => by kernel_rfl) ?_
            obtain ⟨j98, hr2, hr1⟩ := bind_some hr1
            refine WO.join (l1 := [5, 6, 7, 9, 10, 11, 12, 8, 13, 14, 15, 16, 17]) (l2 := [18, 19, 20, 21, 22, 23, 24, 25, 26, 27, 28, 29, 30, 31, 32]) (J := (fun fr w => ∃ (I100 : Mem), fr = [(0, (.slice a_p0 p0.length c_p0)), (1, (.string p1)), (2, (.string p2)), (7, (.pointer (some ⟨b24, 0, none⟩))), (8, (.bool r23)), (50, (.bool j98))] ∧ I32.Le I100 ∧ St E w I100 ((Gv.one b24 (.cells (cs_api_Role r22 w_r22).toArray 27 (0, 0))) :: Os))) ?restj98 ?waysj98
            case waysj98 =>
              refine WO.caseb (!(r23 == (decide (r35 ≥ 0)))) (fun hc => ?_) (fun hc => ?_)
              · replace hr2 := cond_t hc hr2
                refine WO.reslot 37 rfl (show Value.bool (!(r23 == (decide (r35 ≥ 0)))) = Value.bool true by rw [hc]) ?_
                refine WO.pass rfl (by kernel_rfl) rfl ?_
                refine WO.pass rfl (by kernel_rfl) rfl ?_
                refine WO.pass rfl (by kernel_rfl) rfl ?_
                refine WO.pass rfl (by kernel_rfl) rfl ?_
                refine WO.pass rfl (by kernel_rfl) rfl ?_
                refine WO.pass rfl (by kernel_rfl) rfl ?_
                refine WO.pass rfl (by kernel_rfl) rfl ?_
                refine WO.pass rfl (by kernel_rfl) rfl ?_
                refine WO.pass rfl (by kernel_rfl) rfl ?_
                refine WO.pass rfl (by kernel_rfl) rfl ?_
                refine WO.pass rfl (by kernel_rfl) rfl ?_
                refine WO.pass rfl (by kernel_rfl) rfl ?_
                refine WO.vals [(17, 50, (.bool true))] (by kernel_rfl) (fun _ => by kernel_rfl) ?_
                have he := Option.some.inj hr2
                subst j98
                refine WO.weaken (fr' := [(0, (.slice a_p0 p0.length c_p0)), (1, (.string p1)), (2, (.string p2)), (7, (.pointer (some ⟨b24, 0, none⟩))), (8, (.bool r23)), (50, (.bool true))]) (WO.meet ⟨I32, rfl, Mem.Le.refl _, hS40⟩) (Sub.cons rfl (Sub.cons rfl (Sub.cons rfl (Sub.cons rfl (Sub.cons rfl (Sub.cons rfl Sub.nil))))))
              · replace hr2 := cond_f hc hr2
                refine WO.reslot 37 rfl (show Value.bool (!(r23 == (decide (r35 ≥ 0)))) = Value.bool false by rw [hc]) ?_
                refine WO.vals [(5, 38, (.bool r23)), (6, 39, (.bool r23))] (by kernel_rfl) (fun _ => by kernel_rfl) ?_
                obtain ⟨j102, hr3, hr2⟩ := bind_some hr2
                refine WO.join (l1 := [7, 9, 10, 11, 12, 8, 13, 14, 15, 16]) (l2 := [17]) (J := (fun fr w => ∃ (I104 : Mem), fr = [(0, (.slice a_p0 p0.length c_p0)), (1, (.string p1)), (2, (.string p2)), (7, (.pointer (some ⟨b24, 0, none⟩))), (8, (.bool r23)), (37, (.bool false)), (49, (.bool j102))] ∧ I32.Le I104 ∧ St E w I104 ((Gv.one b24 (.cells (cs_api_Role r22 w_r22).toArray 27 (0, 0))) :: Os))) ?restj102 ?waysj102
                case waysj102 =>
                  refine WO.caseb r23 (fun hc => ?_) (fun hc => ?_)
                  · replace hr3 := cond_t hc hr3
                    refine WO.reslot 39 rfl (show Value.bool r23 = Value.bool true by rw [hc]) ?_
                    refine WO.loadN rfl (by kernel_rfl) (by kernel_rfl) rfl ((cs_api_Role r22 w_r22)) (by kernel_rfl) (fun w' hw' => cells_one ((rd_c (List.Mem.head _) (hS40.rd (List.Mem.head _))) w' hw') (by kernel_rfl)) ?_
                    refine WO.vals [(9, 42, (.slice a_p0 p0.length c_p0)), (10, 43, (.int .i64 r35))] (by kernel_rfl) (fun _ => by kernel_rfl) ?_
                    obtain ⟨x106, hx_x106, hr3⟩ := bind_some hr3
                    obtain ⟨h0_x106, h1_x106, hx_x106⟩ := idx_some hx_x106
                    obtain ⟨ha_x106, cs_x106, hn_x106, hr_x106, hc_x106⟩ := ((RSl.mono h_p0 ((hl4.trans hl20).trans hl33))).el _ _ hx_x106
                    obtain ⟨w_x106, rfl, h_x106⟩ := hr_x106
                    refine WO.indexAddr (e := 27) (sz := 2) rfl (by kernel_rfl) (by kernel_rfl) (by kernel_rfl) rfl ha_x106 rfl h0_x106 h1_x106 ?_
                    refine WO.loadN rfl (by kernel_rfl) (by kernel_rfl) rfl ((cs_api_Role x106 w_x106)) (by kernel_rfl) (fun w' hw' => hc_x106.cells (k := 0) (by kernel_rfl) rfl ((rd_i hS40.im) w' hw')) ?_
                    refine WO.newSlice (rel := R_api_Role) (xs := ([r22] : List api_Role)) hS40 rfl (by kernel_rfl) rfl 27 2 [(cs_api_Role r22 w_r22)] (by kernel_rfl) rfl ((Elr.cons ⟨w_r22, rfl, (h_r22.mono hl33)⟩ Elr.nil)) (fun C108 w112 hS111 => (KR.cons (hS111.rd (List.Mem.tail _ (List.Mem.head _))) (KR.nil hS111.im))) ?_
                    intro a110 C108 w112 hS111 ho109
                    refine WO.newSlice (rel := R_api_Role) (xs := ([x106] : List api_Role)) hS111 rfl (by kernel_rfl) rfl 27 2 [(cs_api_Role x106 w_x106)] (by kernel_rfl) rfl ((Elr.cons ⟨w_x106, rfl, h_x106⟩ Elr.nil)) (fun C115 w119 hS118 => (KR.cons (hS118.rd (List.Mem.tail _ (List.Mem.tail _ (List.Mem.head _)))) (KR.nil hS118.im))) ?_
                    intro a117 C115 w119 hS118 ho116
                    have hS121 := hS118.front1
                    have hS122 := hS121.publish
                    have hp123 := (ho109).publish hS121
                    have hS124 := hS122.publish
                    have hp125 := ((OwnSl.mono ho116 (Mem.le_with I32 C108))).publish hS122
                    obtain ⟨r131, hx_r126, hr3⟩ := bind_some hr3
                    refine WO.call rfl (by kernel_rfl) rfl (f := 10) (args := #[(.slice a110 1 1), (.slice a117 1 1)]) (by kernel_rfl) (registrarref18_Same_ok (RSl.mono hp123 (Mem.le_with (I32.with C108) C115)) hp125 hS124 hx_r126) ?_
                    rintro _ w127 ⟨I128, rfl, hl129, hS130⟩
                    have hS132 := St.back hS122 hl129 hS130
                    have hS133 := St.back hS121 (Mem.Le.refl _) hS132
                    refine ⟨_, rfl, (KR.cons (hS133.rd (List.Mem.tail _ (List.Mem.tail _ (List.Mem.head _)))) (KR.nil hS133.im)), ?_⟩
                    refine WO.vals [(15, 48, (.bool (!r131))), (16, 49, (.bool (!r131)))] (by kernel_rfl) (fun _ => by kernel_rfl) ?_
                    have hS134 := hS133.drop
                    have hS135 := hS134.drop
                    have he := Option.some.inj hr3
                    subst j102
                    refine WO.weaken (fr' := [(0, (.slice a_p0 p0.length c_p0)), (1, (.string p1)), (2, (.string p2)), (7, (.pointer (some ⟨b24, 0, none⟩))), (8, (.bool r23)), (37, (.bool false)), (49, (.bool (!r131)))]) (WO.meet ⟨I32, rfl, Mem.Le.refl _, hS135⟩) (Sub.cons rfl (Sub.cons rfl (Sub.cons rfl (Sub.cons rfl (Sub.cons rfl (Sub.cons rfl (Sub.cons rfl Sub.nil)))))))
                  · replace hr3 := cond_f hc hr3
                    refine WO.reslot 39 rfl (show Value.bool r23 = Value.bool false by rw [hc]) ?_
                    refine WO.pass rfl (by kernel_rfl) rfl ?_
                    refine WO.pass rfl (by kernel_rfl) rfl ?_
                    refine WO.pass rfl (by kernel_rfl) rfl ?_
                    refine WO.pass rfl (by kernel_rfl) rfl ?_
                    refine WO.pass rfl (by kernel_rfl) rfl ?_
                    refine WO.pass rfl (by kernel_rfl) rfl ?_
                    refine WO.pass rfl (by kernel_rfl) rfl ?_
                    refine WO.pass rfl (by kernel_rfl) rfl ?_
                    refine WO.pass rfl (by kernel_rfl) rfl ?_
                    refine WO.vals [(16, 49, (.bool false))] (by kernel_rfl) (fun _ => by kernel_rfl) ?_
                    have he := Option.some.inj hr3
                    subst j102
                    refine WO.weaken (fr' := [(0, (.slice a_p0 p0.length c_p0)), (1, (.string p1)), (2, (.string p2)), (7, (.pointer (some ⟨b24, 0, none⟩))), (8, (.bool r23)), (37, (.bool false)), (49, (.bool false))]) (WO.meet ⟨I32, rfl, Mem.Le.refl _, hS40⟩) (Sub.cons rfl (Sub.cons rfl (Sub.cons rfl (Sub.cons rfl (Sub.cons rfl (Sub.cons rfl (Sub.cons rfl Sub.nil)))))))
                case restj102 =>
                  rintro _ w136 ⟨I104, rfl, hl105, hS137⟩
                  refine WO.vals [(17, 50, (.bool j102))] (by kernel_rfl) (fun _ => by kernel_rfl) ?_
                  have he := Option.some.inj hr2
                  subst j98
                  refine WO.weaken (fr' := [(0, (.slice a_p0 p0.length c_p0)), (1, (.string p1)), (2, (.string p2)), (7, (.pointer (some ⟨b24, 0, none⟩))), (8, (.bool r23)), (50, (.bool j102))]) (WO.meet ⟨I104, rfl, hl105, hS137⟩) (Sub.cons rfl (Sub.cons rfl (Sub.cons rfl (Sub.cons rfl (Sub.cons rfl (Sub.cons rfl Sub.nil))))))
            case restj98 =>
              rintro _ w138 ⟨I100, rfl, hl101, hS139⟩
              refine WO.tail rfl ?_
              refine WO.vals [(18, 51, (.bool j98))] (by kernel_rfl) (fun _ => by kernel_rfl) ?_
              refine WO.join (l1 := [19, 20, 21, 22, 23, 24, 25, 26, 27, 28, 29, 30, 31, 32]) (l2 := []) (J := fun frx wx => frx = [(65, (.bool (j98 || ((!r23) && ((!sEq r22.Name (⟨#[]⟩ : ByteArray)) || (decide ((r22.In.length : Int) > 0))))))), (0, (.slice a_p0 p0.length c_p0)), (1, (.string p1)), (2, (.string p2))] ∧ w138 = wx) ?restm146 ?waysm146
              case waysm146 =>
                refine WO.caseb j98 (fun hc => ?_) (fun hc => ?_)
                · skip
                  refine WO.reslot 51 rfl (show Value.bool j98 = Value.bool true by rw [hc]) ?_
                  refine WO.pass rfl (by kernel_rfl) rfl ?_
                  refine WO.pass rfl (by kernel_rfl) rfl ?_
                  refine WO.pass rfl (by kernel_rfl) rfl ?_
                  refine WO.pass rfl (by kernel_rfl) rfl ?_
                  refine WO.pass rfl (by kernel_rfl) rfl ?_
                  refine WO.pass rfl (by kernel_rfl) rfl ?_
                  refine WO.pass rfl (by kernel_rfl) rfl ?_
                  refine WO.pass rfl (by kernel_rfl) rfl ?_
                  refine WO.pass rfl (by kernel_rfl) rfl ?_
                  refine WO.pass rfl (by kernel_rfl) rfl ?_
                  refine WO.pass rfl (by kernel_rfl) rfl ?_
                  refine WO.pass rfl (by kernel_rfl) rfl ?_
                  refine WO.pass rfl (by kernel_rfl) rfl ?_
                  refine WO.vals [(32, 65, (.bool true))] (by kernel_rfl) (fun _ => by kernel_rfl) ?_
                  refine WO.weaken (fr' := [(65, (.bool (j98 || ((!r23) && ((!sEq r22.Name (⟨#[]⟩ : ByteArray)) || (decide ((r22.In.length : Int) > 0))))))), (0, (.slice a_p0 p0.length c_p0)), (1, (.string p1)), (2, (.string p2))]) (WO.meet ⟨rfl, rfl⟩) (Sub.cons (by rw [hc]; rfl) (Sub.cons rfl (Sub.cons rfl (Sub.cons rfl Sub.nil))))
                · skip
                  refine WO.reslot 51 rfl (show Value.bool j98 = Value.bool false by rw [hc]) ?_
                  refine WO.vals [(19, 52, (.bool r23)), (20, 53, (.bool (!r23))), (21, 54, (.bool (!r23)))] (by kernel_rfl) (fun _ => by kernel_rfl) ?_
                  refine WO.join (l1 := [22, 23, 24, 25, 26, 27, 28, 29, 30, 31]) (l2 := [32]) (J := fun frx wx => frx = [(64, (.bool ((!r23) && ((!sEq r22.Name (⟨#[]⟩ : ByteArray)) || (decide ((r22.In.length : Int) > 0)))))), (0, (.slice a_p0 p0.length c_p0)), (1, (.string p1)), (2, (.string p2)), (51, (.bool false))] ∧ w138 = wx) ?restm150 ?waysm150
                  case waysm150 =>
                    refine WO.caseb (!r23) (fun hc => ?_) (fun hc => ?_)
                    · skip
                      refine WO.reslot 54 rfl (show Value.bool (!r23) = Value.bool true by rw [hc]) ?_
                      refine WO.vals [(22, 55, (.pointer (some ⟨b24, 0, none⟩)))] (by kernel_rfl) (fun _ => by kernel_rfl) ?_
                      refine WO.load rfl (by kernel_rfl) (by kernel_rfl) rfl (v := (.string r22.Name)) (fun w' hw' => cell_one ((rd_f (hS139.rd (List.Mem.head _))) w' hw') (by kernel_rfl)) ?_
                      refine WO.vals [(24, 57, (.bool (!sEq r22.Name (⟨#[]⟩ : ByteArray)))), (25, 58, (.bool (!sEq r22.Name (⟨#[]⟩ : ByteArray))))] (by kernel_rfl) (fun _ => by kernel_rfl) ?_
                      refine WO.join (l1 := [26, 27, 28, 29, 30]) (l2 := [31]) (J := fun frx wx => frx = [(63, (.bool ((!sEq r22.Name (⟨#[]⟩ : ByteArray)) || (decide ((r22.In.length : Int) > 0))))), (0, (.slice a_p0 p0.length c_p0)), (1, (.string p1)), (2, (.string p2)), (51, (.bool false)), (54, (.bool true))] ∧ w138 = wx) ?restm152 ?waysm152
                      case waysm152 =>
                        refine WO.caseb (!sEq r22.Name (⟨#[]⟩ : ByteArray)) (fun hc => ?_) (fun hc => ?_)
                        · skip
                          refine WO.reslot 58 rfl (show Value.bool (!sEq r22.Name (⟨#[]⟩ : ByteArray)) = Value.bool true by rw [hc]) ?_
                          refine WO.pass rfl (by kernel_rfl) rfl ?_
                          refine WO.pass rfl (by kernel_rfl) rfl ?_
                          refine WO.pass rfl (by kernel_rfl) rfl ?_
                          refine WO.pass rfl (by kernel_rfl) rfl ?_
                          refine WO.vals [(30, 63, (.bool true))] (by kernel_rfl) (fun _ => by kernel_rfl) ?_
                          refine WO.weaken (fr' := [(63, (.bool ((!sEq r22.Name (⟨#[]⟩ : ByteArray)) || (decide ((r22.In.length : Int) > 0))))), (0, (.slice a_p0 p0.length c_p0)), (1, (.string p1)), (2, (.string p2)), (51, (.bool false)), (54, (.bool true))]) (WO.meet ⟨rfl, rfl⟩) (Sub.cons (by rw [hc]; rfl) (Sub.cons rfl (Sub.cons rfl (Sub.cons rfl (Sub.cons rfl (Sub.cons rfl Sub.nil))))))
                        · skip
                          refine WO.reslot 58 rfl (show Value.bool (!sEq r22.Name (⟨#[]⟩ : ByteArray)) = Value.bool false by rw [hc]) ?_
                          refine WO.vals [(26, 59, (.pointer (some ⟨b24, 1, none⟩)))] (by kernel_rfl) (fun _ => by kernel_rfl) ?_
                          refine WO.load rfl (by kernel_rfl) (by kernel_rfl) rfl (v := (.slice w_r22.In.a r22.In.length w_r22.In.c)) (fun w' hw' => cell_one ((rd_f (hS139.rd (List.Mem.head _))) w' hw') (by kernel_rfl)) ?_
                          refine WO.vals [(28, 61, (.int .i64 (r22.In.length : Int))), (29, 62, (.bool (decide ((r22.In.length : Int) > 0)))), (30, 63, (.bool (decide ((r22.In.length : Int) > 0))))] (by kernel_rfl) (fun _ => by kernel_rfl) ?_
                          refine WO.weaken (fr' := [(63, (.bool ((!sEq r22.Name (⟨#[]⟩ : ByteArray)) || (decide ((r22.In.length : Int) > 0))))), (0, (.slice a_p0 p0.length c_p0)), (1, (.string p1)), (2, (.string p2)), (51, (.bool false)), (54, (.bool true))]) (WO.meet ⟨rfl, rfl⟩) (Sub.cons (by rw [hc]; rfl) (Sub.cons rfl (Sub.cons rfl (Sub.cons rfl (Sub.cons rfl (Sub.cons rfl Sub.nil))))))
                      case restm152 =>
                        rintro _ _ ⟨rfl, rfl⟩
                        refine WO.vals [(31, 64, (.bool ((!sEq r22.Name (⟨#[]⟩ : ByteArray)) || (decide ((r22.In.length : Int) > 0)))))] (by kernel_rfl) (fun _ => by kernel_rfl) ?_
                        refine WO.weaken (fr' := [(64, (.bool ((!r23) && ((!sEq r22.Name (⟨#[]⟩ : ByteArray)) || (decide ((r22.In.length : Int) > 0)))))), (0, (.slice a_p0 p0.length c_p0)), (1, (.string p1)), (2, (.string p2)), (51, (.bool false))]) (WO.meet ⟨rfl, rfl⟩) (Sub.cons (by rw [hc]; rfl) (Sub.cons rfl (Sub.cons rfl (Sub.cons rfl (Sub.cons rfl Sub.nil)))))
                    · skip
                      refine WO.reslot 54 rfl (show Value.bool (!r23) = Value.bool false by rw [hc]) ?_
                      refine WO.pass rfl (by kernel_rfl) rfl ?_
                      refine WO.pass rfl (by kernel_rfl) rfl ?_
                      refine WO.pass rfl (by kernel_rfl) rfl ?_
                      refine WO.pass rfl (by kernel_rfl) rfl ?_
                      refine WO.pass rfl (by kernel_rfl) rfl ?_
                      refine WO.pass rfl (by kernel_rfl) rfl ?_
                      refine WO.pass rfl (by kernel_rfl) rfl ?_
                      refine WO.pass rfl (by kernel_rfl) rfl ?_
                      refine WO.pass rfl (by kernel_rfl) rfl ?_
                      refine WO.vals [(31, 64, (.bool false))] (by kernel_rfl) (fun _ => by kernel_rfl) ?_
                      refine WO.weaken (fr' := [(64, (.bool ((!r23) && ((!sEq r22.Name (⟨#[]⟩ : ByteArray)) || (decide ((r22.In.length : Int) > 0)))))), (0, (.slice a_p0 p0.length c_p0)), (1, (.string p1)), (2, (.string p2)), (51, (.bool false))]) (WO.meet ⟨rfl, rfl⟩) (Sub.cons (by rw [hc]; rfl) (Sub.cons rfl (Sub.cons rfl (Sub.cons rfl (Sub.cons rfl Sub.nil)))))
                  case restm150 =>
                    rintro _ _ ⟨rfl, rfl⟩
                    refine WO.vals [(32, 65, (.bool ((!r23) && ((!sEq r22.Name (⟨#[]⟩ : ByteArray)) || (decide ((r22.In.length : Int) > 0))))))] (by kernel_rfl) (fun _ => by kernel_rfl) ?_
                    refine WO.weaken (fr' := [(65, (.bool (j98 || ((!r23) && ((!sEq r22.Name (⟨#[]⟩ : ByteArray)) || (decide ((r22.In.length : Int) > 0))))))), (0, (.slice a_p0 p0.length c_p0)), (1, (.string p1)), (2, (.string p2))]) (WO.meet ⟨rfl, rfl⟩) (Sub.cons (by rw [hc]; rfl) (Sub.cons rfl (Sub.cons rfl (Sub.cons rfl Sub.nil))))
              case restm146 =>
                rintro _ _ ⟨rfl, rfl⟩
                refine WO.nil ?_
                have hS154 := hS139.drop
                have he := Option.some.inj hr1
                subst j36
                refine En.weaken (fr' := [(0, (.slice a_p0 p0.length c_p0)), (1, (.string p1)), (2, (.string p2)), (65, (.bool (j98 || ((!r23) && ((!sEq r22.Name (⟨#[]⟩ : ByteArray)) || (decide ((r22.In.length : Int) > 0)))))))]) (En.round ⟨I100, rfl, hl101, hS154⟩) (Sub.cons rfl (Sub.cons rfl (Sub.cons rfl (Sub.cons rfl Sub.nil))))
        case restj36 =>
          rintro _ w155 ⟨I38, rfl, hl39, hS156⟩
          refine En.next ?_
          refine W.cond (b := j36) rfl rfl (fun hc => ?_) (fun hc => ?_)
          · replace hr := cond_t hc hr
            refine W.seq ?_
            refine W.region (l := [0]) (by kernel_rfl) ?_
            refine WO.vals [(0, 6, (.bool false))] (by kernel_rfl) (fun _ => by kernel_rfl) ?_
            refine WO.nil ?_
            refine En.next ?_
            refine W.ret ?_
            refine En.nx_ret ?_
            have he := Option.some.inj hr
            subst r
            exact En.ret1 rfl (.bool false) rfl ⟨I38, rfl, (((hl4.trans hl20).trans hl33).trans hl39), hS156⟩
          · replace hr := cond_f hc hr
            refine W.skip ?_
            refine En.next ?_
            refine W.seq ?_
            refine W.region (l := [0, 1, 2, 3, 4, 5, 6, 7, 8, 9, 10, 11, 12, 13, 14, 15, 16, 17, 18, 19, 20, 21]) (by kernel_rfl) ?_
            refine WO.vals [(0, 66, (.slice a_p0 p0.length c_p0)), (1, 67, (.string p1))] (by kernel_rfl) (fun _ => by kernel_rfl) ?_
            obtain ⟨r162, hx_r157, hr⟩ := bind_some hr
            refine WO.call rfl (by kernel_rfl) rfl (f := 12) (args := #[(.slice a_p0 p0.length c_p0), (.string p1)]) (by kernel_rfl) (member_All_ok (RSl.mono h_p0 (((hl4.trans hl20).trans hl33).trans hl39)) hS156 hx_r157) ?_
            rintro _ w158 ⟨I159, a_r162, c_r162, rfl, hl160, hS161, h_r162⟩
            refine ⟨_, rfl, trivial, ?_⟩
            refine WO.vals [(3, 69, (.slice a_p0 p0.length c_p0)), (4, 70, (.string p1))] (by kernel_rfl) (fun _ => by kernel_rfl) ?_
            obtain ⟨r168, hx_r163, hr⟩ := bind_some hr
            refine WO.call rfl (by kernel_rfl) rfl (f := 13) (args := #[(.slice a_p0 p0.length c_p0), (.string p1)]) (by kernel_rfl) (registrarref18_All_ok (RSl.mono h_p0 ((((hl4.trans hl20).trans hl33).trans hl39).trans hl160)) hS161 hx_r163) ?_
            rintro _ w164 ⟨I165, a_r168, c_r168, rfl, hl166, hS167, h_r168⟩
            refine ⟨_, rfl, trivial, ?_⟩
            obtain ⟨r174, hx_r169, hr⟩ := bind_some hr
            refine WO.call rfl (by kernel_rfl) rfl (f := 11) (args := #[(.slice a_r162 r162.length c_r162), (.slice a_r168 r168.length c_r168)]) (by kernel_rfl) (registrarref12_SameTexts_ok (RSl.mono h_r162 hl166) h_r168 hS167 hx_r169) ?_
            rintro _ w170 ⟨I171, rfl, hl172, hS173⟩
            refine ⟨_, rfl, trivial, ?_⟩
            refine WO.vals [(7, 73, (.bool r174))] (by kernel_rfl) (fun _ => by kernel_rfl) ?_
            obtain ⟨j175, hr1, hr⟩ := bind_some hr
            refine WO.join (l1 := [8, 9, 10, 11, 12, 13, 14, 15, 16, 17]) (l2 := [18, 19, 20, 21]) (J := (fun fr w => ∃ (I177 : Mem), fr = [(83, (.bool j175))] ∧ I171.Le I177 ∧ St E w I177 Os)) ?restj175 ?waysj175
            case waysj175 =>
              refine WO.caseb r174 (fun hc => ?_) (fun hc => ?_)
              · replace hr1 := cond_t hc hr1
                refine WO.reslot 73 rfl (show Value.bool r174 = Value.bool true by rw [hc]) ?_
                refine WO.vals [(8, 74, (.slice a_p0 p0.length c_p0)), (9, 75, (.string p1)), (10, 76, (.string p2))] (by kernel_rfl) (fun _ => by kernel_rfl) ?_
                obtain ⟨r184, hx_r179, hr1⟩ := bind_some hr1
                refine WO.call rfl (by kernel_rfl) rfl (f := 14) (args := #[(.slice a_p0 p0.length c_p0), (.string p1), (.string p2)]) (by kernel_rfl) (member_Is_ok (RSl.mono h_p0 ((((((hl4.trans hl20).trans hl33).trans hl39).trans hl160).trans hl166).trans hl172)) hS173 hx_r179) ?_
                rintro _ w180 ⟨I181, rfl, hl182, hS183⟩
                refine ⟨_, rfl, trivial, ?_⟩
                refine WO.vals [(12, 78, (.slice a_p0 p0.length c_p0)), (13, 79, (.string p1)), (14, 80, (.string p2))] (by kernel_rfl) (fun _ => by kernel_rfl) ?_
                obtain ⟨r190, hx_r185, hr1⟩ := bind_some hr1
                refine WO.call rfl (by kernel_rfl) rfl (f := 15) (args := #[(.slice a_p0 p0.length c_p0), (.string p1), (.string p2)]) (by kernel_rfl) (registrarref18_Is_ok (RSl.mono h_p0 (((((((hl4.trans hl20).trans hl33).trans hl39).trans hl160).trans hl166).trans hl172).trans hl182)) hS183 hx_r185) ?_
                rintro _ w186 ⟨I187, rfl, hl188, hS189⟩
                refine ⟨_, rfl, trivial, ?_⟩
                refine WO.vals [(16, 82, (.bool (r184 == r190))), (17, 83, (.bool (r184 == r190)))] (by kernel_rfl) (fun _ => by kernel_rfl) ?_
                have he := Option.some.inj hr1
                subst j175
                refine WO.weaken (fr' := [(83, (.bool (r184 == r190)))]) (WO.meet ⟨I187, rfl, (hl182.trans hl188), hS189⟩) (Sub.cons rfl Sub.nil)
              · replace hr1 := cond_f hc hr1
                refine WO.reslot 73 rfl (show Value.bool r174 = Value.bool false by rw [hc]) ?_
                refine WO.pass rfl (by kernel_rfl) rfl ?_
                refine WO.pass rfl (by kernel_rfl) rfl ?_
                refine WO.pass rfl (by kernel_rfl) rfl ?_
                refine WO.pass rfl (by kernel_rfl) rfl ?_
                refine WO.pass rfl (by kernel_rfl) rfl ?_
                refine WO.pass rfl (by kernel_rfl) rfl ?_
                refine WO.pass rfl (by kernel_rfl) rfl ?_
                refine WO.pass rfl (by kernel_rfl) rfl ?_
                refine WO.pass rfl (by kernel_rfl) rfl ?_
                refine WO.vals [(17, 83, (.bool false))] (by kernel_rfl) (fun _ => by kernel_rfl) ?_
                have he := Option.some.inj hr1
                subst j175
                refine WO.weaken (fr' := [(83, (.bool false))]) (WO.meet ⟨I171, rfl, Mem.Le.refl _, hS173⟩) (Sub.cons rfl Sub.nil)
            case restj175 =>
              rintro _ w191 ⟨I177, rfl, hl178, hS192⟩
              refine WO.vals [(18, 84, (.bool j175))] (by kernel_rfl) (fun _ => by kernel_rfl) ?_
              obtain ⟨j193, hr1, hr⟩ := bind_some hr
              refine WO.join (l1 := [19, 20]) (l2 := [21]) (J := (fun fr w => ∃ (I195 : Mem), fr = [(86, (.bool j193))] ∧ I177.Le I195 ∧ St E w I195 Os)) ?restj193 ?waysj193
              case waysj193 =>
                refine WO.caseb j175 (fun hc => ?_) (fun hc => ?_)
                · replace hr1 := cond_t hc hr1
                  refine WO.reslot 84 rfl (show Value.bool j175 = Value.bool true by rw [hc]) ?_
                  obtain ⟨r202, hx_r197, hr1⟩ := bind_some hr1
                  refine WO.call rfl (by kernel_rfl) rfl (f := 7) (args := #[]) (by kernel_rfl) (registrarlaw18_works_ok  hS192 hx_r197) ?_
                  rintro _ w198 ⟨I199, rfl, hl200, hS201⟩
                  refine ⟨_, rfl, trivial, ?_⟩
                  refine WO.vals [(20, 86, (.bool r202))] (by kernel_rfl) (fun _ => by kernel_rfl) ?_
                  have he := Option.some.inj hr1
                  subst j193
                  refine WO.weaken (fr' := [(86, (.bool r202))]) (WO.meet ⟨I199, rfl, hl200, hS201⟩) (Sub.cons rfl Sub.nil)
                · replace hr1 := cond_f hc hr1
                  refine WO.reslot 84 rfl (show Value.bool j175 = Value.bool false by rw [hc]) ?_
                  refine WO.pass rfl (by kernel_rfl) rfl ?_
                  refine WO.vals [(20, 86, (.bool false))] (by kernel_rfl) (fun _ => by kernel_rfl) ?_
                  have he := Option.some.inj hr1
                  subst j193
                  refine WO.weaken (fr' := [(86, (.bool false))]) (WO.meet ⟨I177, rfl, Mem.Le.refl _, hS192⟩) (Sub.cons rfl Sub.nil)
              case restj193 =>
                rintro _ w203 ⟨I195, rfl, hl196, hS204⟩
                refine WO.vals [(21, 6, (.bool j193))] (by kernel_rfl) (fun _ => by kernel_rfl) ?_
                refine WO.nil ?_
                refine En.next ?_
                refine W.ret ?_
                have he := Option.some.inj hr
                subst r
                exact En.ret1 rfl (.bool j193) rfl ⟨I195, rfl, ((((((((hl4.trans hl20).trans hl33).trans hl39).trans hl160).trans hl166).trans hl172).trans hl178).trans hl196), hS204⟩
end Go.Proofs.Ythndadengamanaa
