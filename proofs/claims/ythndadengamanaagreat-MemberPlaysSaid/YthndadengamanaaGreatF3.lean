/- What functions of the program come to, each by a plain one. Conditions: none. -/
import Derived.Test.YthndadengamanaaGreatF2
set_option maxRecDepth 100000
namespace Go.Proofs.YthndadengamanaaGreat
open Go.Gv
noncomputable def registrarref09_all (p0 : ByteArray) (p1 : Int) (p2 : ByteArray) : Option Bool := (loopO (fun (s4 : Int) => (bif (decide (s4 < (p0.size : Int))) then (loopO (fun (s : Bool × Int) => match s with | (s12, s13) => (bif (decide (s13 < (p2.size : Int))) then ((bif s12 then some true else (sAt p2 s13).bind (fun (y24 : Int) => (sAt p0 s4).bind (fun (y25 : Int) => some (y24 == y25))))).bind (fun (j20 : Bool) => some (.inl (j20, (w64 (s13 + 1))))) else some (.inr s12))) (false, 0)).bind (fun (s29 : Bool) => (bif (!s29) then some (.inr (.inl false)) else some (.inl (w64 (s4 + 1))))) else some (.inr (.inr ())))) p1).bind (fun (t : Bool ⊕ Unit) => match t with | (.inl s31) => some s31 | (.inr ()) => some true)
set_option maxHeartbeats 1000000 in
theorem registrarref09_all_ok {E w : World} {I : Mem} {Os : List Mem} {p0 : ByteArray} {p1 : Int} {p2 : ByteArray} (hS : St E w I Os) {r : Bool} (hr : registrarref09_all p0 p1 p2 = some r) :
    Calls P 70 #[(.string p0), (.int .i64 p1), (.string p2)] w (fun e w' => ∃ (I' : Mem), e = .returned (.bool r) ∧ I.Le I' ∧ St E w' I' Os) := by
  refine calls_W (args := [(.string p0), (.int .i64 p1), (.string p2)]) (fn := Tryz.f70) rfl rfl rfl ?_
  unfold registrarref09_all at hr
  refine W.seq ?_
  refine W.region (l := [0]) (by kernel_rfl) ?_
  refine WO.vals [(0, 6, (.bool false))] (by kernel_rfl) (fun _ => by kernel_rfl) ?_
  refine WO.nil ?_
  refine En.next ?_
  refine W.seq ?_
  refine W.seq ?_
  refine W.region (l := [0, 1]) (by kernel_rfl) ?_
  refine WO.vals [(0, 10, (.int .i64 p1)), (1, 7, (.int .i64 p1))] (by kernel_rfl) (fun _ => by kernel_rfl) ?_
  refine WO.nil ?_
  refine En.next ?_
  refine W.block ?_
  obtain ⟨t1, hloop5, hr⟩ := bind_some hr
  refine W.weaken (fr' := [(0, (.string p0)), (2, (.string p2)), (7, (.int .i64 p1))]) (W.loopO hloop5 (fun (s4 : Int) fr w => ∃ (I2 : Mem), fr = [(0, (.string p0)), (2, (.string p2)), (7, (.int .i64 s4))] ∧ I.Le I2 ∧ St E w I2 Os) ⟨I, rfl, Mem.Le.refl _, hS⟩ ?_) (Sub.cons rfl (Sub.cons rfl (Sub.cons rfl Sub.nil)))
  rintro s4 _ w6 ⟨I2, rfl, hl3, hS7⟩ x8 hr1 hext1
  refine W.seq ?_
  refine W.seq ?_
  refine W.region (l := [0, 1, 2, 3]) (by kernel_rfl) ?_
  refine WO.vals [(0, 11, (.int .i64 s4)), (1, 12, (.string p0)), (2, 13, (.int .i64 (p0.size : Int))), (3, 14, (.bool (decide (s4 < (p0.size : Int)))))] (by kernel_rfl) (fun _ => by kernel_rfl) ?_
  refine WO.nil ?_
  refine En.next ?_
  refine W.cond (b := (decide (s4 < (p0.size : Int)))) rfl rfl (fun hc => ?_) (fun hc => ?_)
  · replace hr1 := cond_t hc hr1
    refine W.skip ?_
    refine En.next ?_
    refine W.seq ?_
    refine W.block ?_
    refine W.seq ?_
    refine W.region (l := [0]) (by kernel_rfl) ?_
    refine WO.vals [(0, 8, (.bool false))] (by kernel_rfl) (fun _ => by kernel_rfl) ?_
    refine WO.nil ?_
    refine En.next ?_
    refine W.seq ?_
    refine W.seq ?_
    refine W.region (l := [0]) (by kernel_rfl) ?_
    refine WO.vals [(0, 9, (.int .i64 0))] (by kernel_rfl) (fun _ => by kernel_rfl) ?_
    refine WO.nil ?_
    refine En.next ?_
    refine W.block ?_
    obtain ⟨t9, hloop14, hr1⟩ := bind_some hr1
    refine W.weaken (fr' := [(0, (.string p0)), (2, (.string p2)), (7, (.int .i64 s4)), (8, (.bool false)), (9, (.int .i64 0))]) (W.loopO hloop14 (fun (s : Bool × Int) fr w => match s with | (s12, s13) => ∃ (I10 : Mem), fr = [(0, (.string p0)), (2, (.string p2)), (7, (.int .i64 s4)), (8, (.bool s12)), (9, (.int .i64 s13))] ∧ I2.Le I10 ∧ St E w I10 Os) ⟨I2, rfl, Mem.Le.refl _, hS7⟩ ?_) (Sub.cons rfl (Sub.cons rfl (Sub.cons rfl (Sub.cons rfl (Sub.cons rfl Sub.nil)))))
    rintro ⟨s12, s13⟩ _ w15 ⟨I10, rfl, hl11, hS16⟩ x17 hr2 hext9
    refine W.seq ?_
    refine W.seq ?_
    refine W.region (l := [0, 1, 2, 3]) (by kernel_rfl) ?_
    refine WO.vals [(0, 17, (.int .i64 s13)), (1, 18, (.string p2)), (2, 19, (.int .i64 (p2.size : Int))), (3, 20, (.bool (decide (s13 < (p2.size : Int)))))] (by kernel_rfl) (fun _ => by kernel_rfl) ?_
    refine WO.nil ?_
    refine En.next ?_
    refine W.cond (b := (decide (s13 < (p2.size : Int)))) rfl rfl (fun hc => ?_) (fun hc => ?_)
    · replace hr2 := cond_t hc hr2
      refine W.skip ?_
      refine En.next ?_
      refine W.seq ?_
      refine W.block ?_
      have hS18 := hS16.drew
      refine W.draw (l := [0, 1, 2, 3, 4, 5, 6, 7, 8, 9, 10]) (by kernel_rfl) 10 (KR I10 []) qR (.back (by kernel_rfl)) (by kernel_rfl) (KR.nil hS18.im) ?_
      generalize World.drew _ = w19 at *
      refine WO.vals [(0, 23, (.bool s12)), (1, 24, (.bool s12))] (by kernel_rfl) (fun _ => by kernel_rfl) ?_
      obtain ⟨j20, hr3, hr2⟩ := bind_some hr2
      refine WO.join (l1 := [2, 3, 4, 5, 6, 7, 8, 9]) (l2 := [10]) (J := (fun fr w => ∃ (I22 : Mem), fr = [(0, (.string p0)), (2, (.string p2)), (7, (.int .i64 s4)), (9, (.int .i64 s13)), (32, (.bool j20))] ∧ I10.Le I22 ∧ St E w I22 Os)) ?restj20 ?waysj20
      case waysj20 =>
        refine WO.caseb s12 (fun hc => ?_) (fun hc => ?_)
        · replace hr3 := cond_t hc hr3
          refine WO.reslot 24 rfl (show Value.bool s12 = Value.bool true by rw [hc]) ?_
          refine WO.pass rfl (by kernel_rfl) rfl ?_
          refine WO.pass rfl (by kernel_rfl) rfl ?_
          refine WO.pass rfl (by kernel_rfl) rfl ?_
          refine WO.pass rfl (by kernel_rfl) rfl ?_
          refine WO.pass rfl (by kernel_rfl) rfl ?_
          refine WO.pass rfl (by kernel_rfl) rfl ?_
          refine WO.pass rfl (by kernel_rfl) rfl ?_
          refine WO.vals [(9, 32, (.bool true))] (by kernel_rfl) (fun _ => by kernel_rfl) ?_
          have he := Option.some.inj hr3
          subst j20
          refine WO.weaken (fr' := [(0, (.string p0)), (2, (.string p2)), (7, (.int .i64 s4)), (9, (.int .i64 s13)), (32, (.bool true))]) (WO.meet ⟨I10, rfl, Mem.Le.refl _, hS18⟩) (Sub.cons rfl (Sub.cons rfl (Sub.cons rfl (Sub.cons rfl (Sub.cons rfl Sub.nil)))))
        · replace hr3 := cond_f hc hr3
          refine WO.reslot 24 rfl (show Value.bool s12 = Value.bool false by rw [hc]) ?_
          refine WO.vals [(2, 25, (.string p2)), (3, 26, (.int .i64 s13))] (by kernel_rfl) (fun _ => by kernel_rfl) ?_
          obtain ⟨y24, hx_y24, hr3⟩ := bind_some hr3
          refine WO.indexStr rfl (by kernel_rfl) (by kernel_rfl) rfl rfl hx_y24 ?_
          refine WO.vals [(5, 28, (.string p0)), (6, 29, (.int .i64 s4))] (by kernel_rfl) (fun _ => by kernel_rfl) ?_
          obtain ⟨y25, hx_y25, hr3⟩ := bind_some hr3
          refine WO.indexStr rfl (by kernel_rfl) (by kernel_rfl) rfl rfl hx_y25 ?_
          refine WO.vals [(8, 31, (.bool (y24 == y25))), (9, 32, (.bool (y24 == y25)))] (by kernel_rfl) (fun _ => by kernel_rfl) ?_
          have he := Option.some.inj hr3
          subst j20
          refine WO.weaken (fr' := [(0, (.string p0)), (2, (.string p2)), (7, (.int .i64 s4)), (9, (.int .i64 s13)), (32, (.bool (y24 == y25)))]) (WO.meet ⟨I10, rfl, Mem.Le.refl _, hS18⟩) (Sub.cons rfl (Sub.cons rfl (Sub.cons rfl (Sub.cons rfl (Sub.cons rfl Sub.nil)))))
      case restj20 =>
        rintro _ w26 ⟨I22, rfl, hl23, hS27⟩
        refine WO.tail rfl ?_
        refine WO.vals [(10, 8, (.bool j20))] (by kernel_rfl) (fun _ => by kernel_rfl) ?_
        refine WO.nil ?_
        refine En.in_normal ?_
        refine En.next ?_
        refine W.region (l := [0, 1, 2]) (by kernel_rfl) ?_
        refine WO.vals [(0, 21, (.int .i64 s13)), (1, 22, (.int .i64 (w64 (s13 + 1)))), (2, 9, (.int .i64 (w64 (s13 + 1))))] (by kernel_rfl) (fun _ => by kernel_rfl) ?_
        refine WO.nil ?_
        refine En.weaken (fr' := [(0, (.string p0)), (2, (.string p2)), (7, (.int .i64 s4)), (8, (.bool j20)), (9, (.int .i64 (w64 (s13 + 1))))]) (En.round ⟨(j20, (w64 (s13 + 1))), (Option.some.inj hr2).symm, I22, rfl, (hl11.trans hl23), hS27⟩) (Sub.cons rfl (Sub.cons rfl (Sub.cons rfl (Sub.cons rfl (Sub.cons rfl Sub.nil)))))
    · replace hr2 := cond_f hc hr2
      refine W.exit ?_
      refine En.nx_exit ?_
      refine En.rd_exit ?_
      have ht := hext9 _ (Option.some.inj hr2).symm
      subst t9
      refine En.in_hit ?_
      refine En.next ?_
      refine W.seq ?_
      refine W.region (l := [0, 1]) (by kernel_rfl) ?_
      refine WO.vals [(0, 33, (.bool s12)), (1, 34, (.bool (!s12)))] (by kernel_rfl) (fun _ => by kernel_rfl) ?_
      refine WO.nil ?_
      refine En.next ?_
      refine W.cond (b := (!s12)) rfl rfl (fun hc => ?_) (fun hc => ?_)
      · replace hr1 := cond_t hc hr1
        refine W.seq ?_
        refine W.region (l := [0]) (by kernel_rfl) ?_
        refine WO.vals [(0, 6, (.bool false))] (by kernel_rfl) (fun _ => by kernel_rfl) ?_
        refine WO.nil ?_
        refine En.next ?_
        refine W.ret ?_
        refine En.in_ret ?_
        refine En.nx_ret ?_
        refine En.rd_ret ?_
        have ht := hext1 _ (Option.some.inj hr1).symm
        subst t1
        refine En.in_ret ?_
        refine En.nx_ret ?_
        have he := Option.some.inj hr
        subst r
        exact En.ret1 rfl (.bool false) rfl ⟨I10, rfl, (hl3.trans hl11), hS16⟩
      · replace hr1 := cond_f hc hr1
        refine W.skip ?_
        refine En.in_normal ?_
        refine En.next ?_
        refine W.region (l := [0, 1, 2]) (by kernel_rfl) ?_
        refine WO.vals [(0, 15, (.int .i64 s4)), (1, 16, (.int .i64 (w64 (s4 + 1)))), (2, 7, (.int .i64 (w64 (s4 + 1))))] (by kernel_rfl) (fun _ => by kernel_rfl) ?_
        refine WO.nil ?_
        refine En.weaken (fr' := [(0, (.string p0)), (2, (.string p2)), (7, (.int .i64 (w64 (s4 + 1))))]) (En.round ⟨(w64 (s4 + 1)), (Option.some.inj hr1).symm, I10, rfl, (hl3.trans hl11), hS16⟩) (Sub.cons rfl (Sub.cons rfl (Sub.cons rfl Sub.nil)))
  · replace hr1 := cond_f hc hr1
    refine W.exit ?_
    refine En.nx_exit ?_
    refine En.rd_exit ?_
    have ht := hext1 _ (Option.some.inj hr1).symm
    subst t1
    refine En.in_hit ?_
    refine En.next ?_
    refine W.seq ?_
    refine W.region (l := [0]) (by kernel_rfl) ?_
    refine WO.vals [(0, 6, (.bool true))] (by kernel_rfl) (fun _ => by kernel_rfl) ?_
    refine WO.nil ?_
    refine En.next ?_
    refine W.ret ?_
    have he := Option.some.inj hr
    subst r
    exact En.ret1 rfl (.bool true) rfl ⟨I2, rfl, hl3, hS7⟩
noncomputable def registrarref03_Plain (p0 : ByteArray) : Option Bool := (loopO (fun (s4 : Int) => (bif (decide (s4 < (p0.size : Int))) then (sAt p0 s4).bind (fun (y9 : Int) => ((bif (decide (y9 < 32)) then some true else (sAt p0 s4).bind (fun (y14 : Int) => some (decide (y14 > 126))))).bind (fun (j10 : Bool) => (bif j10 then some (.inr (.inl false)) else some (.inl (w64 (s4 + 1)))))) else some (.inr (.inr ())))) 0).bind (fun (t : Bool ⊕ Unit) => match t with | (.inl s18) => some s18 | (.inr ()) => some true)
set_option maxHeartbeats 1000000 in
theorem registrarref03_Plain_ok {E w : World} {I : Mem} {Os : List Mem} {p0 : ByteArray} (hS : St E w I Os) {r : Bool} (hr : registrarref03_Plain p0 = some r) :
    Calls P 89 #[(.string p0)] w (fun e w' => ∃ (I' : Mem), e = .returned (.bool r) ∧ I.Le I' ∧ St E w' I' Os) := by
  refine calls_W (args := [(.string p0)]) (fn := Tryz.f89) rfl rfl rfl ?_
  unfold registrarref03_Plain at hr
  refine W.seq ?_
  refine W.region (l := [0]) (by kernel_rfl) ?_
  refine WO.vals [(0, 2, (.bool false))] (by kernel_rfl) (fun _ => by kernel_rfl) ?_
  refine WO.nil ?_
  refine En.next ?_
  refine W.seq ?_
  refine W.seq ?_
  refine W.region (l := [0]) (by kernel_rfl) ?_
  refine WO.vals [(0, 3, (.int .i64 0))] (by kernel_rfl) (fun _ => by kernel_rfl) ?_
  refine WO.nil ?_
  refine En.next ?_
  refine W.block ?_
  obtain ⟨t1, hloop5, hr⟩ := bind_some hr
  refine W.weaken (fr' := [(0, (.string p0)), (3, (.int .i64 0))]) (W.loopO hloop5 (fun (s4 : Int) fr w => ∃ (I2 : Mem), fr = [(0, (.string p0)), (3, (.int .i64 s4))] ∧ I.Le I2 ∧ St E w I2 Os) ⟨I, rfl, Mem.Le.refl _, hS⟩ ?_) (Sub.cons rfl (Sub.cons rfl Sub.nil))
  rintro s4 _ w6 ⟨I2, rfl, hl3, hS7⟩ x8 hr1 hext1
  refine W.seq ?_
  refine W.seq ?_
  refine W.region (l := [0, 1, 2, 3]) (by kernel_rfl) ?_
  refine WO.vals [(0, 4, (.int .i64 s4)), (1, 5, (.string p0)), (2, 6, (.int .i64 (p0.size : Int))), (3, 7, (.bool (decide (s4 < (p0.size : Int)))))] (by kernel_rfl) (fun _ => by kernel_rfl) ?_
  refine WO.nil ?_
  refine En.next ?_
  refine W.cond (b := (decide (s4 < (p0.size : Int)))) rfl rfl (fun hc => ?_) (fun hc => ?_)
  · replace hr1 := cond_t hc hr1
    refine W.skip ?_
    refine En.next ?_
    refine W.seq ?_
    refine W.block ?_
    refine W.seq ?_
    refine W.region (l := [0, 1, 2, 3, 4, 5, 6, 7, 8, 9]) (by kernel_rfl) ?_
    refine WO.vals [(0, 10, (.string p0)), (1, 11, (.int .i64 s4))] (by kernel_rfl) (fun _ => by kernel_rfl) ?_
    obtain ⟨y9, hx_y9, hr1⟩ := bind_some hr1
    refine WO.indexStr rfl (by kernel_rfl) (by kernel_rfl) rfl rfl hx_y9 ?_
    refine WO.vals [(3, 13, (.bool (decide (y9 < 32)))), (4, 14, (.bool (decide (y9 < 32))))] (by kernel_rfl) (fun _ => by kernel_rfl) ?_
    obtain ⟨j10, hr2, hr1⟩ := bind_some hr1
    refine WO.join (l1 := [5, 6, 7, 8, 9]) (l2 := []) (J := (fun fr w => ∃ (I12 : Mem), fr = [(0, (.string p0)), (3, (.int .i64 s4)), (19, (.bool j10))] ∧ I2.Le I12 ∧ St E w I12 Os)) ?restj10 ?waysj10
    case waysj10 =>
      refine WO.caseb (decide (y9 < 32)) (fun hc => ?_) (fun hc => ?_)
      · replace hr2 := cond_t hc hr2
        refine WO.reslot 14 rfl (show Value.bool (decide (y9 < 32)) = Value.bool true by rw [hc]) ?_
        refine WO.pass rfl (by kernel_rfl) rfl ?_
        refine WO.pass rfl (by kernel_rfl) rfl ?_
        refine WO.pass rfl (by kernel_rfl) rfl ?_
        refine WO.pass rfl (by kernel_rfl) rfl ?_
        refine WO.vals [(9, 19, (.bool true))] (by kernel_rfl) (fun _ => by kernel_rfl) ?_
        have he := Option.some.inj hr2
        subst j10
        refine WO.weaken (fr' := [(0, (.string p0)), (3, (.int .i64 s4)), (19, (.bool true))]) (WO.meet ⟨I2, rfl, Mem.Le.refl _, hS7⟩) (Sub.cons rfl (Sub.cons rfl (Sub.cons rfl Sub.nil)))
      · replace hr2 := cond_f hc hr2
        refine WO.reslot 14 rfl (show Value.bool (decide (y9 < 32)) = Value.bool false by rw [hc]) ?_
        refine WO.vals [(5, 15, (.string p0)), (6, 16, (.int .i64 s4))] (by kernel_rfl) (fun _ => by kernel_rfl) ?_
        obtain ⟨y14, hx_y14, hr2⟩ := bind_some hr2
        refine WO.indexStr rfl (by kernel_rfl) (by kernel_rfl) rfl rfl hx_y14 ?_
        refine WO.vals [(8, 18, (.bool (decide (y14 > 126)))), (9, 19, (.bool (decide (y14 > 126))))] (by kernel_rfl) (fun _ => by kernel_rfl) ?_
        have he := Option.some.inj hr2
        subst j10
        refine WO.weaken (fr' := [(0, (.string p0)), (3, (.int .i64 s4)), (19, (.bool (decide (y14 > 126))))]) (WO.meet ⟨I2, rfl, Mem.Le.refl _, hS7⟩) (Sub.cons rfl (Sub.cons rfl (Sub.cons rfl Sub.nil)))
    case restj10 =>
      rintro _ w15 ⟨I12, rfl, hl13, hS16⟩
      refine WO.nil ?_
      refine En.next ?_
      refine W.cond (b := j10) rfl rfl (fun hc => ?_) (fun hc => ?_)
      · replace hr1 := cond_t hc hr1
        refine W.seq ?_
        refine W.region (l := [0]) (by kernel_rfl) ?_
        refine WO.vals [(0, 2, (.bool false))] (by kernel_rfl) (fun _ => by kernel_rfl) ?_
        refine WO.nil ?_
        refine En.next ?_
        refine W.ret ?_
        refine En.in_ret ?_
        refine En.nx_ret ?_
        refine En.rd_ret ?_
        have ht := hext1 _ (Option.some.inj hr1).symm
        subst t1
        refine En.in_ret ?_
        refine En.nx_ret ?_
        have he := Option.some.inj hr
        subst r
        exact En.ret1 rfl (.bool false) rfl ⟨I12, rfl, (hl3.trans hl13), hS16⟩
      · replace hr1 := cond_f hc hr1
        refine W.skip ?_
        refine En.in_normal ?_
        refine En.next ?_
        refine W.region (l := [0, 1, 2]) (by kernel_rfl) ?_
        refine WO.vals [(0, 8, (.int .i64 s4)), (1, 9, (.int .i64 (w64 (s4 + 1)))), (2, 3, (.int .i64 (w64 (s4 + 1))))] (by kernel_rfl) (fun _ => by kernel_rfl) ?_
        refine WO.nil ?_
        refine En.weaken (fr' := [(0, (.string p0)), (3, (.int .i64 (w64 (s4 + 1))))]) (En.round ⟨(w64 (s4 + 1)), (Option.some.inj hr1).symm, I12, rfl, (hl3.trans hl13), hS16⟩) (Sub.cons rfl (Sub.cons rfl Sub.nil))
  · replace hr1 := cond_f hc hr1
    refine W.exit ?_
    refine En.nx_exit ?_
    refine En.rd_exit ?_
    have ht := hext1 _ (Option.some.inj hr1).symm
    subst t1
    refine En.in_hit ?_
    refine En.next ?_
    refine W.seq ?_
    refine W.region (l := [0]) (by kernel_rfl) ?_
    refine WO.vals [(0, 2, (.bool true))] (by kernel_rfl) (fun _ => by kernel_rfl) ?_
    refine WO.nil ?_
    refine En.next ?_
    refine W.ret ?_
    have he := Option.some.inj hr
    subst r
    exact En.ret1 rfl (.bool true) rfl ⟨I2, rfl, hl3, hS7⟩
noncomputable def registrarref09_quoted (p0 : ByteArray) : Option Bool := ((bif (decide ((p0.size : Int) < 2)) then some true else (sAt p0 0).bind (fun (y5 : Int) => some (y5 != 39)))).bind (fun (j1 : Bool) => ((bif j1 then some true else (sAt p0 (w64 ((p0.size : Int) - 1))).bind (fun (y12 : Int) => some (y12 != 39)))).bind (fun (j8 : Bool) => ((bif j8 then some true else (registrarref03_Plain p0).bind (fun (r24 : Bool) => some (!r24)))).bind (fun (j15 : Bool) => (bif j15 then some false else (loopO (fun (s : Int × Int) => match s with | (s30, s31) => (bif (decide (s31 < (w64 ((p0.size : Int) - 1)))) then ((sAt p0 s31).bind (fun (y40 : Int) => (bif (y40 != 39) then (bif ((Int.tmod s30 2) == 1) then some (.inl false) else some (.inr s30)) else some (.inr (w64 (s30 + 1)))))).bind (fun (t : Bool ⊕ Int) => match t with | (.inl s42) => some (.inr (.inl s42)) | (.inr s45) => some (.inl (s45, (w64 (s31 + 1))))) else some (.inr (.inr s30)))) (0, 1)).bind (fun (t : Bool ⊕ Int) => match t with | (.inl s44) => some s44 | (.inr s49) => some ((Int.tmod s49 2) == 0))))))
set_option maxHeartbeats 1000000 in
theorem registrarref09_quoted_ok {E w : World} {I : Mem} {Os : List Mem} {p0 : ByteArray} (hS : St E w I Os) {r : Bool} (hr : registrarref09_quoted p0 = some r) :
    Calls P 71 #[(.string p0)] w (fun e w' => ∃ (I' : Mem), e = .returned (.bool r) ∧ I.Le I' ∧ St E w' I' Os) := by
  refine calls_W (args := [(.string p0)]) (fn := Tryz.f71) rfl rfl rfl ?_
  unfold registrarref09_quoted at hr
  refine W.seq ?_
  refine W.region (l := [0]) (by kernel_rfl) ?_
  refine WO.vals [(0, 2, (.bool false))] (by kernel_rfl) (fun _ => by kernel_rfl) ?_
  refine WO.nil ?_
  refine En.next ?_
  refine W.seq ?_
  refine W.seq ?_
  refine W.region (l := [0, 1, 2, 3, 4, 5, 6, 7, 8, 9, 10, 11, 12, 13, 14, 15, 16, 17, 18, 19, 20]) (by kernel_rfl) ?_
  refine WO.vals [(0, 5, (.string p0)), (1, 6, (.int .i64 (p0.size : Int))), (2, 7, (.bool (decide ((p0.size : Int) < 2)))), (3, 8, (.bool (decide ((p0.size : Int) < 2))))] (by kernel_rfl) (fun _ => by kernel_rfl) ?_
  obtain ⟨j1, hr1, hr⟩ := bind_some hr
  refine WO.join (l1 := [4, 5, 6, 7]) (l2 := [8, 9, 10, 11, 12, 13, 14, 15, 16, 17, 18, 19, 20]) (J := (fun fr w => ∃ (I3 : Mem), fr = [(0, (.string p0)), (12, (.bool j1))] ∧ I.Le I3 ∧ St E w I3 Os)) ?restj1 ?waysj1
  case waysj1 =>
    refine WO.caseb (decide ((p0.size : Int) < 2)) (fun hc => ?_) (fun hc => ?_)
    · replace hr1 := cond_t hc hr1
      refine WO.reslot 8 rfl (show Value.bool (decide ((p0.size : Int) < 2)) = Value.bool true by rw [hc]) ?_
      refine WO.pass rfl (by kernel_rfl) rfl ?_
      refine WO.pass rfl (by kernel_rfl) rfl ?_
      refine WO.pass rfl (by kernel_rfl) rfl ?_
      refine WO.vals [(7, 12, (.bool true))] (by kernel_rfl) (fun _ => by kernel_rfl) ?_
      have he := Option.some.inj hr1
      subst j1
      refine WO.weaken (fr' := [(0, (.string p0)), (12, (.bool true))]) (WO.meet ⟨I, rfl, Mem.Le.refl _, hS⟩) (Sub.cons rfl (Sub.cons rfl Sub.nil))
    · replace hr1 := cond_f hc hr1
      refine WO.reslot 8 rfl (show Value.bool (decide ((p0.size : Int) < 2)) = Value.bool false by rw [hc]) ?_
      refine WO.vals [(4, 9, (.string p0))] (by kernel_rfl) (fun _ => by kernel_rfl) ?_
      obtain ⟨y5, hx_y5, hr1⟩ := bind_some hr1
      refine WO.indexStr rfl (by kernel_rfl) (by kernel_rfl) rfl rfl hx_y5 ?_
      refine WO.vals [(6, 11, (.bool (y5 != 39))), (7, 12, (.bool (y5 != 39)))] (by kernel_rfl) (fun _ => by kernel_rfl) ?_
      have he := Option.some.inj hr1
      subst j1
      refine WO.weaken (fr' := [(0, (.string p0)), (12, (.bool (y5 != 39)))]) (WO.meet ⟨I, rfl, Mem.Le.refl _, hS⟩) (Sub.cons rfl (Sub.cons rfl Sub.nil))
  case restj1 =>
    rintro _ w6 ⟨I3, rfl, hl4, hS7⟩
    refine WO.vals [(8, 13, (.bool j1))] (by kernel_rfl) (fun _ => by kernel_rfl) ?_
    obtain ⟨j8, hr1, hr⟩ := bind_some hr
    refine WO.join (l1 := [9, 10, 11, 12, 13, 14, 15]) (l2 := [16, 17, 18, 19, 20]) (J := (fun fr w => ∃ (I10 : Mem), fr = [(0, (.string p0)), (20, (.bool j8))] ∧ I3.Le I10 ∧ St E w I10 Os)) ?restj8 ?waysj8
    case waysj8 =>
      refine WO.caseb j1 (fun hc => ?_) (fun hc => ?_)
      · replace hr1 := cond_t hc hr1
        refine WO.reslot 13 rfl (show Value.bool j1 = Value.bool true by rw [hc]) ?_
        refine WO.pass rfl (by kernel_rfl) rfl ?_
        refine WO.pass rfl (by kernel_rfl) rfl ?_
        refine WO.pass rfl (by kernel_rfl) rfl ?_
        refine WO.pass rfl (by kernel_rfl) rfl ?_
        refine WO.pass rfl (by kernel_rfl) rfl ?_
        refine WO.pass rfl (by kernel_rfl) rfl ?_
        refine WO.vals [(15, 20, (.bool true))] (by kernel_rfl) (fun _ => by kernel_rfl) ?_
        have he := Option.some.inj hr1
        subst j8
        refine WO.weaken (fr' := [(0, (.string p0)), (20, (.bool true))]) (WO.meet ⟨I3, rfl, Mem.Le.refl _, hS7⟩) (Sub.cons rfl (Sub.cons rfl Sub.nil))
      · replace hr1 := cond_f hc hr1
        refine WO.reslot 13 rfl (show Value.bool j1 = Value.bool false by rw [hc]) ?_
        refine WO.vals [(9, 14, (.string p0)), (10, 15, (.string p0)), (11, 16, (.int .i64 (p0.size : Int))), (12, 17, (.int .i64 (w64 ((p0.size : Int) - 1))))] (by kernel_rfl) (fun _ => by kernel_rfl) ?_
        obtain ⟨y12, hx_y12, hr1⟩ := bind_some hr1
        refine WO.indexStr rfl (by kernel_rfl) (by kernel_rfl) rfl rfl hx_y12 ?_
        refine WO.vals [(14, 19, (.bool (y12 != 39))), (15, 20, (.bool (y12 != 39)))] (by kernel_rfl) (fun _ => by kernel_rfl) ?_
        have he := Option.some.inj hr1
        subst j8
        refine WO.weaken (fr' := [(0, (.string p0)), (20, (.bool (y12 != 39)))]) (WO.meet ⟨I3, rfl, Mem.Le.refl _, hS7⟩) (Sub.cons rfl (Sub.cons rfl Sub.nil))
    case restj8 =>
      rintro _ w13 ⟨I10, rfl, hl11, hS14⟩
      refine WO.vals [(16, 21, (.bool j8))] (by kernel_rfl) (fun _ => by kernel_rfl) ?_
      obtain ⟨j15, hr1, hr⟩ := bind_some hr
      refine WO.join (l1 := [17, 18, 19, 20]) (l2 := []) (J := (fun fr w => ∃ (I17 : Mem), fr = [(0, (.string p0)), (25, (.bool j15))] ∧ I10.Le I17 ∧ St E w I17 Os)) ?restj15 ?waysj15
      case waysj15 =>
        refine WO.caseb j8 (fun hc => ?_) (fun hc => ?_)
        · replace hr1 := cond_t hc hr1
          refine WO.reslot 21 rfl (show Value.bool j8 = Value.bool true by rw [hc]) ?_
          refine WO.pass rfl (by kernel_rfl) rfl ?_
          refine WO.pass rfl (by kernel_rfl) rfl ?_
          refine WO.pass rfl (by kernel_rfl) rfl ?_
          refine WO.vals [(20, 25, (.bool true))] (by kernel_rfl) (fun _ => by kernel_rfl) ?_
          have he := Option.some.inj hr1
          subst j15
          refine WO.weaken (fr' := [(0, (.string p0)), (25, (.bool true))]) (WO.meet ⟨I10, rfl, Mem.Le.refl _, hS14⟩) (Sub.cons rfl (Sub.cons rfl Sub.nil))
        · replace hr1 := cond_f hc hr1
          refine WO.reslot 21 rfl (show Value.bool j8 = Value.bool false by rw [hc]) ?_
          refine WO.vals [(17, 22, (.string p0))] (by kernel_rfl) (fun _ => by kernel_rfl) ?_
          obtain ⟨r24, hx_r19, hr1⟩ := bind_some hr1
          refine WO.call rfl (by kernel_rfl) rfl (f := 89) (args := #[(.string p0)]) (by kernel_rfl) (registrarref03_Plain_ok  hS14 hx_r19) ?_
          rintro _ w20 ⟨I21, rfl, hl22, hS23⟩
          refine ⟨_, rfl, trivial, ?_⟩
          refine WO.vals [(19, 24, (.bool (!r24))), (20, 25, (.bool (!r24)))] (by kernel_rfl) (fun _ => by kernel_rfl) ?_
          have he := Option.some.inj hr1
          subst j15
          refine WO.weaken (fr' := [(0, (.string p0)), (25, (.bool (!r24)))]) (WO.meet ⟨I21, rfl, hl22, hS23⟩) (Sub.cons rfl (Sub.cons rfl Sub.nil))
      case restj15 =>
        rintro _ w25 ⟨I17, rfl, hl18, hS26⟩
        refine WO.nil ?_
        refine En.next ?_
        refine W.cond (b := j15) rfl rfl (fun hc => ?_) (fun hc => ?_)
        · replace hr := cond_t hc hr
          refine W.seq ?_
          refine W.region (l := [0]) (by kernel_rfl) ?_
          refine WO.vals [(0, 2, (.bool false))] (by kernel_rfl) (fun _ => by kernel_rfl) ?_
          refine WO.nil ?_
          refine En.next ?_
          refine W.ret ?_
          refine En.nx_ret ?_
          have he := Option.some.inj hr
          subst r
          exact En.ret1 rfl (.bool false) rfl ⟨I17, rfl, ((hl4.trans hl11).trans hl18), hS26⟩
        · replace hr := cond_f hc hr
          refine W.skip ?_
          refine En.next ?_
          refine W.seq ?_
          refine W.region (l := [0]) (by kernel_rfl) ?_
          refine WO.vals [(0, 3, (.int .i64 0))] (by kernel_rfl) (fun _ => by kernel_rfl) ?_
          refine WO.nil ?_
          refine En.next ?_
          refine W.seq ?_
          refine W.seq ?_
          refine W.region (l := [0]) (by kernel_rfl) ?_
          refine WO.vals [(0, 4, (.int .i64 1))] (by kernel_rfl) (fun _ => by kernel_rfl) ?_
          refine WO.nil ?_
          refine En.next ?_
          refine W.block ?_
          obtain ⟨t27, hloop32, hr⟩ := bind_some hr
          refine W.weaken (fr' := [(0, (.string p0)), (3, (.int .i64 0)), (4, (.int .i64 1))]) (W.loopO hloop32 (fun (s : Int × Int) fr w => match s with | (s30, s31) => ∃ (I28 : Mem), fr = [(0, (.string p0)), (3, (.int .i64 s30)), (4, (.int .i64 s31))] ∧ I17.Le I28 ∧ St E w I28 Os) ⟨I17, rfl, Mem.Le.refl _, hS26⟩ ?_) (Sub.cons rfl (Sub.cons rfl (Sub.cons rfl Sub.nil)))
          rintro ⟨s30, s31⟩ _ w33 ⟨I28, rfl, hl29, hS34⟩ x35 hr1 hext27
          refine W.seq ?_
          refine W.seq ?_
          refine W.region (l := [0, 1, 2, 3, 4]) (by kernel_rfl) ?_
          refine WO.vals [(0, 26, (.int .i64 s31)), (1, 27, (.string p0)), (2, 28, (.int .i64 (p0.size : Int))), (3, 29, (.int .i64 (w64 ((p0.size : Int) - 1)))), (4, 30, (.bool (decide (s31 < (w64 ((p0.size : Int) - 1))))))] (by kernel_rfl) (fun _ => by kernel_rfl) ?_
          refine WO.nil ?_
          refine En.next ?_
          refine W.cond (b := (decide (s31 < (w64 ((p0.size : Int) - 1))))) rfl rfl (fun hc => ?_) (fun hc => ?_)
          · replace hr1 := cond_t hc hr1
            refine W.skip ?_
            refine En.next ?_
            refine W.seq ?_
            obtain ⟨j36, hr2, hr1⟩ := bind_some hr1
            refine W.join (J := (fun fr w => ∃ (s45 : Int), ∃ (I38 : Mem), (.inr s45) = j36 ∧ fr = [(0, (.string p0)), (3, (.int .i64 s45)), (4, (.int .i64 s31))] ∧ I28.Le I38 ∧ St E w I38 Os)) ?restj36 ?waysj36
            case waysj36 =>
              refine W.block ?_
              refine W.seq ?_
              refine W.seq ?_
              refine W.region (l := [0, 1, 2, 3]) (by kernel_rfl) ?_
              refine WO.vals [(0, 33, (.string p0)), (1, 34, (.int .i64 s31))] (by kernel_rfl) (fun _ => by kernel_rfl) ?_
              obtain ⟨y40, hx_y40, hr2⟩ := bind_some hr2
              refine WO.indexStr rfl (by kernel_rfl) (by kernel_rfl) rfl rfl hx_y40 ?_
              refine WO.vals [(3, 36, (.bool (y40 != 39)))] (by kernel_rfl) (fun _ => by kernel_rfl) ?_
              refine WO.nil ?_
              refine En.next ?_
              refine W.cond (b := (y40 != 39)) rfl rfl (fun hc => ?_) (fun hc => ?_)
              · replace hr2 := cond_t hc hr2
                refine W.seq ?_
                refine W.seq ?_
                refine W.region (l := [0, 1, 2]) (by kernel_rfl) ?_
                refine WO.vals [(0, 37, (.int .i64 s30)), (1, 38, (.int .i64 (Int.tmod s30 2))), (2, 39, (.bool ((Int.tmod s30 2) == 1)))] (by kernel_rfl) (fun _ => by kernel_rfl) ?_
                refine WO.nil ?_
                refine En.next ?_
                refine W.cond (b := ((Int.tmod s30 2) == 1)) rfl rfl (fun hc => ?_) (fun hc => ?_)
                · replace hr2 := cond_t hc hr2
                  refine W.seq ?_
                  refine W.region (l := [0]) (by kernel_rfl) ?_
                  refine WO.vals [(0, 2, (.bool false))] (by kernel_rfl) (fun _ => by kernel_rfl) ?_
                  refine WO.nil ?_
                  refine En.next ?_
                  refine W.ret ?_
                  refine En.nx_ret ?_
                  refine En.nx_ret ?_
                  refine En.in_ret ?_
                  refine En.rd_ret ?_
                  have ht := Option.some.inj hr2
                  subst j36
                  refine En.nx_ret ?_
                  refine En.rd_ret ?_
                  have ht := hext27 _ (Option.some.inj hr1).symm
                  subst t27
                  refine En.in_ret ?_
                  refine En.nx_ret ?_
                  have he := Option.some.inj hr
                  subst r
                  exact En.ret1 rfl (.bool false) rfl ⟨I28, rfl, (((hl4.trans hl11).trans hl18).trans hl29), hS34⟩
                · replace hr2 := cond_f hc hr2
                  refine W.skip ?_
                  refine En.next ?_
                  refine W.exit ?_
                  refine En.nx_exit ?_
                  refine En.in_hit ?_
                  refine En.weaken (fr' := [(0, (.string p0)), (3, (.int .i64 s30)), (4, (.int .i64 s31))]) (En.round ⟨s30, I28, Option.some.inj hr2, rfl, Mem.Le.refl _, hS34⟩) (Sub.cons rfl (Sub.cons rfl (Sub.cons rfl Sub.nil)))
              · replace hr2 := cond_f hc hr2
                refine W.skip ?_
                refine En.next ?_
                refine W.region (l := [0, 1, 2]) (by kernel_rfl) ?_
                refine WO.vals [(0, 40, (.int .i64 s30)), (1, 41, (.int .i64 (w64 (s30 + 1)))), (2, 3, (.int .i64 (w64 (s30 + 1))))] (by kernel_rfl) (fun _ => by kernel_rfl) ?_
                refine WO.nil ?_
                refine En.in_normal ?_
                refine En.weaken (fr' := [(0, (.string p0)), (3, (.int .i64 (w64 (s30 + 1)))), (4, (.int .i64 s31))]) (En.round ⟨(w64 (s30 + 1)), I28, Option.some.inj hr2, rfl, Mem.Le.refl _, hS34⟩) (Sub.cons rfl (Sub.cons rfl (Sub.cons rfl Sub.nil)))
            case restj36 =>
              rintro _ w46 ⟨s45, I38, rfl, rfl, hl39, hS47⟩
              refine En.next ?_
              refine W.region (l := [0, 1, 2]) (by kernel_rfl) ?_
              refine WO.vals [(0, 31, (.int .i64 s31)), (1, 32, (.int .i64 (w64 (s31 + 1)))), (2, 4, (.int .i64 (w64 (s31 + 1))))] (by kernel_rfl) (fun _ => by kernel_rfl) ?_
              refine WO.nil ?_
              refine En.weaken (fr' := [(0, (.string p0)), (3, (.int .i64 s45)), (4, (.int .i64 (w64 (s31 + 1))))]) (En.round ⟨(s45, (w64 (s31 + 1))), (Option.some.inj hr1).symm, I38, rfl, (hl29.trans hl39), hS47⟩) (Sub.cons rfl (Sub.cons rfl (Sub.cons rfl Sub.nil)))
          · replace hr1 := cond_f hc hr1
            refine W.exit ?_
            refine En.nx_exit ?_
            refine En.rd_exit ?_
            have ht := hext27 _ (Option.some.inj hr1).symm
            subst t27
            refine En.in_hit ?_
            refine En.next ?_
            refine W.seq ?_
            refine W.region (l := [0, 1, 2, 3]) (by kernel_rfl) ?_
            refine WO.vals [(0, 42, (.int .i64 s30)), (1, 43, (.int .i64 (Int.tmod s30 2))), (2, 44, (.bool ((Int.tmod s30 2) == 0))), (3, 2, (.bool ((Int.tmod s30 2) == 0)))] (by kernel_rfl) (fun _ => by kernel_rfl) ?_
            refine WO.nil ?_
            refine En.next ?_
            refine W.ret ?_
            have he := Option.some.inj hr
            subst r
            exact En.ret1 rfl (.bool ((Int.tmod s30 2) == 0)) rfl ⟨I28, rfl, (((hl4.trans hl11).trans hl18).trans hl29), hS34⟩
def registrarref09_sign (p0 : ByteArray) : Option Bool := ((bif (sEq p0 (⟨#[40]⟩ : ByteArray)) then some (sEq p0 (⟨#[40]⟩ : ByteArray)) else ((bif (sEq p0 (⟨#[41]⟩ : ByteArray)) then some (sEq p0 (⟨#[41]⟩ : ByteArray)) else ((bif (sEq p0 (⟨#[44]⟩ : ByteArray)) then some (sEq p0 (⟨#[44]⟩ : ByteArray)) else ((bif (sEq p0 (⟨#[61]⟩ : ByteArray)) then some (sEq p0 (⟨#[61]⟩ : ByteArray)) else ((bif (sEq p0 (⟨#[60, 62]⟩ : ByteArray)) then some (sEq p0 (⟨#[60, 62]⟩ : ByteArray)) else ((bif (sEq p0 (⟨#[60]⟩ : ByteArray)) then some (sEq p0 (⟨#[60]⟩ : ByteArray)) else ((bif (sEq p0 (⟨#[60, 61]⟩ : ByteArray)) then some (sEq p0 (⟨#[60, 61]⟩ : ByteArray)) else ((bif (sEq p0 (⟨#[62]⟩ : ByteArray)) then some (sEq p0 (⟨#[62]⟩ : ByteArray)) else ((bif (sEq p0 (⟨#[62, 61]⟩ : ByteArray)) then some (sEq p0 (⟨#[62, 61]⟩ : ByteArray)) else ((bif (sEq p0 (⟨#[43]⟩ : ByteArray)) then some (sEq p0 (⟨#[43]⟩ : ByteArray)) else ((bif (sEq p0 (⟨#[45]⟩ : ByteArray)) then some (sEq p0 (⟨#[45]⟩ : ByteArray)) else ((bif (sEq p0 (⟨#[42]⟩ : ByteArray)) then some (sEq p0 (⟨#[42]⟩ : ByteArray)) else ((bif (sEq p0 (⟨#[47]⟩ : ByteArray)) then some (sEq p0 (⟨#[47]⟩ : ByteArray)) else ((bif (sEq p0 (⟨#[37]⟩ : ByteArray)) then some (sEq p0 (⟨#[37]⟩ : ByteArray)) else some (sEq p0 (⟨#[124, 124]⟩ : ByteArray)))).bind (fun (j53 : Bool) => some j53))).bind (fun (j49 : Bool) => some j49))).bind (fun (j45 : Bool) => some j45))).bind (fun (j41 : Bool) => some j41))).bind (fun (j37 : Bool) => some j37))).bind (fun (j33 : Bool) => some j33))).bind (fun (j29 : Bool) => some j29))).bind (fun (j25 : Bool) => some j25))).bind (fun (j21 : Bool) => some j21))).bind (fun (j17 : Bool) => some j17))).bind (fun (j13 : Bool) => some j13))).bind (fun (j9 : Bool) => some j9))).bind (fun (j5 : Bool) => some j5))).bind (fun (j1 : Bool) => (bif j1 then some true else some false))
set_option maxHeartbeats 1000000 in
theorem registrarref09_sign_ok {E w : World} {I : Mem} {Os : List Mem} {p0 : ByteArray} (hS : St E w I Os) {r : Bool} (hr : registrarref09_sign p0 = some r) :
    Calls P 72 #[(.string p0)] w (fun e w' => ∃ (I' : Mem), e = .returned (.bool r) ∧ I.Le I' ∧ St E w' I' Os) := by
  refine calls_W (args := [(.string p0)]) (fn := Tryz.f72) rfl rfl rfl ?_
  unfold registrarref09_sign at hr
  refine W.seq ?_
  refine W.region (l := [0]) (by kernel_rfl) ?_
  refine WO.vals [(0, 2, (.bool false))] (by kernel_rfl) (fun _ => by kernel_rfl) ?_
  refine WO.nil ?_
  refine En.next ?_
  refine W.seq ?_
  refine W.seq ?_
  refine W.region (l := [0]) (by kernel_rfl) ?_
  refine WO.vals [(0, 3, (.string p0))] (by kernel_rfl) (fun _ => by kernel_rfl) ?_
  refine WO.nil ?_
  refine En.next ?_
  refine W.block ?_
  refine W.seq ?_
  refine W.seq ?_
  refine W.region (l := [0, 1]) (by kernel_rfl) ?_
  refine WO.vals [(0, 5, (.bool (sEq p0 (⟨#[40]⟩ : ByteArray)))), (1, 4, (.bool (sEq p0 (⟨#[40]⟩ : ByteArray))))] (by kernel_rfl) (fun _ => by kernel_rfl) ?_
  refine WO.nil ?_
  refine En.next ?_
  obtain ⟨j1, hr1, hr⟩ := bind_some hr
  refine W.join (J := (fun fr w => ∃ (I3 : Mem), fr = [(4, (.bool j1))] ∧ I.Le I3 ∧ St E w I3 Os)) ?restj1 ?waysj1
  case waysj1 =>
    refine W.cond (b := (sEq p0 (⟨#[40]⟩ : ByteArray))) rfl rfl (fun hc => ?_) (fun hc => ?_)
    · replace hr1 := cond_t hc hr1
      refine W.skip ?_
      have he := Option.some.inj hr1
      subst j1
      refine En.weaken (fr' := [(4, (.bool (sEq p0 (⟨#[40]⟩ : ByteArray))))]) (En.round ⟨I, rfl, Mem.Le.refl _, hS⟩) (Sub.cons rfl Sub.nil)
    · replace hr1 := cond_f hc hr1
      refine W.seq ?_
      refine W.region (l := [0, 1]) (by kernel_rfl) ?_
      refine WO.vals [(0, 6, (.bool (sEq p0 (⟨#[41]⟩ : ByteArray)))), (1, 4, (.bool (sEq p0 (⟨#[41]⟩ : ByteArray))))] (by kernel_rfl) (fun _ => by kernel_rfl) ?_
      refine WO.nil ?_
      refine En.next ?_
      obtain ⟨j5, hr2, hr1⟩ := bind_some hr1
      refine W.join (J := (fun fr w => ∃ (I7 : Mem), fr = [(4, (.bool j5))] ∧ I.Le I7 ∧ St E w I7 Os)) ?restj5 ?waysj5
      case waysj5 =>
        refine W.cond (b := (sEq p0 (⟨#[41]⟩ : ByteArray))) rfl rfl (fun hc => ?_) (fun hc => ?_)
        · replace hr2 := cond_t hc hr2
          refine W.skip ?_
          have he := Option.some.inj hr2
          subst j5
          refine En.weaken (fr' := [(4, (.bool (sEq p0 (⟨#[41]⟩ : ByteArray))))]) (En.round ⟨I, rfl, Mem.Le.refl _, hS⟩) (Sub.cons rfl Sub.nil)
        · replace hr2 := cond_f hc hr2
          refine W.seq ?_
          refine W.region (l := [0, 1]) (by kernel_rfl) ?_
          refine WO.vals [(0, 7, (.bool (sEq p0 (⟨#[44]⟩ : ByteArray)))), (1, 4, (.bool (sEq p0 (⟨#[44]⟩ : ByteArray))))] (by kernel_rfl) (fun _ => by kernel_rfl) ?_
          refine WO.nil ?_
          refine En.next ?_
          obtain ⟨j9, hr3, hr2⟩ := bind_some hr2
          refine W.join (J := (fun fr w => ∃ (I11 : Mem), fr = [(4, (.bool j9))] ∧ I.Le I11 ∧ St E w I11 Os)) ?restj9 ?waysj9
          case waysj9 =>
            refine W.cond (b := (sEq p0 (⟨#[44]⟩ : ByteArray))) rfl rfl (fun hc => ?_) (fun hc => ?_)
            · replace hr3 := cond_t hc hr3
              refine W.skip ?_
              have he := Option.some.inj hr3
              subst j9
              refine En.weaken (fr' := [(4, (.bool (sEq p0 (⟨#[44]⟩ : ByteArray))))]) (En.round ⟨I, rfl, Mem.Le.refl _, hS⟩) (Sub.cons rfl Sub.nil)
            · replace hr3 := cond_f hc hr3
              refine W.seq ?_
              refine W.region (l := [0, 1]) (by kernel_rfl) ?_
              refine WO.vals [(0, 8, (.bool (sEq p0 (⟨#[61]⟩ : ByteArray)))), (1, 4, (.bool (sEq p0 (⟨#[61]⟩ : ByteArray))))] (by kernel_rfl) (fun _ => by kernel_rfl) ?_
              refine WO.nil ?_
              refine En.next ?_
              obtain ⟨j13, hr4, hr3⟩ := bind_some hr3
              refine W.join (J := (fun fr w => ∃ (I15 : Mem), fr = [(4, (.bool j13))] ∧ I.Le I15 ∧ St E w I15 Os)) ?restj13 ?waysj13
              case waysj13 =>
                refine W.cond (b := (sEq p0 (⟨#[61]⟩ : ByteArray))) rfl rfl (fun hc => ?_) (fun hc => ?_)
                · replace hr4 := cond_t hc hr4
                  refine W.skip ?_
                  have he := Option.some.inj hr4
                  subst j13
                  refine En.weaken (fr' := [(4, (.bool (sEq p0 (⟨#[61]⟩ : ByteArray))))]) (En.round ⟨I, rfl, Mem.Le.refl _, hS⟩) (Sub.cons rfl Sub.nil)
                · replace hr4 := cond_f hc hr4
                  refine W.seq ?_
                  refine W.region (l := [0, 1]) (by kernel_rfl) ?_
                  refine WO.vals [(0, 9, (.bool (sEq p0 (⟨#[60, 62]⟩ : ByteArray)))), (1, 4, (.bool (sEq p0 (⟨#[60, 62]⟩ : ByteArray))))] (by kernel_rfl) (fun _ => by kernel_rfl) ?_
                  refine WO.nil ?_
                  refine En.next ?_
                  obtain ⟨j17, hr5, hr4⟩ := bind_some hr4
                  refine W.join (J := (fun fr w => ∃ (I19 : Mem), fr = [(4, (.bool j17))] ∧ I.Le I19 ∧ St E w I19 Os)) ?restj17 ?waysj17
                  case waysj17 =>
                    refine W.cond (b := (sEq p0 (⟨#[60, 62]⟩ : ByteArray))) rfl rfl (fun hc => ?_) (fun hc => ?_)
                    · replace hr5 := cond_t hc hr5
                      refine W.skip ?_
                      have he := Option.some.inj hr5
                      subst j17
                      refine En.weaken (fr' := [(4, (.bool (sEq p0 (⟨#[60, 62]⟩ : ByteArray))))]) (En.round ⟨I, rfl, Mem.Le.refl _, hS⟩) (Sub.cons rfl Sub.nil)
                    · replace hr5 := cond_f hc hr5
                      refine W.seq ?_
                      refine W.region (l := [0, 1]) (by kernel_rfl) ?_
                      refine WO.vals [(0, 10, (.bool (sEq p0 (⟨#[60]⟩ : ByteArray)))), (1, 4, (.bool (sEq p0 (⟨#[60]⟩ : ByteArray))))] (by kernel_rfl) (fun _ => by kernel_rfl) ?_
                      refine WO.nil ?_
                      refine En.next ?_
                      obtain ⟨j21, hr6, hr5⟩ := bind_some hr5
                      refine W.join (J := (fun fr w => ∃ (I23 : Mem), fr = [(4, (.bool j21))] ∧ I.Le I23 ∧ St E w I23 Os)) ?restj21 ?waysj21
                      case waysj21 =>
                        refine W.cond (b := (sEq p0 (⟨#[60]⟩ : ByteArray))) rfl rfl (fun hc => ?_) (fun hc => ?_)
                        · replace hr6 := cond_t hc hr6
                          refine W.skip ?_
                          have he := Option.some.inj hr6
                          subst j21
                          refine En.weaken (fr' := [(4, (.bool (sEq p0 (⟨#[60]⟩ : ByteArray))))]) (En.round ⟨I, rfl, Mem.Le.refl _, hS⟩) (Sub.cons rfl Sub.nil)
                        · replace hr6 := cond_f hc hr6
                          refine W.seq ?_
                          refine W.region (l := [0, 1]) (by kernel_rfl) ?_
                          refine WO.vals [(0, 11, (.bool (sEq p0 (⟨#[60, 61]⟩ : ByteArray)))), (1, 4, (.bool (sEq p0 (⟨#[60, 61]⟩ : ByteArray))))] (by kernel_rfl) (fun _ => by kernel_rfl) ?_
                          refine WO.nil ?_
                          refine En.next ?_
                          obtain ⟨j25, hr7, hr6⟩ := bind_some hr6
                          refine W.join (J := (fun fr w => ∃ (I27 : Mem), fr = [(4, (.bool j25))] ∧ I.Le I27 ∧ St E w I27 Os)) ?restj25 ?waysj25
                          case waysj25 =>
                            refine W.cond (b := (sEq p0 (⟨#[60, 61]⟩ : ByteArray))) rfl rfl (fun hc => ?_) (fun hc => ?_)
                            · replace hr7 := cond_t hc hr7
                              refine W.skip ?_
                              have he := Option.some.inj hr7
                              subst j25
                              refine En.weaken (fr' := [(4, (.bool (sEq p0 (⟨#[60, 61]⟩ : ByteArray))))]) (En.round ⟨I, rfl, Mem.Le.refl _, hS⟩) (Sub.cons rfl Sub.nil)
                            · replace hr7 := cond_f hc hr7
                              refine W.seq ?_
                              refine W.region (l := [0, 1]) (by kernel_rfl) ?_
                              refine WO.vals [(0, 12, (.bool (sEq p0 (⟨#[62]⟩ : ByteArray)))), (1, 4, (.bool (sEq p0 (⟨#[62]⟩ : ByteArray))))] (by kernel_rfl) (fun _ => by kernel_rfl) ?_
                              refine WO.nil ?_
                              refine En.next ?_
                              obtain ⟨j29, hr8, hr7⟩ := bind_some hr7
                              refine W.join (J := (fun fr w => ∃ (I31 : Mem), fr = [(4, (.bool j29))] ∧ I.Le I31 ∧ St E w I31 Os)) ?restj29 ?waysj29
                              case waysj29 =>
                                refine W.cond (b := (sEq p0 (⟨#[62]⟩ : ByteArray))) rfl rfl (fun hc => ?_) (fun hc => ?_)
                                · replace hr8 := cond_t hc hr8
                                  refine W.skip ?_
                                  have he := Option.some.inj hr8
                                  subst j29
                                  refine En.weaken (fr' := [(4, (.bool (sEq p0 (⟨#[62]⟩ : ByteArray))))]) (En.round ⟨I, rfl, Mem.Le.refl _, hS⟩) (Sub.cons rfl Sub.nil)
                                · replace hr8 := cond_f hc hr8
                                  refine W.seq ?_
                                  refine W.region (l := [0, 1]) (by kernel_rfl) ?_
                                  refine WO.vals [(0, 13, (.bool (sEq p0 (⟨#[62, 61]⟩ : ByteArray)))), (1, 4, (.bool (sEq p0 (⟨#[62, 61]⟩ : ByteArray))))] (by kernel_rfl) (fun _ => by kernel_rfl) ?_
                                  refine WO.nil ?_
                                  refine En.next ?_
                                  obtain ⟨j33, hr9, hr8⟩ := bind_some hr8
                                  refine W.join (J := (fun fr w => ∃ (I35 : Mem), fr = [(4, (.bool j33))] ∧ I.Le I35 ∧ St E w I35 Os)) ?restj33 ?waysj33
                                  case waysj33 =>
                                    refine W.cond (b := (sEq p0 (⟨#[62, 61]⟩ : ByteArray))) rfl rfl (fun hc => ?_) (fun hc => ?_)
                                    · replace hr9 := cond_t hc hr9
                                      refine W.skip ?_
                                      have he := Option.some.inj hr9
                                      subst j33
                                      refine En.weaken (fr' := [(4, (.bool (sEq p0 (⟨#[62, 61]⟩ : ByteArray))))]) (En.round ⟨I, rfl, Mem.Le.refl _, hS⟩) (Sub.cons rfl Sub.nil)
                                    · replace hr9 := cond_f hc hr9
                                      refine W.seq ?_
                                      refine W.region (l := [0, 1]) (by kernel_rfl) ?_
                                      refine WO.vals [(0, 14, (.bool (sEq p0 (⟨#[43]⟩ : ByteArray)))), (1, 4, (.bool (sEq p0 (⟨#[43]⟩ : ByteArray))))] (by kernel_rfl) (fun _ => by kernel_rfl) ?_
                                      refine WO.nil ?_
                                      refine En.next ?_
                                      obtain ⟨j37, hr10, hr9⟩ := bind_some hr9
                                      refine W.join (J := (fun fr w => ∃ (I39 : Mem), fr = [(4, (.bool j37))] ∧ I.Le I39 ∧ St E w I39 Os)) ?restj37 ?waysj37
                                      case waysj37 =>
                                        refine W.cond (b := (sEq p0 (⟨#[43]⟩ : ByteArray))) rfl rfl (fun hc => ?_) (fun hc => ?_)
                                        · replace hr10 := cond_t hc hr10
                                          refine W.skip ?_
                                          have he := Option.some.inj hr10
                                          subst j37
                                          refine En.weaken (fr' := [(4, (.bool (sEq p0 (⟨#[43]⟩ : ByteArray))))]) (En.round ⟨I, rfl, Mem.Le.refl _, hS⟩) (Sub.cons rfl Sub.nil)
                                        · replace hr10 := cond_f hc hr10
                                          refine W.seq ?_
                                          refine W.region (l := [0, 1]) (by kernel_rfl) ?_
                                          refine WO.vals [(0, 15, (.bool (sEq p0 (⟨#[45]⟩ : ByteArray)))), (1, 4, (.bool (sEq p0 (⟨#[45]⟩ : ByteArray))))] (by kernel_rfl) (fun _ => by kernel_rfl) ?_
                                          refine WO.nil ?_
                                          refine En.next ?_
                                          obtain ⟨j41, hr11, hr10⟩ := bind_some hr10
                                          refine W.join (J := (fun fr w => ∃ (I43 : Mem), fr = [(4, (.bool j41))] ∧ I.Le I43 ∧ St E w I43 Os)) ?restj41 ?waysj41
                                          case waysj41 =>
                                            refine W.cond (b := (sEq p0 (⟨#[45]⟩ : ByteArray))) rfl rfl (fun hc => ?_) (fun hc => ?_)
                                            · replace hr11 := cond_t hc hr11
                                              refine W.skip ?_
                                              have he := Option.some.inj hr11
                                              subst j41
                                              refine En.weaken (fr' := [(4, (.bool (sEq p0 (⟨#[45]⟩ : ByteArray))))]) (En.round ⟨I, rfl, Mem.Le.refl _, hS⟩) (Sub.cons rfl Sub.nil)
                                            · replace hr11 := cond_f hc hr11
                                              refine W.seq ?_
                                              refine W.region (l := [0, 1]) (by kernel_rfl) ?_
                                              refine WO.vals [(0, 16, (.bool (sEq p0 (⟨#[42]⟩ : ByteArray)))), (1, 4, (.bool (sEq p0 (⟨#[42]⟩ : ByteArray))))] (by kernel_rfl) (fun _ => by kernel_rfl) ?_
                                              refine WO.nil ?_
                                              refine En.next ?_
                                              obtain ⟨j45, hr12, hr11⟩ := bind_some hr11
                                              refine W.join (J := (fun fr w => ∃ (I47 : Mem), fr = [(4, (.bool j45))] ∧ I.Le I47 ∧ St E w I47 Os)) ?restj45 ?waysj45
                                              case waysj45 =>
                                                refine W.cond (b := (sEq p0 (⟨#[42]⟩ : ByteArray))) rfl rfl (fun hc => ?_) (fun hc => ?_)
                                                · replace hr12 := cond_t hc hr12
                                                  refine W.skip ?_
                                                  have he := Option.some.inj hr12
                                                  subst j45
                                                  refine En.weaken (fr' := [(4, (.bool (sEq p0 (⟨#[42]⟩ : ByteArray))))]) (En.round ⟨I, rfl, Mem.Le.refl _, hS⟩) (Sub.cons rfl Sub.nil)
                                                · replace hr12 := cond_f hc hr12
                                                  refine W.seq ?_
                                                  refine W.region (l := [0, 1]) (by kernel_rfl) ?_
                                                  refine WO.vals [(0, 17, (.bool (sEq p0 (⟨#[47]⟩ : ByteArray)))), (1, 4, (.bool (sEq p0 (⟨#[47]⟩ : ByteArray))))] (by kernel_rfl) (fun _ => by kernel_rfl) ?_
                                                  refine WO.nil ?_
                                                  refine En.next ?_
                                                  obtain ⟨j49, hr13, hr12⟩ := bind_some hr12
                                                  refine W.join (J := (fun fr w => ∃ (I51 : Mem), fr = [(4, (.bool j49))] ∧ I.Le I51 ∧ St E w I51 Os)) ?restj49 ?waysj49
                                                  case waysj49 =>
                                                    refine W.cond (b := (sEq p0 (⟨#[47]⟩ : ByteArray))) rfl rfl (fun hc => ?_) (fun hc => ?_)
                                                    · replace hr13 := cond_t hc hr13
                                                      refine W.skip ?_
                                                      have he := Option.some.inj hr13
                                                      subst j49
                                                      refine En.weaken (fr' := [(4, (.bool (sEq p0 (⟨#[47]⟩ : ByteArray))))]) (En.round ⟨I, rfl, Mem.Le.refl _, hS⟩) (Sub.cons rfl Sub.nil)
                                                    · replace hr13 := cond_f hc hr13
                                                      refine W.seq ?_
                                                      refine W.region (l := [0, 1]) (by kernel_rfl) ?_
                                                      refine WO.vals [(0, 18, (.bool (sEq p0 (⟨#[37]⟩ : ByteArray)))), (1, 4, (.bool (sEq p0 (⟨#[37]⟩ : ByteArray))))] (by kernel_rfl) (fun _ => by kernel_rfl) ?_
                                                      refine WO.nil ?_
                                                      refine En.next ?_
                                                      obtain ⟨j53, hr14, hr13⟩ := bind_some hr13
                                                      refine W.join (J := (fun fr w => ∃ (I55 : Mem), fr = [(4, (.bool j53))] ∧ I.Le I55 ∧ St E w I55 Os)) ?restj53 ?waysj53
                                                      case waysj53 =>
                                                        refine W.cond (b := (sEq p0 (⟨#[37]⟩ : ByteArray))) rfl rfl (fun hc => ?_) (fun hc => ?_)
                                                        · replace hr14 := cond_t hc hr14
                                                          refine W.skip ?_
                                                          have he := Option.some.inj hr14
                                                          subst j53
                                                          refine En.weaken (fr' := [(4, (.bool (sEq p0 (⟨#[37]⟩ : ByteArray))))]) (En.round ⟨I, rfl, Mem.Le.refl _, hS⟩) (Sub.cons rfl Sub.nil)
                                                        · replace hr14 := cond_f hc hr14
                                                          refine W.region (l := [0, 1]) (by kernel_rfl) ?_
                                                          refine WO.vals [(0, 19, (.bool (sEq p0 (⟨#[124, 124]⟩ : ByteArray)))), (1, 4, (.bool (sEq p0 (⟨#[124, 124]⟩ : ByteArray))))] (by kernel_rfl) (fun _ => by kernel_rfl) ?_
                                                          refine WO.nil ?_
                                                          have he := Option.some.inj hr14
                                                          subst j53
                                                          refine En.weaken (fr' := [(4, (.bool (sEq p0 (⟨#[124, 124]⟩ : ByteArray))))]) (En.round ⟨I, rfl, Mem.Le.refl _, hS⟩) (Sub.cons rfl Sub.nil)
                                                      case restj53 =>
                                                        rintro _ w57 ⟨I55, rfl, hl56, hS58⟩
                                                        have he := Option.some.inj hr13
                                                        subst j49
                                                        refine En.weaken (fr' := [(4, (.bool j53))]) (En.round ⟨I55, rfl, hl56, hS58⟩) (Sub.cons rfl Sub.nil)
                                                  case restj49 =>
                                                    rintro _ w59 ⟨I51, rfl, hl52, hS60⟩
                                                    have he := Option.some.inj hr12
                                                    subst j45
                                                    refine En.weaken (fr' := [(4, (.bool j49))]) (En.round ⟨I51, rfl, hl52, hS60⟩) (Sub.cons rfl Sub.nil)
                                              case restj45 =>
                                                rintro _ w61 ⟨I47, rfl, hl48, hS62⟩
                                                have he := Option.some.inj hr11
                                                subst j41
                                                refine En.weaken (fr' := [(4, (.bool j45))]) (En.round ⟨I47, rfl, hl48, hS62⟩) (Sub.cons rfl Sub.nil)
                                          case restj41 =>
                                            rintro _ w63 ⟨I43, rfl, hl44, hS64⟩
                                            have he := Option.some.inj hr10
                                            subst j37
                                            refine En.weaken (fr' := [(4, (.bool j41))]) (En.round ⟨I43, rfl, hl44, hS64⟩) (Sub.cons rfl Sub.nil)
                                      case restj37 =>
                                        rintro _ w65 ⟨I39, rfl, hl40, hS66⟩
                                        have he := Option.some.inj hr9
                                        subst j33
                                        refine En.weaken (fr' := [(4, (.bool j37))]) (En.round ⟨I39, rfl, hl40, hS66⟩) (Sub.cons rfl Sub.nil)
                                  case restj33 =>
                                    rintro _ w67 ⟨I35, rfl, hl36, hS68⟩
                                    have he := Option.some.inj hr8
                                    subst j29
                                    refine En.weaken (fr' := [(4, (.bool j33))]) (En.round ⟨I35, rfl, hl36, hS68⟩) (Sub.cons rfl Sub.nil)
                              case restj29 =>
                                rintro _ w69 ⟨I31, rfl, hl32, hS70⟩
                                have he := Option.some.inj hr7
                                subst j25
                                refine En.weaken (fr' := [(4, (.bool j29))]) (En.round ⟨I31, rfl, hl32, hS70⟩) (Sub.cons rfl Sub.nil)
                          case restj25 =>
                            rintro _ w71 ⟨I27, rfl, hl28, hS72⟩
                            have he := Option.some.inj hr6
                            subst j21
                            refine En.weaken (fr' := [(4, (.bool j25))]) (En.round ⟨I27, rfl, hl28, hS72⟩) (Sub.cons rfl Sub.nil)
                      case restj21 =>
                        rintro _ w73 ⟨I23, rfl, hl24, hS74⟩
                        have he := Option.some.inj hr5
                        subst j17
                        refine En.weaken (fr' := [(4, (.bool j21))]) (En.round ⟨I23, rfl, hl24, hS74⟩) (Sub.cons rfl Sub.nil)
                  case restj17 =>
                    rintro _ w75 ⟨I19, rfl, hl20, hS76⟩
                    have he := Option.some.inj hr4
                    subst j13
                    refine En.weaken (fr' := [(4, (.bool j17))]) (En.round ⟨I19, rfl, hl20, hS76⟩) (Sub.cons rfl Sub.nil)
              case restj13 =>
                rintro _ w77 ⟨I15, rfl, hl16, hS78⟩
                have he := Option.some.inj hr3
                subst j9
                refine En.weaken (fr' := [(4, (.bool j13))]) (En.round ⟨I15, rfl, hl16, hS78⟩) (Sub.cons rfl Sub.nil)
          case restj9 =>
            rintro _ w79 ⟨I11, rfl, hl12, hS80⟩
            have he := Option.some.inj hr2
            subst j5
            refine En.weaken (fr' := [(4, (.bool j9))]) (En.round ⟨I11, rfl, hl12, hS80⟩) (Sub.cons rfl Sub.nil)
      case restj5 =>
        rintro _ w81 ⟨I7, rfl, hl8, hS82⟩
        have he := Option.some.inj hr1
        subst j1
        refine En.weaken (fr' := [(4, (.bool j5))]) (En.round ⟨I7, rfl, hl8, hS82⟩) (Sub.cons rfl Sub.nil)
  case restj1 =>
    rintro _ w83 ⟨I3, rfl, hl4, hS84⟩
    refine En.next ?_
    refine W.cond (b := j1) rfl rfl (fun hc => ?_) (fun hc => ?_)
    · replace hr := cond_t hc hr
      refine W.seq ?_
      refine W.region (l := [0]) (by kernel_rfl) ?_
      refine WO.vals [(0, 2, (.bool true))] (by kernel_rfl) (fun _ => by kernel_rfl) ?_
      refine WO.nil ?_
      refine En.next ?_
      refine W.ret ?_
      refine En.in_ret ?_
      refine En.nx_ret ?_
      have he := Option.some.inj hr
      subst r
      exact En.ret1 rfl (.bool true) rfl ⟨I3, rfl, hl4, hS84⟩
    · replace hr := cond_f hc hr
      refine W.skip ?_
      refine En.in_normal ?_
      refine En.next ?_
      refine W.seq ?_
      refine W.region (l := [0]) (by kernel_rfl) ?_
      refine WO.vals [(0, 2, (.bool false))] (by kernel_rfl) (fun _ => by kernel_rfl) ?_
      refine WO.nil ?_
      refine En.next ?_
      refine W.ret ?_
      have he := Option.some.inj hr
      subst r
      exact En.ret1 rfl (.bool false) rfl ⟨I3, rfl, hl4, hS84⟩
noncomputable def registrarref09_Kind (p0 : ByteArray) : Option Int := (bif (sEq p0 (⟨#[]⟩ : ByteArray)) then some 7 else ((bif (decide ((p0.size : Int) ≤ 12)) then (ssub p0 0 1).bind (fun (x5 : ByteArray) => (registrarref09_all x5 0 (⟨#[97, 98, 99, 100, 101, 102, 103, 104, 105, 106, 107, 108, 109, 110, 111, 112, 113, 114, 115, 116, 117, 118, 119, 120, 121, 122]⟩ : ByteArray)).bind (fun (r11 : Bool) => some r11)) else some false)).bind (fun (j1 : Bool) => ((bif j1 then (registrarref09_all p0 1 (⟨#[97, 98, 99, 100, 101, 102, 103, 104, 105, 106, 107, 108, 109, 110, 111, 112, 113, 114, 115, 116, 117, 118, 119, 120, 121, 122, 48, 49, 50, 51, 52, 53, 54, 55, 56, 57, 95]⟩ : ByteArray)).bind (fun (r23 : Bool) => some r23) else some false)).bind (fun (j14 : Bool) => (bif j14 then some 1 else ((bif (decide ((p0.size : Int) ≤ 16)) then (ssub p0 0 1).bind (fun (x30 : ByteArray) => (registrarref09_all x30 0 (⟨#[65, 66, 67, 68, 69, 70, 71, 72, 73, 74, 75, 76, 77, 78, 79, 80, 81, 82, 83, 84, 85, 86, 87, 88, 89, 90]⟩ : ByteArray)).bind (fun (r36 : Bool) => some r36)) else some false)).bind (fun (j26 : Bool) => ((bif j26 then (registrarref09_all p0 1 (⟨#[65, 66, 67, 68, 69, 70, 71, 72, 73, 74, 75, 76, 77, 78, 79, 80, 81, 82, 83, 84, 85, 86, 87, 88, 89, 90, 95]⟩ : ByteArray)).bind (fun (r48 : Bool) => some r48) else some false)).bind (fun (j39 : Bool) => (bif j39 then some 2 else ((bif (decide ((p0.size : Int) ≤ 19)) then (registrarref09_all p0 0 (⟨#[48, 49, 50, 51, 52, 53, 54, 55, 56, 57]⟩ : ByteArray)).bind (fun (r60 : Bool) => some r60) else some false)).bind (fun (j51 : Bool) => ((bif j51 then ((bif (sEq p0 (⟨#[48]⟩ : ByteArray)) then some true else (sAt p0 0).bind (fun (y71 : Int) => some (y71 != 48)))).bind (fun (j67 : Bool) => some j67) else some false)).bind (fun (j63 : Bool) => (bif j63 then some 3 else (registrarref09_quoted p0).bind (fun (r81 : Bool) => (bif r81 then some 4 else ((bif ((p0.size : Int) == 2) then (sAt p0 0).bind (fun (y86 : Int) => some (y86 == 36)) else some false)).bind (fun (j82 : Bool) => ((bif j82 then (sAt p0 1).bind (fun (y93 : Int) => some (decide (y93 ≥ 49))) else some false)).bind (fun (j89 : Bool) => ((bif j89 then (sAt p0 1).bind (fun (y100 : Int) => some (decide (y100 ≤ 54))) else some false)).bind (fun (j96 : Bool) => (bif j96 then some 5 else (registrarref09_sign p0).bind (fun (r108 : Bool) => (bif r108 then some 6 else some 0))))))))))))))))))
set_option maxHeartbeats 1000000 in
theorem registrarref09_Kind_ok {E w : World} {I : Mem} {Os : List Mem} {p0 : ByteArray} (hS : St E w I Os) {r : Int} (hr : registrarref09_Kind p0 = some r) :
    Calls P 55 #[(.string p0)] w (fun e w' => ∃ (I' : Mem), e = .returned (.int .i64 r) ∧ I.Le I' ∧ St E w' I' Os) := by
  refine calls_W (args := [(.string p0)]) (fn := Tryz.f55) rfl rfl rfl ?_
  unfold registrarref09_Kind at hr
  refine W.seq ?_
  refine W.region (l := [0]) (by kernel_rfl) ?_
  refine WO.vals [(0, 2, (.int .i64 0))] (by kernel_rfl) (fun _ => by kernel_rfl) ?_
  refine WO.nil ?_
  refine En.next ?_
  refine W.seq ?_
  refine W.block ?_
  refine W.seq ?_
  refine W.region (l := [0, 1, 2]) (by kernel_rfl) ?_
  refine WO.vals [(0, 4, (.string p0)), (1, 5, (.bool (sEq p0 (⟨#[]⟩ : ByteArray)))), (2, 3, (.bool (sEq p0 (⟨#[]⟩ : ByteArray))))] (by kernel_rfl) (fun _ => by kernel_rfl) ?_
  refine WO.nil ?_
  refine En.next ?_
  refine W.cond (b := (sEq p0 (⟨#[]⟩ : ByteArray))) rfl rfl (fun hc => ?_) (fun hc => ?_)
  · replace hr := cond_t hc hr
    refine W.seq ?_
    refine W.region (l := [0]) (by kernel_rfl) ?_
    refine WO.vals [(0, 2, (.int .i64 7))] (by kernel_rfl) (fun _ => by kernel_rfl) ?_
    refine WO.nil ?_
    refine En.next ?_
    refine W.ret ?_
    refine En.in_ret ?_
    refine En.nx_ret ?_
    have he := Option.some.inj hr
    subst r
    exact En.ret1 rfl (.int .i64 7) rfl ⟨I, rfl, Mem.Le.refl _, hS⟩
  · replace hr := cond_f hc hr
    refine W.seq ?_
    refine W.region (l := [0, 1, 2, 3, 4, 5, 6, 7, 8, 9, 10, 11, 12]) (by kernel_rfl) ?_
    refine WO.vals [(0, 7, (.string p0)), (1, 8, (.int .i64 (p0.size : Int))), (2, 9, (.bool (decide ((p0.size : Int) ≤ 12)))), (3, 10, (.bool (decide ((p0.size : Int) ≤ 12))))] (by kernel_rfl) (fun _ => by kernel_rfl) ?_
    obtain ⟨j1, hr1, hr⟩ := bind_some hr
    refine WO.join (l1 := [4, 5, 6, 7]) (l2 := [8, 9, 10, 11, 12]) (J := (fun fr w => ∃ (I3 : Mem), fr = [(0, (.string p0)), (14, (.bool j1))] ∧ I.Le I3 ∧ St E w I3 Os)) ?restj1 ?waysj1
    case waysj1 =>
      refine WO.caseb (decide ((p0.size : Int) ≤ 12)) (fun hc => ?_) (fun hc => ?_)
      · replace hr1 := cond_t hc hr1
        refine WO.reslot 10 rfl (show Value.bool (decide ((p0.size : Int) ≤ 12)) = Value.bool true by rw [hc]) ?_
        refine WO.vals [(4, 11, (.string p0))] (by kernel_rfl) (fun _ => by kernel_rfl) ?_
        obtain ⟨x5, hx_x5, hr1⟩ := bind_some hr1
        refine WO.sliceS rfl (by kernel_rfl) (by kernel_rfl) rfl (0 : Int) (1 : Int) (.inl ⟨rfl, rfl⟩) (.inr ⟨_, _, rfl, rfl⟩) hx_x5 ?_
        obtain ⟨r11, hx_r6, hr1⟩ := bind_some hr1
        refine WO.call rfl (by kernel_rfl) rfl (f := 70) (args := #[(.string x5), (.int .i64 0), (.string (⟨#[97, 98, 99, 100, 101, 102, 103, 104, 105, 106, 107, 108, 109, 110, 111, 112, 113, 114, 115, 116, 117, 118, 119, 120, 121, 122]⟩ : ByteArray))]) (by kernel_rfl) (registrarref09_all_ok  hS hx_r6) ?_
        rintro _ w7 ⟨I8, rfl, hl9, hS10⟩
        refine ⟨_, rfl, trivial, ?_⟩
        refine WO.vals [(7, 14, (.bool r11))] (by kernel_rfl) (fun _ => by kernel_rfl) ?_
        have he := Option.some.inj hr1
        subst j1
        refine WO.weaken (fr' := [(0, (.string p0)), (14, (.bool r11))]) (WO.meet ⟨I8, rfl, hl9, hS10⟩) (Sub.cons rfl (Sub.cons rfl Sub.nil))
      · replace hr1 := cond_f hc hr1
        refine WO.reslot 10 rfl (show Value.bool (decide ((p0.size : Int) ≤ 12)) = Value.bool false by rw [hc]) ?_
        refine WO.pass rfl (by kernel_rfl) rfl ?_
        refine WO.pass rfl (by kernel_rfl) rfl ?_
        refine WO.pass rfl (by kernel_rfl) rfl ?_
        refine WO.vals [(7, 14, (.bool false))] (by kernel_rfl) (fun _ => by kernel_rfl) ?_
        have he := Option.some.inj hr1
        subst j1
        refine WO.weaken (fr' := [(0, (.string p0)), (14, (.bool false))]) (WO.meet ⟨I, rfl, Mem.Le.refl _, hS⟩) (Sub.cons rfl (Sub.cons rfl Sub.nil))
    case restj1 =>
      rintro _ w12 ⟨I3, rfl, hl4, hS13⟩
      refine WO.vals [(8, 15, (.bool j1))] (by kernel_rfl) (fun _ => by kernel_rfl) ?_
      obtain ⟨j14, hr1, hr⟩ := bind_some hr
      refine WO.join (l1 := [9, 10, 11]) (l2 := [12]) (J := (fun fr w => ∃ (I16 : Mem), fr = [(0, (.string p0)), (18, (.bool j14))] ∧ I3.Le I16 ∧ St E w I16 Os)) ?restj14 ?waysj14
      case waysj14 =>
        refine WO.caseb j1 (fun hc => ?_) (fun hc => ?_)
        · replace hr1 := cond_t hc hr1
          refine WO.reslot 15 rfl (show Value.bool j1 = Value.bool true by rw [hc]) ?_
          refine WO.vals [(9, 16, (.string p0))] (by kernel_rfl) (fun _ => by kernel_rfl) ?_
          obtain ⟨r23, hx_r18, hr1⟩ := bind_some hr1
          refine WO.call rfl (by kernel_rfl) rfl (f := 70) (args := #[(.string p0), (.int .i64 1), (.string (⟨#[97, 98, 99, 100, 101, 102, 103, 104, 105, 106, 107, 108, 109, 110, 111, 112, 113, 114, 115, 116, 117, 118, 119, 120, 121, 122, 48, 49, 50, 51, 52, 53, 54, 55, 56, 57, 95]⟩ : ByteArray))]) (by kernel_rfl) (registrarref09_all_ok  hS13 hx_r18) ?_
          rintro _ w19 ⟨I20, rfl, hl21, hS22⟩
          refine ⟨_, rfl, trivial, ?_⟩
          refine WO.vals [(11, 18, (.bool r23))] (by kernel_rfl) (fun _ => by kernel_rfl) ?_
          have he := Option.some.inj hr1
          subst j14
          refine WO.weaken (fr' := [(0, (.string p0)), (18, (.bool r23))]) (WO.meet ⟨I20, rfl, hl21, hS22⟩) (Sub.cons rfl (Sub.cons rfl Sub.nil))
        · replace hr1 := cond_f hc hr1
          refine WO.reslot 15 rfl (show Value.bool j1 = Value.bool false by rw [hc]) ?_
          refine WO.pass rfl (by kernel_rfl) rfl ?_
          refine WO.pass rfl (by kernel_rfl) rfl ?_
          refine WO.vals [(11, 18, (.bool false))] (by kernel_rfl) (fun _ => by kernel_rfl) ?_
          have he := Option.some.inj hr1
          subst j14
          refine WO.weaken (fr' := [(0, (.string p0)), (18, (.bool false))]) (WO.meet ⟨I3, rfl, Mem.Le.refl _, hS13⟩) (Sub.cons rfl (Sub.cons rfl Sub.nil))
      case restj14 =>
        rintro _ w24 ⟨I16, rfl, hl17, hS25⟩
        refine WO.vals [(12, 6, (.bool j14))] (by kernel_rfl) (fun _ => by kernel_rfl) ?_
        refine WO.nil ?_
        refine En.next ?_
        refine W.cond (b := j14) rfl rfl (fun hc => ?_) (fun hc => ?_)
        · replace hr := cond_t hc hr
          refine W.seq ?_
          refine W.region (l := [0]) (by kernel_rfl) ?_
          refine WO.vals [(0, 2, (.int .i64 1))] (by kernel_rfl) (fun _ => by kernel_rfl) ?_
          refine WO.nil ?_
          refine En.next ?_
          refine W.ret ?_
          refine En.in_ret ?_
          refine En.nx_ret ?_
          have he := Option.some.inj hr
          subst r
          exact En.ret1 rfl (.int .i64 1) rfl ⟨I16, rfl, (hl4.trans hl17), hS25⟩
        · replace hr := cond_f hc hr
          refine W.seq ?_
          refine W.region (l := [0, 1, 2, 3, 4, 5, 6, 7, 8, 9, 10, 11, 12]) (by kernel_rfl) ?_
          refine WO.vals [(0, 20, (.string p0)), (1, 21, (.int .i64 (p0.size : Int))), (2, 22, (.bool (decide ((p0.size : Int) ≤ 16)))), (3, 23, (.bool (decide ((p0.size : Int) ≤ 16))))] (by kernel_rfl) (fun _ => by kernel_rfl) ?_
          obtain ⟨j26, hr1, hr⟩ := bind_some hr
          refine WO.join (l1 := [4, 5, 6, 7]) (l2 := [8, 9, 10, 11, 12]) (J := (fun fr w => ∃ (I28 : Mem), fr = [(0, (.string p0)), (27, (.bool j26))] ∧ I16.Le I28 ∧ St E w I28 Os)) ?restj26 ?waysj26
          case waysj26 =>
            refine WO.caseb (decide ((p0.size : Int) ≤ 16)) (fun hc => ?_) (fun hc => ?_)
            · replace hr1 := cond_t hc hr1
              refine WO.reslot 23 rfl (show Value.bool (decide ((p0.size : Int) ≤ 16)) = Value.bool true by rw [hc]) ?_
              refine WO.vals [(4, 24, (.string p0))] (by kernel_rfl) (fun _ => by kernel_rfl) ?_
              obtain ⟨x30, hx_x30, hr1⟩ := bind_some hr1
              refine WO.sliceS rfl (by kernel_rfl) (by kernel_rfl) rfl (0 : Int) (1 : Int) (.inl ⟨rfl, rfl⟩) (.inr ⟨_, _, rfl, rfl⟩) hx_x30 ?_
              obtain ⟨r36, hx_r31, hr1⟩ := bind_some hr1
              refine WO.call rfl (by kernel_rfl) rfl (f := 70) (args := #[(.string x30), (.int .i64 0), (.string (⟨#[65, 66, 67, 68, 69, 70, 71, 72, 73, 74, 75, 76, 77, 78, 79, 80, 81, 82, 83, 84, 85, 86, 87, 88, 89, 90]⟩ : ByteArray))]) (by kernel_rfl) (registrarref09_all_ok  hS25 hx_r31) ?_
              rintro _ w32 ⟨I33, rfl, hl34, hS35⟩
              refine ⟨_, rfl, trivial, ?_⟩
              refine WO.vals [(7, 27, (.bool r36))] (by kernel_rfl) (fun _ => by kernel_rfl) ?_
              have he := Option.some.inj hr1
              subst j26
              refine WO.weaken (fr' := [(0, (.string p0)), (27, (.bool r36))]) (WO.meet ⟨I33, rfl, hl34, hS35⟩) (Sub.cons rfl (Sub.cons rfl Sub.nil))
            · replace hr1 := cond_f hc hr1
              refine WO.reslot 23 rfl (show Value.bool (decide ((p0.size : Int) ≤ 16)) = Value.bool false by rw [hc]) ?_
              refine WO.pass rfl (by kernel_rfl) rfl ?_
              refine WO.pass rfl (by kernel_rfl) rfl ?_
              refine WO.pass rfl (by kernel_rfl) rfl ?_
              refine WO.vals [(7, 27, (.bool false))] (by kernel_rfl) (fun _ => by kernel_rfl) ?_
              have he := Option.some.inj hr1
              subst j26
              refine WO.weaken (fr' := [(0, (.string p0)), (27, (.bool false))]) (WO.meet ⟨I16, rfl, Mem.Le.refl _, hS25⟩) (Sub.cons rfl (Sub.cons rfl Sub.nil))
          case restj26 =>
            rintro _ w37 ⟨I28, rfl, hl29, hS38⟩
            refine WO.vals [(8, 28, (.bool j26))] (by kernel_rfl) (fun _ => by kernel_rfl) ?_
            obtain ⟨j39, hr1, hr⟩ := bind_some hr
            refine WO.join (l1 := [9, 10, 11]) (l2 := [12]) (J := (fun fr w => ∃ (I41 : Mem), fr = [(0, (.string p0)), (31, (.bool j39))] ∧ I28.Le I41 ∧ St E w I41 Os)) ?restj39 ?waysj39
            case waysj39 =>
              refine WO.caseb j26 (fun hc => ?_) (fun hc => ?_)
              · replace hr1 := cond_t hc hr1
                refine WO.reslot 28 rfl (show Value.bool j26 = Value.bool true by rw [hc]) ?_
                refine WO.vals [(9, 29, (.string p0))] (by kernel_rfl) (fun _ => by kernel_rfl) ?_
                obtain ⟨r48, hx_r43, hr1⟩ := bind_some hr1
                refine WO.call rfl (by kernel_rfl) rfl (f := 70) (args := #[(.string p0), (.int .i64 1), (.string (⟨#[65, 66, 67, 68, 69, 70, 71, 72, 73, 74, 75, 76, 77, 78, 79, 80, 81, 82, 83, 84, 85, 86, 87, 88, 89, 90, 95]⟩ : ByteArray))]) (by kernel_rfl) (registrarref09_all_ok  hS38 hx_r43) ?_
                rintro _ w44 ⟨I45, rfl, hl46, hS47⟩
                refine ⟨_, rfl, trivial, ?_⟩
                refine WO.vals [(11, 31, (.bool r48))] (by kernel_rfl) (fun _ => by kernel_rfl) ?_
                have he := Option.some.inj hr1
                subst j39
                refine WO.weaken (fr' := [(0, (.string p0)), (31, (.bool r48))]) (WO.meet ⟨I45, rfl, hl46, hS47⟩) (Sub.cons rfl (Sub.cons rfl Sub.nil))
              · replace hr1 := cond_f hc hr1
                refine WO.reslot 28 rfl (show Value.bool j26 = Value.bool false by rw [hc]) ?_
                refine WO.pass rfl (by kernel_rfl) rfl ?_
                refine WO.pass rfl (by kernel_rfl) rfl ?_
                refine WO.vals [(11, 31, (.bool false))] (by kernel_rfl) (fun _ => by kernel_rfl) ?_
                have he := Option.some.inj hr1
                subst j39
                refine WO.weaken (fr' := [(0, (.string p0)), (31, (.bool false))]) (WO.meet ⟨I28, rfl, Mem.Le.refl _, hS38⟩) (Sub.cons rfl (Sub.cons rfl Sub.nil))
            case restj39 =>
              rintro _ w49 ⟨I41, rfl, hl42, hS50⟩
              refine WO.vals [(12, 19, (.bool j39))] (by kernel_rfl) (fun _ => by kernel_rfl) ?_
              refine WO.nil ?_
              refine En.next ?_
              refine W.cond (b := j39) rfl rfl (fun hc => ?_) (fun hc => ?_)
              · replace hr := cond_t hc hr
                refine W.seq ?_
                refine W.region (l := [0]) (by kernel_rfl) ?_
                refine WO.vals [(0, 2, (.int .i64 2))] (by kernel_rfl) (fun _ => by kernel_rfl) ?_
                refine WO.nil ?_
                refine En.next ?_
                refine W.ret ?_
                refine En.in_ret ?_
                refine En.nx_ret ?_
                have he := Option.some.inj hr
                subst r
                exact En.ret1 rfl (.int .i64 2) rfl ⟨I41, rfl, (((hl4.trans hl17).trans hl29).trans hl42), hS50⟩
              · replace hr := cond_f hc hr
                refine W.seq ?_
                refine W.region (l := [0, 1, 2, 3, 4, 5, 6, 7, 8, 9, 10, 11, 12, 13, 14, 15, 16]) (by kernel_rfl) ?_
                refine WO.vals [(0, 33, (.string p0)), (1, 34, (.int .i64 (p0.size : Int))), (2, 35, (.bool (decide ((p0.size : Int) ≤ 19)))), (3, 36, (.bool (decide ((p0.size : Int) ≤ 19))))] (by kernel_rfl) (fun _ => by kernel_rfl) ?_
                obtain ⟨j51, hr1, hr⟩ := bind_some hr
                refine WO.join (l1 := [4, 5, 6]) (l2 := [7, 8, 9, 10, 11, 12, 13, 14, 15, 16]) (J := (fun fr w => ∃ (I53 : Mem), fr = [(0, (.string p0)), (39, (.bool j51))] ∧ I41.Le I53 ∧ St E w I53 Os)) ?restj51 ?waysj51
                case waysj51 =>
                  refine WO.caseb (decide ((p0.size : Int) ≤ 19)) (fun hc => ?_) (fun hc => ?_)
                  · replace hr1 := cond_t hc hr1
                    refine WO.reslot 36 rfl (show Value.bool (decide ((p0.size : Int) ≤ 19)) = Value.bool true by rw [hc]) ?_
                    refine WO.vals [(4, 37, (.string p0))] (by kernel_rfl) (fun _ => by kernel_rfl) ?_
                    obtain ⟨r60, hx_r55, hr1⟩ := bind_some hr1
                    refine WO.call rfl (by kernel_rfl) rfl (f := 70) (args := #[(.string p0), (.int .i64 0), (.string (⟨#[48, 49, 50, 51, 52, 53, 54, 55, 56, 57]⟩ : ByteArray))]) (by kernel_rfl) (registrarref09_all_ok  hS50 hx_r55) ?_
                    rintro _ w56 ⟨I57, rfl, hl58, hS59⟩
                    refine ⟨_, rfl, trivial, ?_⟩
                    refine WO.vals [(6, 39, (.bool r60))] (by kernel_rfl) (fun _ => by kernel_rfl) ?_
                    have he := Option.some.inj hr1
                    subst j51
                    refine WO.weaken (fr' := [(0, (.string p0)), (39, (.bool r60))]) (WO.meet ⟨I57, rfl, hl58, hS59⟩) (Sub.cons rfl (Sub.cons rfl Sub.nil))
                  · replace hr1 := cond_f hc hr1
                    refine WO.reslot 36 rfl (show Value.bool (decide ((p0.size : Int) ≤ 19)) = Value.bool false by rw [hc]) ?_
                    refine WO.pass rfl (by kernel_rfl) rfl ?_
                    refine WO.pass rfl (by kernel_rfl) rfl ?_
                    refine WO.vals [(6, 39, (.bool false))] (by kernel_rfl) (fun _ => by kernel_rfl) ?_
                    have he := Option.some.inj hr1
                    subst j51
                    refine WO.weaken (fr' := [(0, (.string p0)), (39, (.bool false))]) (WO.meet ⟨I41, rfl, Mem.Le.refl _, hS50⟩) (Sub.cons rfl (Sub.cons rfl Sub.nil))
                case restj51 =>
                  rintro _ w61 ⟨I53, rfl, hl54, hS62⟩
                  refine WO.vals [(7, 40, (.bool j51))] (by kernel_rfl) (fun _ => by kernel_rfl) ?_
                  obtain ⟨j63, hr1, hr⟩ := bind_some hr
                  refine WO.join (l1 := [8, 9, 10, 11, 12, 13, 14, 15]) (l2 := [16]) (J := (fun fr w => ∃ (I65 : Mem), fr = [(0, (.string p0)), (48, (.bool j63))] ∧ I53.Le I65 ∧ St E w I65 Os)) ?restj63 ?waysj63
                  case waysj63 =>
                    refine WO.caseb j51 (fun hc => ?_) (fun hc => ?_)
                    · replace hr1 := cond_t hc hr1
                      refine WO.reslot 40 rfl (show Value.bool j51 = Value.bool true by rw [hc]) ?_
                      refine WO.vals [(8, 41, (.string p0)), (9, 42, (.bool (sEq p0 (⟨#[48]⟩ : ByteArray)))), (10, 43, (.bool (sEq p0 (⟨#[48]⟩ : ByteArray))))] (by kernel_rfl) (fun _ => by kernel_rfl) ?_
                      obtain ⟨j67, hr2, hr1⟩ := bind_some hr1
                      refine WO.join (l1 := [11, 12, 13, 14]) (l2 := [15]) (J := (fun fr w => ∃ (I69 : Mem), fr = [(0, (.string p0)), (40, (.bool true)), (47, (.bool j67))] ∧ I53.Le I69 ∧ St E w I69 Os)) ?restj67 ?waysj67
                      case waysj67 =>
                        refine WO.caseb (sEq p0 (⟨#[48]⟩ : ByteArray)) (fun hc => ?_) (fun hc => ?_)
                        · replace hr2 := cond_t hc hr2
                          refine WO.reslot 43 rfl (show Value.bool (sEq p0 (⟨#[48]⟩ : ByteArray)) = Value.bool true by rw [hc]) ?_
                          refine WO.pass rfl (by kernel_rfl) rfl ?_
                          refine WO.pass rfl (by kernel_rfl) rfl ?_
                          refine WO.pass rfl (by kernel_rfl) rfl ?_
                          refine WO.vals [(14, 47, (.bool true))] (by kernel_rfl) (fun _ => by kernel_rfl) ?_
                          have he := Option.some.inj hr2
                          subst j67
                          refine WO.weaken (fr' := [(0, (.string p0)), (40, (.bool true)), (47, (.bool true))]) (WO.meet ⟨I53, rfl, Mem.Le.refl _, hS62⟩) (Sub.cons rfl (Sub.cons rfl (Sub.cons rfl Sub.nil)))
                        · replace hr2 := cond_f hc hr2
                          refine WO.reslot 43 rfl (show Value.bool (sEq p0 (⟨#[48]⟩ : ByteArray)) = Value.bool false by rw [hc]) ?_
                          refine WO.vals [(11, 44, (.string p0))] (by kernel_rfl) (fun _ => by kernel_rfl) ?_
                          obtain ⟨y71, hx_y71, hr2⟩ := bind_some hr2
                          refine WO.indexStr rfl (by kernel_rfl) (by kernel_rfl) rfl rfl hx_y71 ?_
                          refine WO.vals [(13, 46, (.bool (y71 != 48))), (14, 47, (.bool (y71 != 48)))] (by kernel_rfl) (fun _ => by kernel_rfl) ?_
                          have he := Option.some.inj hr2
                          subst j67
                          refine WO.weaken (fr' := [(0, (.string p0)), (40, (.bool true)), (47, (.bool (y71 != 48)))]) (WO.meet ⟨I53, rfl, Mem.Le.refl _, hS62⟩) (Sub.cons rfl (Sub.cons rfl (Sub.cons rfl Sub.nil)))
                      case restj67 =>
                        rintro _ w72 ⟨I69, rfl, hl70, hS73⟩
                        refine WO.vals [(15, 48, (.bool j67))] (by kernel_rfl) (fun _ => by kernel_rfl) ?_
                        have he := Option.some.inj hr1
                        subst j63
                        refine WO.weaken (fr' := [(0, (.string p0)), (48, (.bool j67))]) (WO.meet ⟨I69, rfl, hl70, hS73⟩) (Sub.cons rfl (Sub.cons rfl Sub.nil))
                    · replace hr1 := cond_f hc hr1
                      refine WO.reslot 40 rfl (show Value.bool j51 = Value.bool false by rw [hc]) ?_
                      refine WO.pass rfl (by kernel_rfl) rfl ?_
                      refine WO.pass rfl (by kernel_rfl) rfl ?_
                      refine WO.pass rfl (by kernel_rfl) rfl ?_
                      refine WO.pass rfl (by kernel_rfl) rfl ?_
                      refine WO.pass rfl (by kernel_rfl) rfl ?_
                      refine WO.pass rfl (by kernel_rfl) rfl ?_
                      refine WO.pass rfl (by kernel_rfl) rfl ?_
                      refine WO.vals [(15, 48, (.bool false))] (by kernel_rfl) (fun _ => by kernel_rfl) ?_
                      have he := Option.some.inj hr1
                      subst j63
                      refine WO.weaken (fr' := [(0, (.string p0)), (48, (.bool false))]) (WO.meet ⟨I53, rfl, Mem.Le.refl _, hS62⟩) (Sub.cons rfl (Sub.cons rfl Sub.nil))
                  case restj63 =>
                    rintro _ w74 ⟨I65, rfl, hl66, hS75⟩
                    refine WO.vals [(16, 32, (.bool j63))] (by kernel_rfl) (fun _ => by kernel_rfl) ?_
                    refine WO.nil ?_
                    refine En.next ?_
                    refine W.cond (b := j63) rfl rfl (fun hc => ?_) (fun hc => ?_)
                    · replace hr := cond_t hc hr
                      refine W.seq ?_
                      refine W.region (l := [0]) (by kernel_rfl) ?_
                      refine WO.vals [(0, 2, (.int .i64 3))] (by kernel_rfl) (fun _ => by kernel_rfl) ?_
                      refine WO.nil ?_
                      refine En.next ?_
                      refine W.ret ?_
                      refine En.in_ret ?_
                      refine En.nx_ret ?_
                      have he := Option.some.inj hr
                      subst r
                      exact En.ret1 rfl (.int .i64 3) rfl ⟨I65, rfl, (((((hl4.trans hl17).trans hl29).trans hl42).trans hl54).trans hl66), hS75⟩
                    · replace hr := cond_f hc hr
                      refine W.seq ?_
                      refine W.region (l := [0, 1, 2]) (by kernel_rfl) ?_
                      refine WO.vals [(0, 50, (.string p0))] (by kernel_rfl) (fun _ => by kernel_rfl) ?_
                      obtain ⟨r81, hx_r76, hr⟩ := bind_some hr
                      refine WO.call rfl (by kernel_rfl) rfl (f := 71) (args := #[(.string p0)]) (by kernel_rfl) (registrarref09_quoted_ok  hS75 hx_r76) ?_
                      rintro _ w77 ⟨I78, rfl, hl79, hS80⟩
                      refine ⟨_, rfl, trivial, ?_⟩
                      refine WO.vals [(2, 49, (.bool r81))] (by kernel_rfl) (fun _ => by kernel_rfl) ?_
                      refine WO.nil ?_
                      refine En.next ?_
                      refine W.cond (b := r81) rfl rfl (fun hc => ?_) (fun hc => ?_)
                      · replace hr := cond_t hc hr
                        refine W.seq ?_
                        refine W.region (l := [0]) (by kernel_rfl) ?_
                        refine WO.vals [(0, 2, (.int .i64 4))] (by kernel_rfl) (fun _ => by kernel_rfl) ?_
                        refine WO.nil ?_
                        refine En.next ?_
                        refine W.ret ?_
                        refine En.in_ret ?_
                        refine En.nx_ret ?_
                        have he := Option.some.inj hr
                        subst r
                        exact En.ret1 rfl (.int .i64 4) rfl ⟨I78, rfl, ((((((hl4.trans hl17).trans hl29).trans hl42).trans hl54).trans hl66).trans hl79), hS80⟩
                      · replace hr := cond_f hc hr
                        refine W.seq ?_
                        refine W.region (l := [0, 1, 2, 3, 4, 5, 6, 7, 8, 9, 10, 11, 12, 13, 14, 15, 16, 17, 18]) (by kernel_rfl) ?_
                        refine WO.vals [(0, 53, (.string p0)), (1, 54, (.int .i64 (p0.size : Int))), (2, 55, (.bool ((p0.size : Int) == 2))), (3, 56, (.bool ((p0.size : Int) == 2)))] (by kernel_rfl) (fun _ => by kernel_rfl) ?_
                        obtain ⟨j82, hr1, hr⟩ := bind_some hr
                        refine WO.join (l1 := [4, 5, 6, 7]) (l2 := [8, 9, 10, 11, 12, 13, 14, 15, 16, 17, 18]) (J := (fun fr w => ∃ (I84 : Mem), fr = [(0, (.string p0)), (60, (.bool j82))] ∧ I78.Le I84 ∧ St E w I84 Os)) ?restj82 ?waysj82
                        case waysj82 =>
                          refine WO.caseb ((p0.size : Int) == 2) (fun hc => ?_) (fun hc => ?_)
                          · replace hr1 := cond_t hc hr1
                            refine WO.reslot 56 rfl (show Value.bool ((p0.size : Int) == 2) = Value.bool true by rw [hc]) ?_
                            refine WO.vals [(4, 57, (.string p0))] (by kernel_rfl) (fun _ => by kernel_rfl) ?_
                            obtain ⟨y86, hx_y86, hr1⟩ := bind_some hr1
                            refine WO.indexStr rfl (by kernel_rfl) (by kernel_rfl) rfl rfl hx_y86 ?_
                            refine WO.vals [(6, 59, (.bool (y86 == 36))), (7, 60, (.bool (y86 == 36)))] (by kernel_rfl) (fun _ => by kernel_rfl) ?_
                            have he := Option.some.inj hr1
                            subst j82
                            refine WO.weaken (fr' := [(0, (.string p0)), (60, (.bool (y86 == 36)))]) (WO.meet ⟨I78, rfl, Mem.Le.refl _, hS80⟩) (Sub.cons rfl (Sub.cons rfl Sub.nil))
                          · replace hr1 := cond_f hc hr1
                            refine WO.reslot 56 rfl (show Value.bool ((p0.size : Int) == 2) = Value.bool false by rw [hc]) ?_
                            refine WO.pass rfl (by kernel_rfl) rfl ?_
                            refine WO.pass rfl (by kernel_rfl) rfl ?_
                            refine WO.pass rfl (by kernel_rfl) rfl ?_
                            refine WO.vals [(7, 60, (.bool false))] (by kernel_rfl) (fun _ => by kernel_rfl) ?_
                            have he := Option.some.inj hr1
                            subst j82
                            refine WO.weaken (fr' := [(0, (.string p0)), (60, (.bool false))]) (WO.meet ⟨I78, rfl, Mem.Le.refl _, hS80⟩) (Sub.cons rfl (Sub.cons rfl Sub.nil))
                        case restj82 =>
                          rintro _ w87 ⟨I84, rfl, hl85, hS88⟩
                          refine WO.vals [(8, 61, (.bool j82))] (by kernel_rfl) (fun _ => by kernel_rfl) ?_
                          obtain ⟨j89, hr1, hr⟩ := bind_some hr
                          refine WO.join (l1 := [9, 10, 11, 12]) (l2 := [13, 14, 15, 16, 17, 18]) (J := (fun fr w => ∃ (I91 : Mem), fr = [(0, (.string p0)), (65, (.bool j89))] ∧ I84.Le I91 ∧ St E w I91 Os)) ?restj89 ?waysj89
                          case waysj89 =>
                            refine WO.caseb j82 (fun hc => ?_) (fun hc => ?_)
                            · replace hr1 := cond_t hc hr1
                              refine WO.reslot 61 rfl (show Value.bool j82 = Value.bool true by rw [hc]) ?_
                              refine WO.vals [(9, 62, (.string p0))] (by kernel_rfl) (fun _ => by kernel_rfl) ?_
                              obtain ⟨y93, hx_y93, hr1⟩ := bind_some hr1
                              refine WO.indexStr rfl (by kernel_rfl) (by kernel_rfl) rfl rfl hx_y93 ?_
                              refine WO.vals [(11, 64, (.bool (decide (y93 ≥ 49)))), (12, 65, (.bool (decide (y93 ≥ 49))))] (by kernel_rfl) (fun _ => by kernel_rfl) ?_
                              have he := Option.some.inj hr1
                              subst j89
                              refine WO.weaken (fr' := [(0, (.string p0)), (65, (.bool (decide (y93 ≥ 49))))]) (WO.meet ⟨I84, rfl, Mem.Le.refl _, hS88⟩) (Sub.cons rfl (Sub.cons rfl Sub.nil))
                            · replace hr1 := cond_f hc hr1
                              refine WO.reslot 61 rfl (show Value.bool j82 = Value.bool false by rw [hc]) ?_
                              refine WO.pass rfl (by kernel_rfl) rfl ?_
                              refine WO.pass rfl (by kernel_rfl) rfl ?_
                              refine WO.pass rfl (by kernel_rfl) rfl ?_
                              refine WO.vals [(12, 65, (.bool false))] (by kernel_rfl) (fun _ => by kernel_rfl) ?_
                              have he := Option.some.inj hr1
                              subst j89
                              refine WO.weaken (fr' := [(0, (.string p0)), (65, (.bool false))]) (WO.meet ⟨I84, rfl, Mem.Le.refl _, hS88⟩) (Sub.cons rfl (Sub.cons rfl Sub.nil))
                          case restj89 =>
                            rintro _ w94 ⟨I91, rfl, hl92, hS95⟩
                            refine WO.vals [(13, 66, (.bool j89))] (by kernel_rfl) (fun _ => by kernel_rfl) ?_
                            obtain ⟨j96, hr1, hr⟩ := bind_some hr
                            refine WO.join (l1 := [14, 15, 16, 17]) (l2 := [18]) (J := (fun fr w => ∃ (I98 : Mem), fr = [(0, (.string p0)), (70, (.bool j96))] ∧ I91.Le I98 ∧ St E w I98 Os)) ?restj96 ?waysj96
                            case waysj96 =>
                              refine WO.caseb j89 (fun hc => ?_) (fun hc => ?_)
                              · replace hr1 := cond_t hc hr1
                                refine WO.reslot 66 rfl (show Value.bool j89 = Value.bool true by rw [hc]) ?_
                                refine WO.vals [(14, 67, (.string p0))] (by kernel_rfl) (fun _ => by kernel_rfl) ?_
                                obtain ⟨y100, hx_y100, hr1⟩ := bind_some hr1
                                refine WO.indexStr rfl (by kernel_rfl) (by kernel_rfl) rfl rfl hx_y100 ?_
                                refine WO.vals [(16, 69, (.bool (decide (y100 ≤ 54)))), (17, 70, (.bool (decide (y100 ≤ 54))))] (by kernel_rfl) (fun _ => by kernel_rfl) ?_
                                have he := Option.some.inj hr1
                                subst j96
                                refine WO.weaken (fr' := [(0, (.string p0)), (70, (.bool (decide (y100 ≤ 54))))]) (WO.meet ⟨I91, rfl, Mem.Le.refl _, hS95⟩) (Sub.cons rfl (Sub.cons rfl Sub.nil))
                              · replace hr1 := cond_f hc hr1
                                refine WO.reslot 66 rfl (show Value.bool j89 = Value.bool false by rw [hc]) ?_
                                refine WO.pass rfl (by kernel_rfl) rfl ?_
                                refine WO.pass rfl (by kernel_rfl) rfl ?_
                                refine WO.pass rfl (by kernel_rfl) rfl ?_
                                refine WO.vals [(17, 70, (.bool false))] (by kernel_rfl) (fun _ => by kernel_rfl) ?_
                                have he := Option.some.inj hr1
                                subst j96
                                refine WO.weaken (fr' := [(0, (.string p0)), (70, (.bool false))]) (WO.meet ⟨I91, rfl, Mem.Le.refl _, hS95⟩) (Sub.cons rfl (Sub.cons rfl Sub.nil))
                            case restj96 =>
                              rintro _ w101 ⟨I98, rfl, hl99, hS102⟩
                              refine WO.vals [(18, 52, (.bool j96))] (by kernel_rfl) (fun _ => by kernel_rfl) ?_
                              refine WO.nil ?_
                              refine En.next ?_
                              refine W.cond (b := j96) rfl rfl (fun hc => ?_) (fun hc => ?_)
                              · replace hr := cond_t hc hr
                                refine W.seq ?_
                                refine W.region (l := [0]) (by kernel_rfl) ?_
                                refine WO.vals [(0, 2, (.int .i64 5))] (by kernel_rfl) (fun _ => by kernel_rfl) ?_
                                refine WO.nil ?_
                                refine En.next ?_
                                refine W.ret ?_
                                refine En.in_ret ?_
                                refine En.nx_ret ?_
                                have he := Option.some.inj hr
                                subst r
                                exact En.ret1 rfl (.int .i64 5) rfl ⟨I98, rfl, (((((((((hl4.trans hl17).trans hl29).trans hl42).trans hl54).trans hl66).trans hl79).trans hl85).trans hl92).trans hl99), hS102⟩
                              · replace hr := cond_f hc hr
                                refine W.seq ?_
                                refine W.region (l := [0, 1, 2]) (by kernel_rfl) ?_
                                refine WO.vals [(0, 72, (.string p0))] (by kernel_rfl) (fun _ => by kernel_rfl) ?_
                                obtain ⟨r108, hx_r103, hr⟩ := bind_some hr
                                refine WO.call rfl (by kernel_rfl) rfl (f := 72) (args := #[(.string p0)]) (by kernel_rfl) (registrarref09_sign_ok  hS102 hx_r103) ?_
                                rintro _ w104 ⟨I105, rfl, hl106, hS107⟩
                                refine ⟨_, rfl, trivial, ?_⟩
                                refine WO.vals [(2, 71, (.bool r108))] (by kernel_rfl) (fun _ => by kernel_rfl) ?_
                                refine WO.nil ?_
                                refine En.next ?_
                                refine W.cond (b := r108) rfl rfl (fun hc => ?_) (fun hc => ?_)
                                · replace hr := cond_t hc hr
                                  refine W.seq ?_
                                  refine W.region (l := [0]) (by kernel_rfl) ?_
                                  refine WO.vals [(0, 2, (.int .i64 6))] (by kernel_rfl) (fun _ => by kernel_rfl) ?_
                                  refine WO.nil ?_
                                  refine En.next ?_
                                  refine W.ret ?_
                                  refine En.in_ret ?_
                                  refine En.nx_ret ?_
                                  have he := Option.some.inj hr
                                  subst r
                                  exact En.ret1 rfl (.int .i64 6) rfl ⟨I105, rfl, ((((((((((hl4.trans hl17).trans hl29).trans hl42).trans hl54).trans hl66).trans hl79).trans hl85).trans hl92).trans hl99).trans hl106), hS107⟩
                                · replace hr := cond_f hc hr
                                  refine W.skip ?_
                                  refine En.in_normal ?_
                                  refine En.next ?_
                                  refine W.seq ?_
                                  refine W.region (l := [0]) (by kernel_rfl) ?_
                                  refine WO.vals [(0, 2, (.int .i64 0))] (by kernel_rfl) (fun _ => by kernel_rfl) ?_
                                  refine WO.nil ?_
                                  refine En.next ?_
                                  refine W.ret ?_
                                  have he := Option.some.inj hr
                                  subst r
                                  exact En.ret1 rfl (.int .i64 0) rfl ⟨I105, rfl, ((((((((((hl4.trans hl17).trans hl29).trans hl42).trans hl54).trans hl66).trans hl79).trans hl85).trans hl92).trans hl99).trans hl106), hS107⟩
noncomputable def registrarref09_IsName (p0 : ByteArray) : Option Bool := (registrarref09_Kind p0).bind (fun (r6 : Int) => some (r6 == 1))
set_option maxHeartbeats 1000000 in
theorem registrarref09_IsName_ok {E w : World} {I : Mem} {Os : List Mem} {p0 : ByteArray} (hS : St E w I Os) {r : Bool} (hr : registrarref09_IsName p0 = some r) :
    Calls P 31 #[(.string p0)] w (fun e w' => ∃ (I' : Mem), e = .returned (.bool r) ∧ I.Le I' ∧ St E w' I' Os) := by
  refine calls_W (args := [(.string p0)]) (fn := Tryz.f31) rfl rfl rfl ?_
  unfold registrarref09_IsName at hr
  refine W.seq ?_
  refine W.region (l := [0]) (by kernel_rfl) ?_
  refine WO.vals [(0, 2, (.bool false))] (by kernel_rfl) (fun _ => by kernel_rfl) ?_
  refine WO.nil ?_
  refine En.next ?_
  refine W.seq ?_
  refine W.region (l := [0, 1, 2, 3]) (by kernel_rfl) ?_
  refine WO.vals [(0, 3, (.string p0))] (by kernel_rfl) (fun _ => by kernel_rfl) ?_
  obtain ⟨r6, hx_r1, hr⟩ := bind_some hr
  refine WO.call rfl (by kernel_rfl) rfl (f := 55) (args := #[(.string p0)]) (by kernel_rfl) (registrarref09_Kind_ok  hS hx_r1) ?_
  rintro _ w2 ⟨I3, rfl, hl4, hS5⟩
  refine ⟨_, rfl, trivial, ?_⟩
  refine WO.vals [(2, 5, (.bool (r6 == 1))), (3, 2, (.bool (r6 == 1)))] (by kernel_rfl) (fun _ => by kernel_rfl) ?_
  refine WO.nil ?_
  refine En.next ?_
  refine W.ret ?_
  have he := Option.some.inj hr
  subst r
  exact En.ret1 rfl (.bool (r6 == 1)) rfl ⟨I3, rfl, hl4, hS5⟩
def registrarref18_At (p0 : List api_Role) (p1 : ByteArray) : Option Int := (forN (fun (i4 : Nat) => fun (_s : Unit) => (idx p0 (i4 : Int)).bind (fun (x11 : api_Role) => (bif (sEq x11.Name p1) then some (.inr (i4 : Int)) else some (.inl ())))) p0.length 0 ()).bind (fun (t : Unit ⊕ (Int)) => match t with | .inl _ => some (-1) | .inr s13 => some s13)
set_option maxHeartbeats 1000000 in
theorem registrarref18_At_ok {E w : World} {I : Mem} {Os : List Mem} {p0 : List api_Role} {p1 : ByteArray} {a_p0 : Option Addr} {c_p0 : Nat} (h_p0 : RSl 2 R_api_Role I a_p0 c_p0 p0) (hS : St E w I Os) {r : Int} (hr : registrarref18_At p0 p1 = some r) :
    Calls P 32 #[(.slice a_p0 p0.length c_p0), (.string p1)] w (fun e w' => ∃ (I' : Mem), e = .returned (.int .i64 r) ∧ I.Le I' ∧ St E w' I' Os) := by
  refine calls_W (args := [(.slice a_p0 p0.length c_p0), (.string p1)]) (fn := Tryz.f32) rfl rfl rfl ?_
  unfold registrarref18_At at hr
  refine W.seq ?_
  refine W.region (l := [0]) (by kernel_rfl) ?_
  refine WO.vals [(0, 4, (.int .i64 0))] (by kernel_rfl) (fun _ => by kernel_rfl) ?_
  refine WO.nil ?_
  refine En.next ?_
  refine W.seq ?_
  refine W.seq ?_
  refine W.region (l := [0]) (by kernel_rfl) ?_
  refine WO.vals [(0, 5, (.int .i64 0))] (by kernel_rfl) (fun _ => by kernel_rfl) ?_
  refine WO.nil ?_
  refine En.next ?_
  refine W.block ?_
  obtain ⟨t1, hloop5, hr⟩ := bind_some hr
  have hlt9 := (h_p0).len_lt
  refine W.weaken (fr' := [(0, (.slice a_p0 p0.length c_p0)), (1, (.string p1)), (5, (.int .i64 ((0 : Nat) : Int)))]) (W.forN (m := p0.length) hloop5 (fun (i4 : Nat) => fun (_s : Unit) fr w => ∃ (I2 : Mem), fr = [(0, (.slice a_p0 p0.length c_p0)), (1, (.string p1)), (5, (.int .i64 (i4 : Int)))] ∧ I.Le I2 ∧ St E w I2 Os) ⟨I, rfl, Mem.Le.refl _, hS⟩ ?roundt1 ?lastt1) (Sub.cons rfl (Sub.cons rfl (Sub.cons rfl Sub.nil)))
  case roundt1 =>
    rintro i4 _ _ w6 hi10 ⟨I2, rfl, hl3, hS7⟩ x8 hr1 hext1
    refine W.seq ?_
    refine W.seq ?_
    refine W.region (l := [0, 1, 2, 3]) (by kernel_rfl) ?_
    refine WO.vals [(0, 6, (.int .i64 (i4 : Int))), (1, 7, (.slice a_p0 p0.length c_p0)), (2, 8, (.int .i64 (p0.length : Int))), (3, 9, (.bool (decide ((i4 : Int) < (p0.length : Int)))))] (by kernel_rfl) (fun _ => by kernel_rfl) ?_
    refine WO.nil ?_
    refine En.next ?_
    refine W.cond (b := (decide ((i4 : Int) < (p0.length : Int)))) rfl rfl (fun hc => ?_) (fun hc => ?_)
    rotate_left
    · exact absurd hc (by first | (simp; done) | (simp; omega))
    clear hc
    refine W.skip ?_
    refine En.next ?_
    refine W.seq ?_
    refine W.block ?_
    refine W.seq ?_
    refine W.region (l := [0, 1, 2, 3, 4, 5, 6]) (by kernel_rfl) ?_
    refine WO.vals [(0, 12, (.slice a_p0 p0.length c_p0)), (1, 13, (.int .i64 (i4 : Int)))] (by kernel_rfl) (fun _ => by kernel_rfl) ?_
    obtain ⟨x11, hx_x11, hr1⟩ := bind_some hr1
    obtain ⟨h0_x11, h1_x11, hx_x11⟩ := idx_some hx_x11
    obtain ⟨ha_x11, cs_x11, hn_x11, hr_x11, hc_x11⟩ := ((RSl.mono h_p0 hl3)).el _ _ hx_x11
    obtain ⟨w_x11, rfl, h_x11⟩ := hr_x11
    refine WO.indexAddr (e := 28) (sz := 2) rfl (by kernel_rfl) (by kernel_rfl) (by kernel_rfl) rfl ha_x11 rfl h0_x11 h1_x11 ?_
    refine WO.vals [(3, 15, (.pointer (some ⟨bl a_p0, of a_p0 + ((i4 : Int)).toNat * 2, none⟩)))] (by kernel_rfl) (fun _ => by kernel_rfl) ?_
    refine WO.load rfl (by kernel_rfl) (by kernel_rfl) rfl (v := (.string x11.Name)) (fun w' hw' => hc_x11.cell0 (by kernel_rfl) ((rd_f hS7.im) w' hw')) ?_
    refine WO.vals [(5, 17, (.string p1)), (6, 18, (.bool (sEq x11.Name p1)))] (by kernel_rfl) (fun _ => by kernel_rfl) ?_
    refine WO.nil ?_
    refine En.next ?_
    refine W.cond (b := (sEq x11.Name p1)) rfl rfl (fun hc => ?_) (fun hc => ?_)
    · replace hr1 := cond_t hc hr1
      refine W.seq ?_
      refine W.region (l := [0, 1]) (by kernel_rfl) ?_
      refine WO.vals [(0, 19, (.int .i64 (i4 : Int))), (1, 4, (.int .i64 (i4 : Int)))] (by kernel_rfl) (fun _ => by kernel_rfl) ?_
      refine WO.nil ?_
      refine En.next ?_
      refine W.ret ?_
      refine En.in_ret ?_
      refine En.nx_ret ?_
      refine En.rd_ret ?_
      have ht := hext1 _ (Option.some.inj hr1).symm
      subst t1
      refine En.in_ret ?_
      refine En.nx_ret ?_
      have he := Option.some.inj hr
      subst r
      exact En.ret1 rfl (.int .i64 (i4 : Int)) rfl ⟨I2, rfl, hl3, hS7⟩
    · replace hr1 := cond_f hc hr1
      refine W.skip ?_
      refine En.in_normal ?_
      refine En.next ?_
      refine W.region (l := [0, 1, 2]) (by kernel_rfl) ?_
      refine WO.vals [(0, 10, (.int .i64 (i4 : Int)))] (by kernel_rfl) (fun _ => by kernel_rfl) ?_
      refine WO.incr (j := i4) rfl (by kernel_rfl) rfl (by first | omega | (dsimp only at *; omega)) ?_
      refine WO.vals [(2, 5, (.int .i64 ((i4 + 1 : Nat) : Int)))] (by kernel_rfl) (fun _ => by kernel_rfl) ?_
      refine WO.nil ?_
      refine En.weaken (fr' := [(0, (.slice a_p0 p0.length c_p0)), (1, (.string p1)), (5, (.int .i64 ((i4 + 1 : Nat) : Int)))]) (En.round ⟨(), (Option.some.inj hr1).symm, I2, rfl, hl3, hS7⟩) (Sub.cons rfl (Sub.cons rfl (Sub.cons rfl Sub.nil)))
  case lastt1 =>
    rintro _ _ w14 ⟨I2, rfl, hl3, hS15⟩ he
    cases he
    refine W.seq ?_
    refine W.seq ?_
    refine W.region (l := [0, 1, 2, 3]) (by kernel_rfl) ?_
    refine WO.vals [(0, 6, (.int .i64 (p0.length : Int))), (1, 7, (.slice a_p0 p0.length c_p0)), (2, 8, (.int .i64 (p0.length : Int))), (3, 9, (.bool (decide ((p0.length : Int) < (p0.length : Int)))))] (by kernel_rfl) (fun _ => by kernel_rfl) ?_
    refine WO.nil ?_
    refine En.next ?_
    refine W.cond (b := (decide ((p0.length : Int) < (p0.length : Int)))) rfl rfl (fun hc => ?_) (fun hc => ?_)
    · exact absurd hc (by first | (simp; done) | (simp; omega))
    clear hc
    refine W.exit ?_
    refine En.nx_exit ?_
    refine En.rd_exit ?_
    refine En.in_hit ?_
    refine En.next ?_
    refine W.seq ?_
    refine W.region (l := [0]) (by kernel_rfl) ?_
    refine WO.vals [(0, 4, (.int .i64 (-1)))] (by kernel_rfl) (fun _ => by kernel_rfl) ?_
    refine WO.nil ?_
    refine En.next ?_
    refine W.ret ?_
    have he := Option.some.inj hr
    subst r
    exact En.ret1 rfl (.int .i64 (-1)) rfl ⟨I2, rfl, hl3, hS15⟩
noncomputable def registrarref18_Reach (p0 : List api_Role) (p1 : ByteArray) : Option (List Bool) := (mk 1 (p0.length : Int)).bind (fun (n1 : Nat) => (registrarref18_At p0 p1).bind (fun (r13 : Int) => ((bif (decide (r13 ≥ 0)) then (idx (List.replicate n1 false) r13).bind (fun (x18 : Bool) => some ((List.replicate n1 false).set (r13).toNat true)) else some (List.replicate n1 false))).bind (fun (j14 : List Bool) => (forE (fun (i29 : Nat) => fun (s28 : List Bool) => (forE (fun (i40 : Nat) => fun (s39 : List Bool) => (loopO (fun (s : Int × (List Bool)) => match s with | (s50, s51) => (idx s51 (i40 : Int)).bind (fun (x56 : Bool) => ((bif x56 then (idx p0 (i40 : Int)).bind (fun (x61 : api_Role) => some (decide (s50 < (x61.In.length : Int)))) else some false)).bind (fun (j57 : Bool) => (bif j57 then (idx p0 (i40 : Int)).bind (fun (x64 : api_Role) => (idx x64.In s50).bind (fun (x65 : ByteArray) => (registrarref18_At p0 x65).bind (fun (r71 : Int) => ((bif (decide (r71 ≥ 0)) then (idx s51 r71).bind (fun (x76 : Bool) => some (s51.set (r71).toNat true)) else some s51)).bind (fun (j72 : List Bool) => some (.inl ((w64 (s50 + 1)), j72)))))) else some (.inr s51))))) (0, s39)).bind (fun (s84 : List Bool) => some s84)) p0.length 0 s28).bind (fun (s39 : (List Bool)) => some s39)) p0.length 0 j14).bind (fun (s28 : (List Bool)) => some s28))))
set_option maxHeartbeats 1000000 in
theorem registrarref18_Reach_ok {E w : World} {I : Mem} {Os : List Mem} {p0 : List api_Role} {p1 : ByteArray} {a_p0 : Option Addr} {c_p0 : Nat} (h_p0 : RSl 2 R_api_Role I a_p0 c_p0 p0) (hS : St E w I Os) {r : (List Bool)} (hr : registrarref18_Reach p0 p1 = some r) :
    Calls P 73 #[(.slice a_p0 p0.length c_p0), (.string p1)] w (fun e w' => ∃ (I' : Mem) (ra0 : Option Addr) (rc0 : Nat), e = .returned (.slice ra0 r.length rc0) ∧ I.Le I' ∧ St E w' I' Os ∧ RSl 1 RBool I' ra0 rc0 r) := by
  refine calls_W (args := [(.slice a_p0 p0.length c_p0), (.string p1)]) (fn := Tryz.f73) rfl rfl rfl ?_
  unfold registrarref18_Reach at hr
  refine W.seq ?_
  refine W.region (l := [0]) (by kernel_rfl) ?_
  refine WO.vals [(0, 4, (.slice none 0 0))] (by kernel_rfl) (fun _ => by kernel_rfl) ?_
  refine WO.nil ?_
  refine En.next ?_
  refine W.seq ?_
  refine W.region (l := [0, 1, 2, 3]) (by kernel_rfl) ?_
  refine WO.vals [(0, 11, (.slice a_p0 p0.length c_p0)), (1, 12, (.int .i64 (p0.length : Int)))] (by kernel_rfl) (fun _ => by kernel_rfl) ?_
  obtain ⟨n1, hx_n1, hr⟩ := bind_some hr
  obtain ⟨h0_n1, he_n1⟩ := mk_some hx_n1
  refine WO.make (rel := RBool) hS rfl (by kernel_rfl) rfl (by kernel_rfl) (T := 4) (sz := 1) (b := 1) (zs := #[(.bool false)]) (by kernel_rfl) rfl rfl n1 (congrArg (Value.int .i64) he_n1) (congrArg (Value.int .i64) he_n1) h0_n1 rfl (z0 := false) rfl (fun _ _ _ => trivial) ?_
  intro a2 w6 C3 hS5 ho4
  refine WO.reslot 13 rfl (show Value.slice a2 n1 n1 = Value.slice a2 (List.replicate n1 false).length n1 by simp only [List.length_replicate]) ?_
  refine WO.vals [(3, 5, (.slice a2 (List.replicate n1 false).length n1))] (by kernel_rfl) (fun _ => by kernel_rfl) ?_
  refine WO.nil ?_
  refine En.next ?_
  refine W.seq ?_
  refine W.region (l := [0, 1, 2, 3]) (by kernel_rfl) ?_
  refine WO.vals [(0, 14, (.slice a_p0 p0.length c_p0)), (1, 15, (.string p1))] (by kernel_rfl) (fun _ => by kernel_rfl) ?_
  obtain ⟨r13, hx_r8, hr⟩ := bind_some hr
  refine WO.call rfl (by kernel_rfl) rfl (f := 32) (args := #[(.slice a_p0 p0.length c_p0), (.string p1)]) (by kernel_rfl) (registrarref18_At_ok h_p0 hS5 hx_r8) ?_
  rintro _ w9 ⟨I10, rfl, hl11, hS12⟩
  refine ⟨_, rfl, trivial, ?_⟩
  refine WO.vals [(3, 6, (.int .i64 r13))] (by kernel_rfl) (fun _ => by kernel_rfl) ?_
  refine WO.nil ?_
  refine En.next ?_
  refine W.seq ?_
  refine W.seq ?_
  refine W.region (l := [0, 1]) (by kernel_rfl) ?_
  refine WO.vals [(0, 17, (.int .i64 r13)), (1, 18, (.bool (decide (r13 ≥ 0))))] (by kernel_rfl) (fun _ => by kernel_rfl) ?_
  refine WO.nil ?_
  refine En.next ?_
  obtain ⟨j14, hr1, hr⟩ := bind_some hr
  refine W.join (J := (fun fr w => ∃ (I16 : Mem), ∃ (C_j14 : Mem), fr = [(0, (.slice a_p0 p0.length c_p0)), (5, (.slice a2 j14.length n1))] ∧ I10.Le I16 ∧ St E w I16 ((C_j14) :: Os) ∧ OwnSl 4 1 RBool I16 C_j14 a2 n1 j14)) ?restj14 ?waysj14
  case waysj14 =>
    refine W.cond (b := (decide (r13 ≥ 0))) rfl rfl (fun hc => ?_) (fun hc => ?_)
    · replace hr1 := cond_t hc hr1
      refine W.region (l := [0, 1, 2, 3]) (by kernel_rfl) ?_
      refine WO.vals [(0, 19, (.slice a2 (List.replicate n1 false).length n1)), (1, 20, (.int .i64 r13))] (by kernel_rfl) (fun _ => by kernel_rfl) ?_
      obtain ⟨x18, hx_x18, hr1⟩ := bind_some hr1
      obtain ⟨h0_x18, h1_x18, hx_x18⟩ := idx_some hx_x18
      obtain ⟨ha_x18, cs_x18, hn_x18, hr_x18, hc_x18⟩ := ((ho4.mono hl11).sl).el _ _ hx_x18
      obtain rfl := hr_x18
      refine WO.indexAddr (e := 4) (sz := 1) rfl (by kernel_rfl) (by kernel_rfl) (by kernel_rfl) rfl ha_x18 rfl h0_x18 h1_x18 ?_
      refine WO.storeOwn hS12 (OwnSl.mono ho4 hl11) rfl (by kernel_rfl) rfl hx_x18 (u' := true) 0 rfl rfl (by kernel_rfl) rfl rfl (fun cs hrel => (by obtain rfl := hrel; exact rfl)) (fun _ _ _ => trivial) ?_
      intro w20 C21 hS19 ho22
      refine WO.reslot 5 rfl (show Value.slice a2 (List.replicate n1 false).length n1 = Value.slice a2 ((List.replicate n1 false).set (r13).toNat true).length n1 by simp only [List.length_set]) ?_
      refine WO.nil ?_
      have he := Option.some.inj hr1
      subst j14
      refine En.weaken (fr' := [(0, (.slice a_p0 p0.length c_p0)), (5, (.slice a2 ((List.replicate n1 false).set (r13).toNat true).length n1))]) (En.round ⟨I10, C21, rfl, Mem.Le.refl _, hS19, ho22⟩) (Sub.cons rfl (Sub.cons rfl Sub.nil))
    · replace hr1 := cond_f hc hr1
      refine W.skip ?_
      have he := Option.some.inj hr1
      subst j14
      refine En.weaken (fr' := [(0, (.slice a_p0 p0.length c_p0)), (5, (.slice a2 (List.replicate n1 false).length n1))]) (En.round ⟨I10, C3, rfl, Mem.Le.refl _, hS12, (OwnSl.mono ho4 hl11)⟩) (Sub.cons rfl (Sub.cons rfl Sub.nil))
  case restj14 =>
    rintro _ w23 ⟨I16, C_j14, rfl, hl17, hS24, h_j14⟩
    refine En.next ?_
    refine W.seq ?_
    refine W.seq ?_
    refine W.region (l := [0]) (by kernel_rfl) ?_
    refine WO.vals [(0, 7, (.int .i64 0))] (by kernel_rfl) (fun _ => by kernel_rfl) ?_
    refine WO.nil ?_
    refine En.next ?_
    refine W.block ?_
    obtain ⟨s28, hloop30, hr⟩ := bind_some hr
    have hlt34 := ((RSl.mono h_p0 (hl11.trans hl17))).len_lt
    refine W.weaken (fr' := [(0, (.slice a_p0 p0.length c_p0)), (5, (.slice a2 j14.length n1)), (7, (.int .i64 ((0 : Nat) : Int)))]) (W.forE (m := p0.length) hloop30 (fun (i29 : Nat) => fun (s28 : List Bool) fr w => ∃ (I26 : Mem), ∃ (C_s28 : Mem), fr = [(0, (.slice a_p0 p0.length c_p0)), (5, (.slice a2 s28.length n1)), (7, (.int .i64 (i29 : Int)))] ∧ I16.Le I26 ∧ St E w I26 ((C_s28) :: Os) ∧ OwnSl 4 1 RBool I26 C_s28 a2 n1 s28) ⟨I16, C_j14, rfl, Mem.Le.refl _, hS24, h_j14⟩ ?roundt25 ?lastt25) (Sub.cons rfl (Sub.cons rfl (Sub.cons rfl Sub.nil)))
    case roundt25 =>
      rintro i29 s28 _ w31 hi35 ⟨I26, C_s28, rfl, hl27, hS32, h_s28⟩ x33 hr1
      refine W.seq ?_
      refine W.seq ?_
      refine W.region (l := [0, 1, 2, 3]) (by kernel_rfl) ?_
      refine WO.vals [(0, 22, (.int .i64 (i29 : Int))), (1, 23, (.slice a_p0 p0.length c_p0)), (2, 24, (.int .i64 (p0.length : Int))), (3, 25, (.bool (decide ((i29 : Int) < (p0.length : Int)))))] (by kernel_rfl) (fun _ => by kernel_rfl) ?_
      refine WO.nil ?_
      refine En.next ?_
      refine W.cond (b := (decide ((i29 : Int) < (p0.length : Int)))) rfl rfl (fun hc => ?_) (fun hc => ?_)
      rotate_left
      · exact absurd hc (by first | (simp; done) | (simp; omega))
      clear hc
      refine W.skip ?_
      refine En.next ?_
      refine W.seq ?_
      refine W.block ?_
      refine W.seq ?_
      refine W.region (l := [0]) (by kernel_rfl) ?_
      refine WO.vals [(0, 8, (.int .i64 0))] (by kernel_rfl) (fun _ => by kernel_rfl) ?_
      refine WO.nil ?_
      refine En.next ?_
      refine W.block ?_
      obtain ⟨s39, hloop41, hr1⟩ := bind_some hr1
      have hlt45 := ((RSl.mono h_p0 ((hl11.trans hl17).trans hl27))).len_lt
      refine W.weaken (fr' := [(0, (.slice a_p0 p0.length c_p0)), (5, (.slice a2 s28.length n1)), (7, (.int .i64 (i29 : Int))), (8, (.int .i64 ((0 : Nat) : Int)))]) (W.forE (m := p0.length) hloop41 (fun (i40 : Nat) => fun (s39 : List Bool) fr w => ∃ (I37 : Mem), ∃ (C_s39 : Mem), fr = [(0, (.slice a_p0 p0.length c_p0)), (5, (.slice a2 s39.length n1)), (7, (.int .i64 (i29 : Int))), (8, (.int .i64 (i40 : Int)))] ∧ I26.Le I37 ∧ St E w I37 ((C_s39) :: Os) ∧ OwnSl 4 1 RBool I37 C_s39 a2 n1 s39) ⟨I26, C_s28, rfl, Mem.Le.refl _, hS32, h_s28⟩ ?roundt36 ?lastt36) (Sub.cons rfl (Sub.cons rfl (Sub.cons rfl (Sub.cons rfl Sub.nil))))
      case roundt36 =>
        rintro i40 s39 _ w42 hi46 ⟨I37, C_s39, rfl, hl38, hS43, h_s39⟩ x44 hr2
        refine W.seq ?_
        refine W.seq ?_
        refine W.region (l := [0, 1, 2, 3]) (by kernel_rfl) ?_
        refine WO.vals [(0, 28, (.int .i64 (i40 : Int))), (1, 29, (.slice a_p0 p0.length c_p0)), (2, 30, (.int .i64 (p0.length : Int))), (3, 31, (.bool (decide ((i40 : Int) < (p0.length : Int)))))] (by kernel_rfl) (fun _ => by kernel_rfl) ?_
        refine WO.nil ?_
        refine En.next ?_
        refine W.cond (b := (decide ((i40 : Int) < (p0.length : Int)))) rfl rfl (fun hc => ?_) (fun hc => ?_)
        rotate_left
        · exact absurd hc (by first | (simp; done) | (simp; omega))
        clear hc
        refine W.skip ?_
        refine En.next ?_
        refine W.seq ?_
        refine W.block ?_
        refine W.seq ?_
        refine W.region (l := [0]) (by kernel_rfl) ?_
        refine WO.vals [(0, 9, (.int .i64 0))] (by kernel_rfl) (fun _ => by kernel_rfl) ?_
        refine WO.nil ?_
        refine En.next ?_
        refine W.block ?_
        obtain ⟨t47, hloop52, hr2⟩ := bind_some hr2
        refine W.weaken (fr' := [(0, (.slice a_p0 p0.length c_p0)), (5, (.slice a2 s39.length n1)), (7, (.int .i64 (i29 : Int))), (8, (.int .i64 (i40 : Int))), (9, (.int .i64 0))]) (W.loopO hloop52 (fun (s : Int × (List Bool)) fr w => match s with | (s50, s51) => ∃ (I48 : Mem), ∃ (C_s51 : Mem), fr = [(0, (.slice a_p0 p0.length c_p0)), (5, (.slice a2 s51.length n1)), (7, (.int .i64 (i29 : Int))), (8, (.int .i64 (i40 : Int))), (9, (.int .i64 s50))] ∧ I37.Le I48 ∧ St E w I48 ((C_s51) :: Os) ∧ OwnSl 4 1 RBool I48 C_s51 a2 n1 s51) ⟨I37, C_s39, rfl, Mem.Le.refl _, hS43, h_s39⟩ ?_) (Sub.cons rfl (Sub.cons rfl (Sub.cons rfl (Sub.cons rfl (Sub.cons rfl Sub.nil)))))
        rintro ⟨s50, s51⟩ _ w53 ⟨I48, C_s51, rfl, hl49, hS54, h_s51⟩ x55 hr3 hext47
        refine W.seq ?_
        refine W.seq ?_
        refine W.region (l := [0, 1, 2, 3, 4, 5, 6, 7, 8, 9, 10, 11, 12, 13]) (by kernel_rfl) ?_
        refine WO.vals [(0, 34, (.slice a2 s51.length n1)), (1, 35, (.int .i64 (i40 : Int)))] (by kernel_rfl) (fun _ => by kernel_rfl) ?_
        obtain ⟨x56, hx_x56, hr3⟩ := bind_some hr3
        obtain ⟨h0_x56, h1_x56, hx_x56⟩ := idx_some hx_x56
        obtain ⟨ha_x56, cs_x56, hn_x56, hr_x56, hc_x56⟩ := (h_s51.sl).el _ _ hx_x56
        obtain rfl := hr_x56
        refine WO.indexAddr (e := 4) (sz := 1) rfl (by kernel_rfl) (by kernel_rfl) (by kernel_rfl) rfl ha_x56 rfl h0_x56 h1_x56 ?_
        refine WO.load rfl (by kernel_rfl) (by kernel_rfl) rfl (v := (.bool x56)) (fun w' hw' => hc_x56.cell0 (by kernel_rfl) ((rd_f (hS54.rd (List.Mem.head _))) w' hw')) ?_
        refine WO.vals [(4, 38, (.bool x56))] (by kernel_rfl) (fun _ => by kernel_rfl) ?_
        obtain ⟨j57, hr4, hr3⟩ := bind_some hr3
        refine WO.join (l1 := [5, 6, 7, 8, 9, 10, 11, 12, 13]) (l2 := []) (J := (fun fr w => ∃ (I59 : Mem), fr = [(0, (.slice a_p0 p0.length c_p0)), (5, (.slice a2 s51.length n1)), (7, (.int .i64 (i29 : Int))), (8, (.int .i64 (i40 : Int))), (9, (.int .i64 s50)), (47, (.bool j57))] ∧ I48.Le I59 ∧ St E w I59 ((C_s51) :: Os))) ?restj57 ?waysj57
        case waysj57 =>
          refine WO.caseb x56 (fun hc => ?_) (fun hc => ?_)
          · replace hr4 := cond_t hc hr4
            refine WO.reslot 38 rfl (show Value.bool x56 = Value.bool true by rw [hc]) ?_
            refine WO.vals [(5, 39, (.int .i64 s50)), (6, 40, (.slice a_p0 p0.length c_p0)), (7, 41, (.int .i64 (i40 : Int)))] (by kernel_rfl) (fun _ => by kernel_rfl) ?_
            obtain ⟨x61, hx_x61, hr4⟩ := bind_some hr4
            obtain ⟨h0_x61, h1_x61, hx_x61⟩ := idx_some hx_x61
            obtain ⟨ha_x61, cs_x61, hn_x61, hr_x61, hc_x61⟩ := ((RSl.mono h_p0 ((((hl11.trans hl17).trans hl27).trans hl38).trans hl49))).el _ _ hx_x61
            obtain ⟨w_x61, rfl, h_x61⟩ := hr_x61
            refine WO.indexAddr (e := 28) (sz := 2) rfl (by kernel_rfl) (by kernel_rfl) (by kernel_rfl) rfl ha_x61 rfl h0_x61 h1_x61 ?_
            refine WO.vals [(9, 43, (.pointer (some ⟨bl a_p0, of a_p0 + ((i40 : Int)).toNat * 2 + 1, none⟩)))] (by kernel_rfl) (fun _ => by kernel_rfl) ?_
            refine WO.load rfl (by kernel_rfl) (by kernel_rfl) rfl (v := (.slice w_x61.In.a x61.In.length w_x61.In.c)) (fun w' hw' => hc_x61.cellk 1 (by kernel_rfl) ((rd_f hS54.im) w' hw')) ?_
            refine WO.vals [(11, 45, (.int .i64 (x61.In.length : Int))), (12, 46, (.bool (decide (s50 < (x61.In.length : Int))))), (13, 47, (.bool (decide (s50 < (x61.In.length : Int)))))] (by kernel_rfl) (fun _ => by kernel_rfl) ?_
            have he := Option.some.inj hr4
            subst j57
            refine WO.weaken (fr' := [(0, (.slice a_p0 p0.length c_p0)), (5, (.slice a2 s51.length n1)), (7, (.int .i64 (i29 : Int))), (8, (.int .i64 (i40 : Int))), (9, (.int .i64 s50)), (47, (.bool (decide (s50 < (x61.In.length : Int)))))]) (WO.meet ⟨I48, rfl, Mem.Le.refl _, hS54⟩) (Sub.cons rfl (Sub.cons rfl (Sub.cons rfl (Sub.cons rfl (Sub.cons rfl (Sub.cons rfl Sub.nil))))))
          · replace hr4 := cond_f hc hr4
            refine WO.reslot 38 rfl (show Value.bool x56 = Value.bool false by rw [hc]) ?_
            refine WO.pass rfl (by kernel_rfl) rfl ?_
            refine WO.pass rfl (by kernel_rfl) rfl ?_
            refine WO.pass rfl (by kernel_rfl) rfl ?_
            refine WO.pass rfl (by kernel_rfl) rfl ?_
            refine WO.pass rfl (by kernel_rfl) rfl ?_
            refine WO.pass rfl (by kernel_rfl) rfl ?_
            refine WO.pass rfl (by kernel_rfl) rfl ?_
            refine WO.pass rfl (by kernel_rfl) rfl ?_
            refine WO.vals [(13, 47, (.bool false))] (by kernel_rfl) (fun _ => by kernel_rfl) ?_
            have he := Option.some.inj hr4
            subst j57
            refine WO.weaken (fr' := [(0, (.slice a_p0 p0.length c_p0)), (5, (.slice a2 s51.length n1)), (7, (.int .i64 (i29 : Int))), (8, (.int .i64 (i40 : Int))), (9, (.int .i64 s50)), (47, (.bool false))]) (WO.meet ⟨I48, rfl, Mem.Le.refl _, hS54⟩) (Sub.cons rfl (Sub.cons rfl (Sub.cons rfl (Sub.cons rfl (Sub.cons rfl (Sub.cons rfl Sub.nil))))))
        case restj57 =>
          rintro _ w62 ⟨I59, rfl, hl60, hS63⟩
          refine WO.nil ?_
          refine En.next ?_
          refine W.cond (b := j57) rfl rfl (fun hc => ?_) (fun hc => ?_)
          · replace hr3 := cond_t hc hr3
            refine W.skip ?_
            refine En.next ?_
            refine W.seq ?_
            refine W.block ?_
            refine W.seq ?_
            refine W.region (l := [0, 1, 2, 3, 4, 5, 6, 7, 8, 9, 10]) (by kernel_rfl) ?_
            refine WO.vals [(0, 50, (.slice a_p0 p0.length c_p0)), (1, 51, (.slice a_p0 p0.length c_p0)), (2, 52, (.int .i64 (i40 : Int)))] (by kernel_rfl) (fun _ => by kernel_rfl) ?_
            obtain ⟨x64, hx_x64, hr3⟩ := bind_some hr3
            obtain ⟨h0_x64, h1_x64, hx_x64⟩ := idx_some hx_x64
            obtain ⟨ha_x64, cs_x64, hn_x64, hr_x64, hc_x64⟩ := ((RSl.mono h_p0 (((((hl11.trans hl17).trans hl27).trans hl38).trans hl49).trans hl60))).el _ _ hx_x64
            obtain ⟨w_x64, rfl, h_x64⟩ := hr_x64
            refine WO.indexAddr (e := 28) (sz := 2) rfl (by kernel_rfl) (by kernel_rfl) (by kernel_rfl) rfl ha_x64 rfl h0_x64 h1_x64 ?_
            refine WO.vals [(4, 54, (.pointer (some ⟨bl a_p0, of a_p0 + ((i40 : Int)).toNat * 2 + 1, none⟩)))] (by kernel_rfl) (fun _ => by kernel_rfl) ?_
            refine WO.load rfl (by kernel_rfl) (by kernel_rfl) rfl (v := (.slice w_x64.In.a x64.In.length w_x64.In.c)) (fun w' hw' => hc_x64.cellk 1 (by kernel_rfl) ((rd_f hS63.im) w' hw')) ?_
            refine WO.vals [(6, 56, (.int .i64 s50))] (by kernel_rfl) (fun _ => by kernel_rfl) ?_
            obtain ⟨x65, hx_x65, hr3⟩ := bind_some hr3
            obtain ⟨h0_x65, h1_x65, hx_x65⟩ := idx_some hx_x65
            obtain ⟨ha_x65, cs_x65, hn_x65, hr_x65, hc_x65⟩ := (h_x64.In).el _ _ hx_x65
            obtain rfl := hr_x65
            refine WO.indexAddr (e := 9) (sz := 1) rfl (by kernel_rfl) (by kernel_rfl) (by kernel_rfl) rfl ha_x65 rfl h0_x65 h1_x65 ?_
            refine WO.load rfl (by kernel_rfl) (by kernel_rfl) rfl (v := (.string x65)) (fun w' hw' => hc_x65.cell0 (by kernel_rfl) ((rd_f hS63.im) w' hw')) ?_
            obtain ⟨r71, hx_r66, hr3⟩ := bind_some hr3
            refine WO.call rfl (by kernel_rfl) rfl (f := 32) (args := #[(.slice a_p0 p0.length c_p0), (.string x65)]) (by kernel_rfl) (registrarref18_At_ok (RSl.mono h_p0 (((((hl11.trans hl17).trans hl27).trans hl38).trans hl49).trans hl60)) hS63 hx_r66) ?_
            rintro _ w67 ⟨I68, rfl, hl69, hS70⟩
            refine ⟨_, rfl, trivial, ?_⟩
            refine WO.vals [(10, 10, (.int .i64 r71))] (by kernel_rfl) (fun _ => by kernel_rfl) ?_
            refine WO.nil ?_
            refine En.next ?_
            refine W.seq ?_
            refine W.region (l := [0, 1]) (by kernel_rfl) ?_
            refine WO.vals [(0, 60, (.int .i64 r71)), (1, 61, (.bool (decide (r71 ≥ 0))))] (by kernel_rfl) (fun _ => by kernel_rfl) ?_
            refine WO.nil ?_
            refine En.next ?_
            obtain ⟨j72, hr4, hr3⟩ := bind_some hr3
            refine W.join (J := (fun fr w => ∃ (I74 : Mem), ∃ (C_j72 : Mem), fr = [(0, (.slice a_p0 p0.length c_p0)), (5, (.slice a2 j72.length n1)), (7, (.int .i64 (i29 : Int))), (8, (.int .i64 (i40 : Int))), (9, (.int .i64 s50))] ∧ I68.Le I74 ∧ St E w I74 ((C_j72) :: Os) ∧ OwnSl 4 1 RBool I74 C_j72 a2 n1 j72)) ?restj72 ?waysj72
            case waysj72 =>
              refine W.cond (b := (decide (r71 ≥ 0))) rfl rfl (fun hc => ?_) (fun hc => ?_)
              · replace hr4 := cond_t hc hr4
                refine W.region (l := [0, 1, 2, 3]) (by kernel_rfl) ?_
                refine WO.vals [(0, 62, (.slice a2 s51.length n1)), (1, 63, (.int .i64 r71))] (by kernel_rfl) (fun _ => by kernel_rfl) ?_
                obtain ⟨x76, hx_x76, hr4⟩ := bind_some hr4
                obtain ⟨h0_x76, h1_x76, hx_x76⟩ := idx_some hx_x76
                obtain ⟨ha_x76, cs_x76, hn_x76, hr_x76, hc_x76⟩ := ((h_s51.mono (hl60.trans hl69)).sl).el _ _ hx_x76
                obtain rfl := hr_x76
                refine WO.indexAddr (e := 4) (sz := 1) rfl (by kernel_rfl) (by kernel_rfl) (by kernel_rfl) rfl ha_x76 rfl h0_x76 h1_x76 ?_
                refine WO.storeOwn hS70 (OwnSl.mono h_s51 (hl60.trans hl69)) rfl (by kernel_rfl) rfl hx_x76 (u' := true) 0 rfl rfl (by kernel_rfl) rfl rfl (fun cs hrel => (by obtain rfl := hrel; exact rfl)) (fun _ _ _ => trivial) ?_
                intro w78 C79 hS77 ho80
                refine WO.reslot 5 rfl (show Value.slice a2 s51.length n1 = Value.slice a2 (s51.set (r71).toNat true).length n1 by simp only [List.length_set]) ?_
                refine WO.nil ?_
                have he := Option.some.inj hr4
                subst j72
                refine En.weaken (fr' := [(0, (.slice a_p0 p0.length c_p0)), (5, (.slice a2 (s51.set (r71).toNat true).length n1)), (7, (.int .i64 (i29 : Int))), (8, (.int .i64 (i40 : Int))), (9, (.int .i64 s50))]) (En.round ⟨I68, C79, rfl, Mem.Le.refl _, hS77, ho80⟩) (Sub.cons rfl (Sub.cons rfl (Sub.cons rfl (Sub.cons rfl (Sub.cons rfl Sub.nil)))))
              · replace hr4 := cond_f hc hr4
                refine W.skip ?_
                have he := Option.some.inj hr4
                subst j72
                refine En.weaken (fr' := [(0, (.slice a_p0 p0.length c_p0)), (5, (.slice a2 s51.length n1)), (7, (.int .i64 (i29 : Int))), (8, (.int .i64 (i40 : Int))), (9, (.int .i64 s50))]) (En.round ⟨I68, C_s51, rfl, Mem.Le.refl _, hS70, (OwnSl.mono h_s51 (hl60.trans hl69))⟩) (Sub.cons rfl (Sub.cons rfl (Sub.cons rfl (Sub.cons rfl (Sub.cons rfl Sub.nil)))))
            case restj72 =>
              rintro _ w81 ⟨I74, C_j72, rfl, hl75, hS82, h_j72⟩
              refine En.in_normal ?_
              refine En.next ?_
              refine W.region (l := [0, 1, 2]) (by kernel_rfl) ?_
              refine WO.vals [(0, 48, (.int .i64 s50)), (1, 49, (.int .i64 (w64 (s50 + 1)))), (2, 9, (.int .i64 (w64 (s50 + 1))))] (by kernel_rfl) (fun _ => by kernel_rfl) ?_
              refine WO.nil ?_
              refine En.weaken (fr' := [(0, (.slice a_p0 p0.length c_p0)), (5, (.slice a2 j72.length n1)), (7, (.int .i64 (i29 : Int))), (8, (.int .i64 (i40 : Int))), (9, (.int .i64 (w64 (s50 + 1))))]) (En.round ⟨((w64 (s50 + 1)), j72), (Option.some.inj hr3).symm, I74, C_j72, rfl, (((hl49.trans hl60).trans hl69).trans hl75), hS82, h_j72⟩) (Sub.cons rfl (Sub.cons rfl (Sub.cons rfl (Sub.cons rfl (Sub.cons rfl Sub.nil)))))
          · replace hr3 := cond_f hc hr3
            refine W.exit ?_
            refine En.nx_exit ?_
            refine En.rd_exit ?_
            have ht := hext47 _ (Option.some.inj hr3).symm
            subst t47
            refine En.in_hit ?_
            refine En.in_normal ?_
            refine En.next ?_
            refine W.region (l := [0, 1, 2]) (by kernel_rfl) ?_
            refine WO.vals [(0, 32, (.int .i64 (i40 : Int)))] (by kernel_rfl) (fun _ => by kernel_rfl) ?_
            refine WO.incr (j := i40) rfl (by kernel_rfl) rfl (by first | omega | (dsimp only at *; omega)) ?_
            refine WO.vals [(2, 8, (.int .i64 ((i40 + 1 : Nat) : Int)))] (by kernel_rfl) (fun _ => by kernel_rfl) ?_
            refine WO.nil ?_
            have he := Option.some.inj hr2
            subst x44
            refine En.weaken (fr' := [(0, (.slice a_p0 p0.length c_p0)), (5, (.slice a2 s51.length n1)), (7, (.int .i64 (i29 : Int))), (8, (.int .i64 ((i40 + 1 : Nat) : Int)))]) (En.round ⟨I59, C_s51, rfl, ((hl38.trans hl49).trans hl60), hS63, (OwnSl.mono h_s51 hl60)⟩) (Sub.cons rfl (Sub.cons rfl (Sub.cons rfl (Sub.cons rfl Sub.nil))))
      case lastt36 =>
        rintro _ w85 ⟨I37, C_s39, rfl, hl38, hS86, h_s39⟩
        refine W.seq ?_
        refine W.seq ?_
        refine W.region (l := [0, 1, 2, 3]) (by kernel_rfl) ?_
        refine WO.vals [(0, 28, (.int .i64 (p0.length : Int))), (1, 29, (.slice a_p0 p0.length c_p0)), (2, 30, (.int .i64 (p0.length : Int))), (3, 31, (.bool (decide ((p0.length : Int) < (p0.length : Int)))))] (by kernel_rfl) (fun _ => by kernel_rfl) ?_
        refine WO.nil ?_
        refine En.next ?_
        refine W.cond (b := (decide ((p0.length : Int) < (p0.length : Int)))) rfl rfl (fun hc => ?_) (fun hc => ?_)
        · exact absurd hc (by first | (simp; done) | (simp; omega))
        clear hc
        refine W.exit ?_
        refine En.nx_exit ?_
        refine En.rd_exit ?_
        refine En.in_hit ?_
        refine En.in_normal ?_
        refine En.next ?_
        refine W.region (l := [0, 1, 2]) (by kernel_rfl) ?_
        refine WO.vals [(0, 26, (.int .i64 (i29 : Int)))] (by kernel_rfl) (fun _ => by kernel_rfl) ?_
        refine WO.incr (j := i29) rfl (by kernel_rfl) rfl (by first | omega | (dsimp only at *; omega)) ?_
        refine WO.vals [(2, 7, (.int .i64 ((i29 + 1 : Nat) : Int)))] (by kernel_rfl) (fun _ => by kernel_rfl) ?_
        refine WO.nil ?_
        have he := Option.some.inj hr1
        subst x33
        refine En.weaken (fr' := [(0, (.slice a_p0 p0.length c_p0)), (5, (.slice a2 s39.length n1)), (7, (.int .i64 ((i29 + 1 : Nat) : Int)))]) (En.round ⟨I37, C_s39, rfl, (hl27.trans hl38), hS86, h_s39⟩) (Sub.cons rfl (Sub.cons rfl (Sub.cons rfl Sub.nil)))
    case lastt25 =>
      rintro _ w87 ⟨I26, C_s28, rfl, hl27, hS88, h_s28⟩
      refine W.seq ?_
      refine W.seq ?_
      refine W.region (l := [0, 1, 2, 3]) (by kernel_rfl) ?_
      refine WO.vals [(0, 22, (.int .i64 (p0.length : Int))), (1, 23, (.slice a_p0 p0.length c_p0)), (2, 24, (.int .i64 (p0.length : Int))), (3, 25, (.bool (decide ((p0.length : Int) < (p0.length : Int)))))] (by kernel_rfl) (fun _ => by kernel_rfl) ?_
      refine WO.nil ?_
      refine En.next ?_
      refine W.cond (b := (decide ((p0.length : Int) < (p0.length : Int)))) rfl rfl (fun hc => ?_) (fun hc => ?_)
      · exact absurd hc (by first | (simp; done) | (simp; omega))
      clear hc
      refine W.exit ?_
      refine En.nx_exit ?_
      refine En.rd_exit ?_
      refine En.in_hit ?_
      refine En.next ?_
      refine W.seq ?_
      refine W.region (l := [0, 1]) (by kernel_rfl) ?_
      refine WO.vals [(0, 65, (.slice a2 s28.length n1))] (by kernel_rfl) (fun _ => by kernel_rfl) ?_
      obtain ⟨I89, hl90, hS92, hp91⟩ := OwnSl.pub h_s28 hS88
      refine WO.vals [(1, 4, (.slice a2 s28.length n1))] (by kernel_rfl) (fun _ => by kernel_rfl) ?_
      refine WO.nil ?_
      refine En.next ?_
      refine W.ret ?_
      have he := Option.some.inj hr
      subst r
      exact En.ret1 rfl (.slice a2 s28.length n1) rfl ⟨I89, a2, n1, rfl, (((hl11.trans hl17).trans hl27).trans hl90), hS92, hp91⟩
noncomputable def registrarref18_into (p0 : List ByteArray) (p1 : ByteArray) : Option (List ByteArray) := (loopO (fun (s4 : Int) => ((bif (decide (s4 < (p0.length : Int))) then (idx p0 s4).bind (fun (x13 : ByteArray) => some (sLt x13 p1)) else some false)).bind (fun (j9 : Bool) => (bif j9 then some (.inl (w64 (s4 + 1))) else some (.inr s4)))) 0).bind (fun (s17 : Int) => (sub p0 0 s17).bind (fun (x18 : List ByteArray) => (app 16 ([] : List ByteArray) x18).bind (fun (x21 : List ByteArray) => (app 16 x21 ([p1] : List ByteArray)).bind (fun (x36 : List ByteArray) => (sub p0 s17 (p0.length : Int)).bind (fun (x45 : List ByteArray) => (app 16 x36 x45).bind (fun (x46 : List ByteArray) => some x46))))))
set_option maxHeartbeats 1000000 in
theorem registrarref18_into_ok {E w : World} {I : Mem} {Os : List Mem} {p0 : List ByteArray} {p1 : ByteArray} {a_p0 : Option Addr} {c_p0 : Nat} (h_p0 : RSl 1 RStr I a_p0 c_p0 p0) (hS : St E w I Os) {r : (List ByteArray)} (hr : registrarref18_into p0 p1 = some r) :
    Calls P 49 #[(.slice a_p0 p0.length c_p0), (.string p1)] w (fun e w' => ∃ (I' : Mem) (ra0 : Option Addr) (rc0 : Nat), e = .returned (.slice ra0 r.length rc0) ∧ I.Le I' ∧ St E w' I' Os ∧ RSl 1 RStr I' ra0 rc0 r) := by
  refine calls_W (args := [(.slice a_p0 p0.length c_p0), (.string p1)]) (fn := Tryz.f49) rfl rfl rfl ?_
  unfold registrarref18_into at hr
  refine W.seq ?_
  refine W.region (l := [0]) (by kernel_rfl) ?_
  refine WO.vals [(0, 4, (.slice none 0 0))] (by kernel_rfl) (fun _ => by kernel_rfl) ?_
  refine WO.nil ?_
  refine En.next ?_
  refine W.seq ?_
  refine W.region (l := [0]) (by kernel_rfl) ?_
  refine WO.vals [(0, 5, (.int .i64 0))] (by kernel_rfl) (fun _ => by kernel_rfl) ?_
  refine WO.nil ?_
  refine En.next ?_
  refine W.seq ?_
  refine W.block ?_
  obtain ⟨t1, hloop5, hr⟩ := bind_some hr
  refine W.weaken (fr' := [(0, (.slice a_p0 p0.length c_p0)), (1, (.string p1)), (5, (.int .i64 0))]) (W.loopO hloop5 (fun (s4 : Int) fr w => ∃ (I2 : Mem), fr = [(0, (.slice a_p0 p0.length c_p0)), (1, (.string p1)), (5, (.int .i64 s4))] ∧ I.Le I2 ∧ St E w I2 Os) ⟨I, rfl, Mem.Le.refl _, hS⟩ ?_) (Sub.cons rfl (Sub.cons rfl (Sub.cons rfl Sub.nil)))
  rintro s4 _ w6 ⟨I2, rfl, hl3, hS7⟩ x8 hr1 hext1
  refine W.seq ?_
  refine W.seq ?_
  refine W.region (l := [0, 1, 2, 3, 4, 5, 6, 7, 8, 9, 10, 11]) (by kernel_rfl) ?_
  refine WO.vals [(0, 7, (.int .i64 s4)), (1, 8, (.slice a_p0 p0.length c_p0)), (2, 9, (.int .i64 (p0.length : Int))), (3, 10, (.bool (decide (s4 < (p0.length : Int))))), (4, 11, (.bool (decide (s4 < (p0.length : Int)))))] (by kernel_rfl) (fun _ => by kernel_rfl) ?_
  obtain ⟨j9, hr2, hr1⟩ := bind_some hr1
  refine WO.join (l1 := [5, 6, 7, 8, 9, 10, 11]) (l2 := []) (J := (fun fr w => ∃ (I11 : Mem), fr = [(0, (.slice a_p0 p0.length c_p0)), (1, (.string p1)), (5, (.int .i64 s4)), (18, (.bool j9))] ∧ I2.Le I11 ∧ St E w I11 Os)) ?restj9 ?waysj9
  case waysj9 =>
    refine WO.caseb (decide (s4 < (p0.length : Int))) (fun hc => ?_) (fun hc => ?_)
    · replace hr2 := cond_t hc hr2
      refine WO.reslot 11 rfl (show Value.bool (decide (s4 < (p0.length : Int))) = Value.bool true by rw [hc]) ?_
      refine WO.vals [(5, 12, (.slice a_p0 p0.length c_p0)), (6, 13, (.int .i64 s4))] (by kernel_rfl) (fun _ => by kernel_rfl) ?_
      obtain ⟨x13, hx_x13, hr2⟩ := bind_some hr2
      obtain ⟨h0_x13, h1_x13, hx_x13⟩ := idx_some hx_x13
      obtain ⟨ha_x13, cs_x13, hn_x13, hr_x13, hc_x13⟩ := ((RSl.mono h_p0 hl3)).el _ _ hx_x13
      obtain rfl := hr_x13
      refine WO.indexAddr (e := 9) (sz := 1) rfl (by kernel_rfl) (by kernel_rfl) (by kernel_rfl) rfl ha_x13 rfl h0_x13 h1_x13 ?_
      refine WO.load rfl (by kernel_rfl) (by kernel_rfl) rfl (v := (.string x13)) (fun w' hw' => hc_x13.cell0 (by kernel_rfl) ((rd_f hS7.im) w' hw')) ?_
      refine WO.vals [(9, 16, (.string p1)), (10, 17, (.bool (sLt x13 p1))), (11, 18, (.bool (sLt x13 p1)))] (by kernel_rfl) (fun _ => by kernel_rfl) ?_
      have he := Option.some.inj hr2
      subst j9
      refine WO.weaken (fr' := [(0, (.slice a_p0 p0.length c_p0)), (1, (.string p1)), (5, (.int .i64 s4)), (18, (.bool (sLt x13 p1)))]) (WO.meet ⟨I2, rfl, Mem.Le.refl _, hS7⟩) (Sub.cons rfl (Sub.cons rfl (Sub.cons rfl (Sub.cons rfl Sub.nil))))
    · replace hr2 := cond_f hc hr2
      refine WO.reslot 11 rfl (show Value.bool (decide (s4 < (p0.length : Int))) = Value.bool false by rw [hc]) ?_
      refine WO.pass rfl (by kernel_rfl) rfl ?_
      refine WO.pass rfl (by kernel_rfl) rfl ?_
      refine WO.pass rfl (by kernel_rfl) rfl ?_
      refine WO.pass rfl (by kernel_rfl) rfl ?_
      refine WO.pass rfl (by kernel_rfl) rfl ?_
      refine WO.pass rfl (by kernel_rfl) rfl ?_
      refine WO.vals [(11, 18, (.bool false))] (by kernel_rfl) (fun _ => by kernel_rfl) ?_
      have he := Option.some.inj hr2
      subst j9
      refine WO.weaken (fr' := [(0, (.slice a_p0 p0.length c_p0)), (1, (.string p1)), (5, (.int .i64 s4)), (18, (.bool false))]) (WO.meet ⟨I2, rfl, Mem.Le.refl _, hS7⟩) (Sub.cons rfl (Sub.cons rfl (Sub.cons rfl (Sub.cons rfl Sub.nil))))
  case restj9 =>
    rintro _ w14 ⟨I11, rfl, hl12, hS15⟩
    refine WO.nil ?_
    refine En.next ?_
    refine W.cond (b := j9) rfl rfl (fun hc => ?_) (fun hc => ?_)
    · replace hr1 := cond_t hc hr1
      refine W.skip ?_
      refine En.next ?_
      refine W.block ?_
      refine W.region (l := [0, 1, 2]) (by kernel_rfl) ?_
      refine WO.vals [(0, 19, (.int .i64 s4)), (1, 20, (.int .i64 (w64 (s4 + 1)))), (2, 5, (.int .i64 (w64 (s4 + 1))))] (by kernel_rfl) (fun _ => by kernel_rfl) ?_
      refine WO.nil ?_
      refine En.in_normal ?_
      refine En.weaken (fr' := [(0, (.slice a_p0 p0.length c_p0)), (1, (.string p1)), (5, (.int .i64 (w64 (s4 + 1))))]) (En.round ⟨(w64 (s4 + 1)), (Option.some.inj hr1).symm, I11, rfl, (hl3.trans hl12), hS15⟩) (Sub.cons rfl (Sub.cons rfl (Sub.cons rfl Sub.nil)))
    · replace hr1 := cond_f hc hr1
      refine W.exit ?_
      refine En.nx_exit ?_
      refine En.rd_exit ?_
      have ht := hext1 _ (Option.some.inj hr1).symm
      subst t1
      refine En.in_hit ?_
      refine En.next ?_
      refine W.seq ?_
      refine W.region (l := [0]) (by kernel_rfl) ?_
      refine WO.vals [(0, 6, (.slice none 0 0))] (by kernel_rfl) (fun _ => by kernel_rfl) ?_
      refine WO.nil ?_
      refine En.next ?_
      refine W.seq ?_
      refine W.region (l := [0, 1, 2, 3, 4, 5]) (by kernel_rfl) ?_
      refine WO.vals [(0, 21, (.slice none 0 0)), (1, 22, (.slice a_p0 p0.length c_p0)), (2, 23, (.int .i64 s4))] (by kernel_rfl) (fun _ => by kernel_rfl) ?_
      obtain ⟨x57, hx_x57, hr⟩ := bind_some hr
      obtain ⟨h0_x57, h1_x57, h2_x57, he_x57⟩ := sub_some hx_x57
      have hl_x57 : (s4 : Int) ≤ (c_p0 : Int) := Int.le_trans h2_x57 (Int.ofNat_le.2 ((RSl.mono h_p0 (hl3.trans hl12))).le)
      refine WO.slice (e := 9) (sz := 1) rfl (by kernel_rfl) (by kernel_rfl) (by kernel_rfl) rfl (0 : Int) (s4 : Int) h0_x57 (.inl ⟨rfl, rfl⟩) (.inr ⟨_, _, rfl, rfl⟩) h1_x57 hl_x57 ?_
      obtain ⟨a_x57, c_x57, h_x57, ev_x57⟩ := sub_ok ((RSl.mono h_p0 (hl3.trans hl12))) h0_x57 h1_x57 h2_x57 he_x57
      refine WO.reslot 24 rfl ev_x57 ?_
      have hS59 := hS15.no
      obtain ⟨x60, hx_x60, hr⟩ := bind_some hr
      obtain ⟨h0_x60, he_x60⟩ := app_some hx_x60
      refine WO.append (e' := 9) (b := 16) (zs := #[(.string (⟨#[]⟩ : ByteArray))]) hS59 (OwnSl.nil (T := 9) (rel := RStr) (I := I11)) rfl (by kernel_rfl) rfl (by kernel_rfl) (by kernel_rfl) (by kernel_rfl) rfl rfl rfl rfl h_x57 hS59.im h0_x60 he_x60 (fun _ _ _ => trivial) ?_
      intro a61 c62 w63 C64 hS65 ho66
      refine WO.vals [(5, 6, (.slice a61 x60.length c62))] (by kernel_rfl) (fun _ => by kernel_rfl) ?_
      refine WO.nil ?_
      refine En.next ?_
      refine W.seq ?_
      refine W.region (l := [0, 1, 2, 3, 4]) (by kernel_rfl) ?_
      refine WO.vals [(0, 26, (.slice a61 x60.length c62)), (1, 27, (.string p1))] (by kernel_rfl) (fun _ => by kernel_rfl) ?_
      refine WO.newSlice (rel := RStr) (xs := ([p1] : List ByteArray)) hS65 rfl (by kernel_rfl) rfl 9 1 [[(.string p1)]] (by kernel_rfl) rfl ((Elr.cons rfl Elr.nil)) (fun _ _ _ => trivial) ?_
      intro a70 C68 w72 hS71 ho69
      have hS74 := hS71.front1
      obtain ⟨x75, hx_x75, hr⟩ := bind_some hr
      obtain ⟨h0_x75, he_x75⟩ := app_some hx_x75
      refine WO.append (e' := 9) (b := 16) (zs := #[(.string (⟨#[]⟩ : ByteArray))]) hS74 ho66 rfl (by kernel_rfl) rfl (by kernel_rfl) (by kernel_rfl) (by kernel_rfl) rfl rfl rfl rfl ho69.sl (hS74.rd (List.Mem.tail _ (List.Mem.head _))) h0_x75 he_x75 (fun _ _ _ => trivial) ?_
      intro a76 c77 w78 C79 hS80 ho81
      have hS82 := hS80.front1
      have hS83 := hS82.drop
      refine WO.vals [(4, 6, (.slice a76 x75.length c77))] (by kernel_rfl) (fun _ => by kernel_rfl) ?_
      refine WO.nil ?_
      refine En.next ?_
      refine W.seq ?_
      refine W.region (l := [0, 1, 2, 3, 4, 5]) (by kernel_rfl) ?_
      refine WO.vals [(0, 30, (.slice a76 x75.length c77)), (1, 31, (.slice a_p0 p0.length c_p0)), (2, 32, (.int .i64 s4))] (by kernel_rfl) (fun _ => by kernel_rfl) ?_
      obtain ⟨x84, hx_x84, hr⟩ := bind_some hr
      obtain ⟨h0_x84, h1_x84, h2_x84, he_x84⟩ := sub_some hx_x84
      have hl_x84 : ((p0.length : Int) : Int) ≤ (c_p0 : Int) := Int.le_trans h2_x84 (Int.ofNat_le.2 ((RSl.mono h_p0 (hl3.trans hl12))).le)
      refine WO.slice (e := 9) (sz := 1) rfl (by kernel_rfl) (by kernel_rfl) (by kernel_rfl) rfl (s4 : Int) ((p0.length : Int) : Int) h0_x84 (.inr ⟨_, _, rfl, rfl⟩) (.inl ⟨rfl, rfl⟩) h1_x84 hl_x84 ?_
      obtain ⟨a_x84, c_x84, h_x84, ev_x84⟩ := sub_ok ((RSl.mono h_p0 (hl3.trans hl12))) h0_x84 h1_x84 h2_x84 he_x84
      refine WO.reslot 33 rfl ev_x84 ?_
      obtain ⟨x85, hx_x85, hr⟩ := bind_some hr
      obtain ⟨h0_x85, he_x85⟩ := app_some hx_x85
      refine WO.append (e' := 9) (b := 16) (zs := #[(.string (⟨#[]⟩ : ByteArray))]) hS83 ho81 rfl (by kernel_rfl) rfl (by kernel_rfl) (by kernel_rfl) (by kernel_rfl) rfl rfl rfl rfl h_x84 hS83.im h0_x85 he_x85 (fun _ _ _ => trivial) ?_
      intro a86 c87 w88 C89 hS90 ho91
      obtain ⟨I92, hl93, hS95, hp94⟩ := OwnSl.pub ho91 hS90
      refine WO.vals [(5, 4, (.slice a86 x85.length c87))] (by kernel_rfl) (fun _ => by kernel_rfl) ?_
      refine WO.nil ?_
      refine En.next ?_
      refine W.ret ?_
      have he := Option.some.inj hr
      subst r
      exact En.ret1 rfl (.slice a86 x85.length c87) rfl ⟨I92, a86, c87, rfl, ((hl3.trans hl12).trans hl93), hS95, hp94⟩
noncomputable def registrarref18_All (p0 : List api_Role) (p1 : ByteArray) : Option (List ByteArray) := (registrarref18_Reach p0 p1).bind (fun (r6 : List Bool) => (forE (fun (i11 : Nat) => fun (s10 : List ByteArray) => (idx r6 (i11 : Int)).bind (fun (x18 : Bool) => ((bif x18 then (idx p0 (i11 : Int)).bind (fun (x23 : api_Role) => (registrarref18_into s10 x23.Name).bind (fun (r29 : List ByteArray) => some r29)) else some s10)).bind (fun (j19 : List ByteArray) => some j19))) p0.length 0 ([] : List ByteArray)).bind (fun (s10 : (List ByteArray)) => some s10))
set_option maxHeartbeats 1000000 in
theorem registrarref18_All_ok {E w : World} {I : Mem} {Os : List Mem} {p0 : List api_Role} {p1 : ByteArray} {a_p0 : Option Addr} {c_p0 : Nat} (h_p0 : RSl 2 R_api_Role I a_p0 c_p0 p0) (hS : St E w I Os) {r : (List ByteArray)} (hr : registrarref18_All p0 p1 = some r) :
    Calls P 56 #[(.slice a_p0 p0.length c_p0), (.string p1)] w (fun e w' => ∃ (I' : Mem) (ra0 : Option Addr) (rc0 : Nat), e = .returned (.slice ra0 r.length rc0) ∧ I.Le I' ∧ St E w' I' Os ∧ RSl 1 RStr I' ra0 rc0 r) := by
  refine calls_W (args := [(.slice a_p0 p0.length c_p0), (.string p1)]) (fn := Tryz.f56) rfl rfl rfl ?_
  unfold registrarref18_All at hr
  refine W.seq ?_
  refine W.region (l := [0]) (by kernel_rfl) ?_
  refine WO.vals [(0, 4, (.slice none 0 0))] (by kernel_rfl) (fun _ => by kernel_rfl) ?_
  refine WO.nil ?_
  refine En.next ?_
  refine W.seq ?_
  refine W.region (l := [0, 1, 2, 3]) (by kernel_rfl) ?_
  refine WO.vals [(0, 8, (.slice a_p0 p0.length c_p0)), (1, 9, (.string p1))] (by kernel_rfl) (fun _ => by kernel_rfl) ?_
  obtain ⟨r6, hx_r1, hr⟩ := bind_some hr
  refine WO.call rfl (by kernel_rfl) rfl (f := 73) (args := #[(.slice a_p0 p0.length c_p0), (.string p1)]) (by kernel_rfl) (registrarref18_Reach_ok h_p0 hS hx_r1) ?_
  rintro _ w2 ⟨I3, a_r6, c_r6, rfl, hl4, hS5, h_r6⟩
  refine ⟨_, rfl, trivial, ?_⟩
  refine WO.vals [(3, 5, (.slice a_r6 r6.length c_r6))] (by kernel_rfl) (fun _ => by kernel_rfl) ?_
  refine WO.nil ?_
  refine En.next ?_
  refine W.seq ?_
  refine W.region (l := [0]) (by kernel_rfl) ?_
  refine WO.vals [(0, 6, (.slice none 0 0))] (by kernel_rfl) (fun _ => by kernel_rfl) ?_
  refine WO.nil ?_
  refine En.next ?_
  refine W.seq ?_
  refine W.seq ?_
  refine W.region (l := [0]) (by kernel_rfl) ?_
  refine WO.vals [(0, 7, (.int .i64 0))] (by kernel_rfl) (fun _ => by kernel_rfl) ?_
  refine WO.nil ?_
  refine En.next ?_
  refine W.block ?_
  obtain ⟨s10, hloop12, hr⟩ := bind_some hr
  have hlt16 := ((RSl.mono h_p0 hl4)).len_lt
  refine W.weaken (fr' := [(0, (.slice a_p0 p0.length c_p0)), (5, (.slice a_r6 r6.length c_r6)), (6, (.slice none 0 0)), (7, (.int .i64 ((0 : Nat) : Int)))]) (W.forE (m := p0.length) hloop12 (fun (i11 : Nat) => fun (s10 : List ByteArray) fr w => ∃ (I8 : Mem), ∃ (a_s10 : Option Addr), ∃ (c_s10 : Nat), fr = [(0, (.slice a_p0 p0.length c_p0)), (5, (.slice a_r6 r6.length c_r6)), (6, (.slice a_s10 s10.length c_s10)), (7, (.int .i64 (i11 : Int)))] ∧ I3.Le I8 ∧ St E w I8 Os ∧ RSl 1 RStr I8 a_s10 c_s10 s10) ⟨I3, none, 0, rfl, Mem.Le.refl _, hS5, SlAt.nil⟩ ?roundt7 ?lastt7) (Sub.cons rfl (Sub.cons rfl (Sub.cons rfl (Sub.cons rfl Sub.nil))))
  case roundt7 =>
    rintro i11 s10 _ w13 hi17 ⟨I8, a_s10, c_s10, rfl, hl9, hS14, h_s10⟩ x15 hr1
    refine W.seq ?_
    refine W.seq ?_
    refine W.region (l := [0, 1, 2, 3]) (by kernel_rfl) ?_
    refine WO.vals [(0, 11, (.int .i64 (i11 : Int))), (1, 12, (.slice a_p0 p0.length c_p0)), (2, 13, (.int .i64 (p0.length : Int))), (3, 14, (.bool (decide ((i11 : Int) < (p0.length : Int)))))] (by kernel_rfl) (fun _ => by kernel_rfl) ?_
    refine WO.nil ?_
    refine En.next ?_
    refine W.cond (b := (decide ((i11 : Int) < (p0.length : Int)))) rfl rfl (fun hc => ?_) (fun hc => ?_)
    rotate_left
    · exact absurd hc (by first | (simp; done) | (simp; omega))
    clear hc
    refine W.skip ?_
    refine En.next ?_
    refine W.seq ?_
    refine W.block ?_
    refine W.seq ?_
    refine W.region (l := [0, 1, 2, 3]) (by kernel_rfl) ?_
    refine WO.vals [(0, 17, (.slice a_r6 r6.length c_r6)), (1, 18, (.int .i64 (i11 : Int)))] (by kernel_rfl) (fun _ => by kernel_rfl) ?_
    obtain ⟨x18, hx_x18, hr1⟩ := bind_some hr1
    obtain ⟨h0_x18, h1_x18, hx_x18⟩ := idx_some hx_x18
    obtain ⟨ha_x18, cs_x18, hn_x18, hr_x18, hc_x18⟩ := ((RSl.mono h_r6 hl9)).el _ _ hx_x18
    obtain rfl := hr_x18
    refine WO.indexAddr (e := 4) (sz := 1) rfl (by kernel_rfl) (by kernel_rfl) (by kernel_rfl) rfl ha_x18 rfl h0_x18 h1_x18 ?_
    refine WO.load rfl (by kernel_rfl) (by kernel_rfl) rfl (v := (.bool x18)) (fun w' hw' => hc_x18.cell0 (by kernel_rfl) ((rd_f hS14.im) w' hw')) ?_
    refine WO.nil ?_
    refine En.next ?_
    obtain ⟨j19, hr2, hr1⟩ := bind_some hr1
    refine W.join (J := (fun fr w => ∃ (I21 : Mem), ∃ (a_j19 : Option Addr), ∃ (c_j19 : Nat), fr = [(0, (.slice a_p0 p0.length c_p0)), (5, (.slice a_r6 r6.length c_r6)), (6, (.slice a_j19 j19.length c_j19)), (7, (.int .i64 (i11 : Int)))] ∧ I8.Le I21 ∧ St E w I21 Os ∧ RSl 1 RStr I21 a_j19 c_j19 j19)) ?restj19 ?waysj19
    case waysj19 =>
      refine W.cond (b := x18) rfl rfl (fun hc => ?_) (fun hc => ?_)
      · replace hr2 := cond_t hc hr2
        refine W.region (l := [0, 1, 2, 3, 4, 5, 6, 7]) (by kernel_rfl) ?_
        refine WO.vals [(0, 21, (.slice a_s10 s10.length c_s10)), (1, 22, (.slice a_p0 p0.length c_p0)), (2, 23, (.int .i64 (i11 : Int)))] (by kernel_rfl) (fun _ => by kernel_rfl) ?_
        obtain ⟨x23, hx_x23, hr2⟩ := bind_some hr2
        obtain ⟨h0_x23, h1_x23, hx_x23⟩ := idx_some hx_x23
        obtain ⟨ha_x23, cs_x23, hn_x23, hr_x23, hc_x23⟩ := ((RSl.mono h_p0 (hl4.trans hl9))).el _ _ hx_x23
        obtain ⟨w_x23, rfl, h_x23⟩ := hr_x23
        refine WO.indexAddr (e := 28) (sz := 2) rfl (by kernel_rfl) (by kernel_rfl) (by kernel_rfl) rfl ha_x23 rfl h0_x23 h1_x23 ?_
        refine WO.vals [(4, 25, (.pointer (some ⟨bl a_p0, of a_p0 + ((i11 : Int)).toNat * 2, none⟩)))] (by kernel_rfl) (fun _ => by kernel_rfl) ?_
        refine WO.load rfl (by kernel_rfl) (by kernel_rfl) rfl (v := (.string x23.Name)) (fun w' hw' => hc_x23.cell0 (by kernel_rfl) ((rd_f hS14.im) w' hw')) ?_
        obtain ⟨r29, hx_r24, hr2⟩ := bind_some hr2
        refine WO.call rfl (by kernel_rfl) rfl (f := 49) (args := #[(.slice a_s10 s10.length c_s10), (.string x23.Name)]) (by kernel_rfl) (registrarref18_into_ok h_s10 hS14 hx_r24) ?_
        rintro _ w25 ⟨I26, a_r29, c_r29, rfl, hl27, hS28, h_r29⟩
        refine ⟨_, rfl, trivial, ?_⟩
        refine WO.vals [(7, 6, (.slice a_r29 r29.length c_r29))] (by kernel_rfl) (fun _ => by kernel_rfl) ?_
        refine WO.nil ?_
        have he := Option.some.inj hr2
        subst j19
        refine En.weaken (fr' := [(0, (.slice a_p0 p0.length c_p0)), (5, (.slice a_r6 r6.length c_r6)), (6, (.slice a_r29 r29.length c_r29)), (7, (.int .i64 (i11 : Int)))]) (En.round ⟨I26, a_r29, c_r29, rfl, hl27, hS28, h_r29⟩) (Sub.cons rfl (Sub.cons rfl (Sub.cons rfl (Sub.cons rfl Sub.nil))))
      · replace hr2 := cond_f hc hr2
        refine W.skip ?_
        have he := Option.some.inj hr2
        subst j19
        refine En.weaken (fr' := [(0, (.slice a_p0 p0.length c_p0)), (5, (.slice a_r6 r6.length c_r6)), (6, (.slice a_s10 s10.length c_s10)), (7, (.int .i64 (i11 : Int)))]) (En.round ⟨I8, a_s10, c_s10, rfl, Mem.Le.refl _, hS14, h_s10⟩) (Sub.cons rfl (Sub.cons rfl (Sub.cons rfl (Sub.cons rfl Sub.nil))))
    case restj19 =>
      rintro _ w30 ⟨I21, a_j19, c_j19, rfl, hl22, hS31, h_j19⟩
      refine En.in_normal ?_
      refine En.next ?_
      refine W.region (l := [0, 1, 2]) (by kernel_rfl) ?_
      refine WO.vals [(0, 15, (.int .i64 (i11 : Int)))] (by kernel_rfl) (fun _ => by kernel_rfl) ?_
      refine WO.incr (j := i11) rfl (by kernel_rfl) rfl (by first | omega | (dsimp only at *; omega)) ?_
      refine WO.vals [(2, 7, (.int .i64 ((i11 + 1 : Nat) : Int)))] (by kernel_rfl) (fun _ => by kernel_rfl) ?_
      refine WO.nil ?_
      have he := Option.some.inj hr1
      subst x15
      refine En.weaken (fr' := [(0, (.slice a_p0 p0.length c_p0)), (5, (.slice a_r6 r6.length c_r6)), (6, (.slice a_j19 j19.length c_j19)), (7, (.int .i64 ((i11 + 1 : Nat) : Int)))]) (En.round ⟨I21, a_j19, c_j19, rfl, (hl9.trans hl22), hS31, h_j19⟩) (Sub.cons rfl (Sub.cons rfl (Sub.cons rfl (Sub.cons rfl Sub.nil))))
  case lastt7 =>
    rintro _ w32 ⟨I8, a_s10, c_s10, rfl, hl9, hS33, h_s10⟩
    refine W.seq ?_
    refine W.seq ?_
    refine W.region (l := [0, 1, 2, 3]) (by kernel_rfl) ?_
    refine WO.vals [(0, 11, (.int .i64 (p0.length : Int))), (1, 12, (.slice a_p0 p0.length c_p0)), (2, 13, (.int .i64 (p0.length : Int))), (3, 14, (.bool (decide ((p0.length : Int) < (p0.length : Int)))))] (by kernel_rfl) (fun _ => by kernel_rfl) ?_
    refine WO.nil ?_
    refine En.next ?_
    refine W.cond (b := (decide ((p0.length : Int) < (p0.length : Int)))) rfl rfl (fun hc => ?_) (fun hc => ?_)
    · exact absurd hc (by first | (simp; done) | (simp; omega))
    clear hc
    refine W.exit ?_
    refine En.nx_exit ?_
    refine En.rd_exit ?_
    refine En.in_hit ?_
    refine En.next ?_
    refine W.seq ?_
    refine W.region (l := [0, 1]) (by kernel_rfl) ?_
    refine WO.vals [(0, 28, (.slice a_s10 s10.length c_s10)), (1, 4, (.slice a_s10 s10.length c_s10))] (by kernel_rfl) (fun _ => by kernel_rfl) ?_
    refine WO.nil ?_
    refine En.next ?_
    refine W.ret ?_
    have he := Option.some.inj hr
    subst r
    exact En.ret1 rfl (.slice a_s10 s10.length c_s10) rfl ⟨I8, a_s10, c_s10, rfl, (hl4.trans hl9), hS33, h_s10⟩
def registrarref14_Has (p0 : List ByteArray) (p1 : ByteArray) : Option Bool := (forN (fun (i4 : Nat) => fun (_s : Unit) => (idx p0 (i4 : Int)).bind (fun (x11 : ByteArray) => (bif (sEq x11 p1) then some (.inr true) else some (.inl ())))) p0.length 0 ()).bind (fun (t : Unit ⊕ (Bool)) => match t with | .inl _ => some false | .inr s13 => some s13)
set_option maxHeartbeats 1000000 in
theorem registrarref14_Has_ok {E w : World} {I : Mem} {Os : List Mem} {p0 : List ByteArray} {p1 : ByteArray} {a_p0 : Option Addr} {c_p0 : Nat} (h_p0 : RSl 1 RStr I a_p0 c_p0 p0) (hS : St E w I Os) {r : Bool} (hr : registrarref14_Has p0 p1 = some r) :
    Calls P 47 #[(.slice a_p0 p0.length c_p0), (.string p1)] w (fun e w' => ∃ (I' : Mem), e = .returned (.bool r) ∧ I.Le I' ∧ St E w' I' Os) := by
  refine calls_W (args := [(.slice a_p0 p0.length c_p0), (.string p1)]) (fn := Tryz.f47) rfl rfl rfl ?_
  unfold registrarref14_Has at hr
  refine W.seq ?_
  refine W.region (l := [0]) (by kernel_rfl) ?_
  refine WO.vals [(0, 4, (.bool false))] (by kernel_rfl) (fun _ => by kernel_rfl) ?_
  refine WO.nil ?_
  refine En.next ?_
  refine W.seq ?_
  refine W.seq ?_
  refine W.region (l := [0]) (by kernel_rfl) ?_
  refine WO.vals [(0, 5, (.int .i64 0))] (by kernel_rfl) (fun _ => by kernel_rfl) ?_
  refine WO.nil ?_
  refine En.next ?_
  refine W.block ?_
  obtain ⟨t1, hloop5, hr⟩ := bind_some hr
  have hlt9 := (h_p0).len_lt
  refine W.weaken (fr' := [(0, (.slice a_p0 p0.length c_p0)), (1, (.string p1)), (5, (.int .i64 ((0 : Nat) : Int)))]) (W.forN (m := p0.length) hloop5 (fun (i4 : Nat) => fun (_s : Unit) fr w => ∃ (I2 : Mem), fr = [(0, (.slice a_p0 p0.length c_p0)), (1, (.string p1)), (5, (.int .i64 (i4 : Int)))] ∧ I.Le I2 ∧ St E w I2 Os) ⟨I, rfl, Mem.Le.refl _, hS⟩ ?roundt1 ?lastt1) (Sub.cons rfl (Sub.cons rfl (Sub.cons rfl Sub.nil)))
  case roundt1 =>
    rintro i4 _ _ w6 hi10 ⟨I2, rfl, hl3, hS7⟩ x8 hr1 hext1
    refine W.seq ?_
    refine W.seq ?_
    refine W.region (l := [0, 1, 2, 3]) (by kernel_rfl) ?_
    refine WO.vals [(0, 6, (.int .i64 (i4 : Int))), (1, 7, (.slice a_p0 p0.length c_p0)), (2, 8, (.int .i64 (p0.length : Int))), (3, 9, (.bool (decide ((i4 : Int) < (p0.length : Int)))))] (by kernel_rfl) (fun _ => by kernel_rfl) ?_
    refine WO.nil ?_
    refine En.next ?_
    refine W.cond (b := (decide ((i4 : Int) < (p0.length : Int)))) rfl rfl (fun hc => ?_) (fun hc => ?_)
    rotate_left
    · exact absurd hc (by first | (simp; done) | (simp; omega))
    clear hc
    refine W.skip ?_
    refine En.next ?_
    refine W.seq ?_
    refine W.block ?_
    refine W.seq ?_
    refine W.region (l := [0, 1, 2, 3, 4, 5]) (by kernel_rfl) ?_
    refine WO.vals [(0, 12, (.slice a_p0 p0.length c_p0)), (1, 13, (.int .i64 (i4 : Int)))] (by kernel_rfl) (fun _ => by kernel_rfl) ?_
    obtain ⟨x11, hx_x11, hr1⟩ := bind_some hr1
    obtain ⟨h0_x11, h1_x11, hx_x11⟩ := idx_some hx_x11
    obtain ⟨ha_x11, cs_x11, hn_x11, hr_x11, hc_x11⟩ := ((RSl.mono h_p0 hl3)).el _ _ hx_x11
    obtain rfl := hr_x11
    refine WO.indexAddr (e := 9) (sz := 1) rfl (by kernel_rfl) (by kernel_rfl) (by kernel_rfl) rfl ha_x11 rfl h0_x11 h1_x11 ?_
    refine WO.load rfl (by kernel_rfl) (by kernel_rfl) rfl (v := (.string x11)) (fun w' hw' => hc_x11.cell0 (by kernel_rfl) ((rd_f hS7.im) w' hw')) ?_
    refine WO.vals [(4, 16, (.string p1)), (5, 17, (.bool (sEq x11 p1)))] (by kernel_rfl) (fun _ => by kernel_rfl) ?_
    refine WO.nil ?_
    refine En.next ?_
    refine W.cond (b := (sEq x11 p1)) rfl rfl (fun hc => ?_) (fun hc => ?_)
    · replace hr1 := cond_t hc hr1
      refine W.seq ?_
      refine W.region (l := [0]) (by kernel_rfl) ?_
      refine WO.vals [(0, 4, (.bool true))] (by kernel_rfl) (fun _ => by kernel_rfl) ?_
      refine WO.nil ?_
      refine En.next ?_
      refine W.ret ?_
      refine En.in_ret ?_
      refine En.nx_ret ?_
      refine En.rd_ret ?_
      have ht := hext1 _ (Option.some.inj hr1).symm
      subst t1
      refine En.in_ret ?_
      refine En.nx_ret ?_
      have he := Option.some.inj hr
      subst r
      exact En.ret1 rfl (.bool true) rfl ⟨I2, rfl, hl3, hS7⟩
    · replace hr1 := cond_f hc hr1
      refine W.skip ?_
      refine En.in_normal ?_
      refine En.next ?_
      refine W.region (l := [0, 1, 2]) (by kernel_rfl) ?_
      refine WO.vals [(0, 10, (.int .i64 (i4 : Int)))] (by kernel_rfl) (fun _ => by kernel_rfl) ?_
      refine WO.incr (j := i4) rfl (by kernel_rfl) rfl (by first | omega | (dsimp only at *; omega)) ?_
      refine WO.vals [(2, 5, (.int .i64 ((i4 + 1 : Nat) : Int)))] (by kernel_rfl) (fun _ => by kernel_rfl) ?_
      refine WO.nil ?_
      refine En.weaken (fr' := [(0, (.slice a_p0 p0.length c_p0)), (1, (.string p1)), (5, (.int .i64 ((i4 + 1 : Nat) : Int)))]) (En.round ⟨(), (Option.some.inj hr1).symm, I2, rfl, hl3, hS7⟩) (Sub.cons rfl (Sub.cons rfl (Sub.cons rfl Sub.nil)))
  case lastt1 =>
    rintro _ _ w14 ⟨I2, rfl, hl3, hS15⟩ he
    cases he
    refine W.seq ?_
    refine W.seq ?_
    refine W.region (l := [0, 1, 2, 3]) (by kernel_rfl) ?_
    refine WO.vals [(0, 6, (.int .i64 (p0.length : Int))), (1, 7, (.slice a_p0 p0.length c_p0)), (2, 8, (.int .i64 (p0.length : Int))), (3, 9, (.bool (decide ((p0.length : Int) < (p0.length : Int)))))] (by kernel_rfl) (fun _ => by kernel_rfl) ?_
    refine WO.nil ?_
    refine En.next ?_
    refine W.cond (b := (decide ((p0.length : Int) < (p0.length : Int)))) rfl rfl (fun hc => ?_) (fun hc => ?_)
    · exact absurd hc (by first | (simp; done) | (simp; omega))
    clear hc
    refine W.exit ?_
    refine En.nx_exit ?_
    refine En.rd_exit ?_
    refine En.in_hit ?_
    refine En.next ?_
    refine W.seq ?_
    refine W.region (l := [0]) (by kernel_rfl) ?_
    refine WO.vals [(0, 4, (.bool false))] (by kernel_rfl) (fun _ => by kernel_rfl) ?_
    refine WO.nil ?_
    refine En.next ?_
    refine W.ret ?_
    have he := Option.some.inj hr
    subst r
    exact En.ret1 rfl (.bool false) rfl ⟨I2, rfl, hl3, hS15⟩
noncomputable def registrarref18_Is (p0 : List api_Role) (p1 : ByteArray) (p2 : ByteArray) : Option Bool := (registrarref18_All p0 p1).bind (fun (r6 : List ByteArray) => (registrarref14_Has r6 p2).bind (fun (r12 : Bool) => some r12))
set_option maxHeartbeats 1000000 in
theorem registrarref18_Is_ok {E w : World} {I : Mem} {Os : List Mem} {p0 : List api_Role} {p1 : ByteArray} {p2 : ByteArray} {a_p0 : Option Addr} {c_p0 : Nat} (h_p0 : RSl 2 R_api_Role I a_p0 c_p0 p0) (hS : St E w I Os) {r : Bool} (hr : registrarref18_Is p0 p1 p2 = some r) :
    Calls P 33 #[(.slice a_p0 p0.length c_p0), (.string p1), (.string p2)] w (fun e w' => ∃ (I' : Mem), e = .returned (.bool r) ∧ I.Le I' ∧ St E w' I' Os) := by
  refine calls_W (args := [(.slice a_p0 p0.length c_p0), (.string p1), (.string p2)]) (fn := Tryz.f33) rfl rfl rfl ?_
  unfold registrarref18_Is at hr
  refine W.seq ?_
  refine W.region (l := [0]) (by kernel_rfl) ?_
  refine WO.vals [(0, 6, (.bool false))] (by kernel_rfl) (fun _ => by kernel_rfl) ?_
  refine WO.nil ?_
  refine En.next ?_
  refine W.seq ?_
  refine W.region (l := [0, 1, 2, 3, 4, 5]) (by kernel_rfl) ?_
  refine WO.vals [(0, 7, (.slice a_p0 p0.length c_p0)), (1, 8, (.string p1))] (by kernel_rfl) (fun _ => by kernel_rfl) ?_
  obtain ⟨r6, hx_r1, hr⟩ := bind_some hr
  refine WO.call rfl (by kernel_rfl) rfl (f := 56) (args := #[(.slice a_p0 p0.length c_p0), (.string p1)]) (by kernel_rfl) (registrarref18_All_ok h_p0 hS hx_r1) ?_
  rintro _ w2 ⟨I3, a_r6, c_r6, rfl, hl4, hS5, h_r6⟩
  refine ⟨_, rfl, trivial, ?_⟩
  refine WO.vals [(3, 10, (.string p2))] (by kernel_rfl) (fun _ => by kernel_rfl) ?_
  obtain ⟨r12, hx_r7, hr⟩ := bind_some hr
  refine WO.call rfl (by kernel_rfl) rfl (f := 47) (args := #[(.slice a_r6 r6.length c_r6), (.string p2)]) (by kernel_rfl) (registrarref14_Has_ok h_r6 hS5 hx_r7) ?_
  rintro _ w8 ⟨I9, rfl, hl10, hS11⟩
  refine ⟨_, rfl, trivial, ?_⟩
  refine WO.vals [(5, 6, (.bool r12))] (by kernel_rfl) (fun _ => by kernel_rfl) ?_
  refine WO.nil ?_
  refine En.next ?_
  refine W.ret ?_
  have he := Option.some.inj hr
  subst r
  exact En.ret1 rfl (.bool r12) rfl ⟨I9, rfl, (hl4.trans hl10), hS11⟩
noncomputable def registrarref18_Check (p0 : List api_Role) : Option Int := (bif (decide ((p0.length : Int) > 8)) then some 2 else (forN (fun (i4 : Nat) => fun (_s : Unit) => (idx p0 (i4 : Int)).bind (fun (x13 : api_Role) => (registrarref09_IsName x13.Name).bind (fun (r19 : Bool) => ((bif (!r19) then some true else ((bif (decide ((i4 : Int) > 0)) then (idx p0 (w64 ((i4 : Int) - 1))).bind (fun (x28 : api_Role) => (idx p0 (i4 : Int)).bind (fun (x29 : api_Role) => some (!sLt x28.Name x29.Name))) else some false)).bind (fun (j24 : Bool) => some j24))).bind (fun (j20 : Bool) => (bif j20 then some (.inr 2) else (loopO (fun (s39 : Int) => (idx p0 (i4 : Int)).bind (fun (x44 : api_Role) => (bif (decide (s39 < (x44.In.length : Int))) then (idx p0 (i4 : Int)).bind (fun (x47 : api_Role) => (idx x47.In s39).bind (fun (x48 : ByteArray) => (registrarref18_At p0 x48).bind (fun (r54 : Int) => ((bif (decide (r54 < 0)) then some true else ((bif (decide (s39 > 0)) then (idx p0 (i4 : Int)).bind (fun (x63 : api_Role) => (idx x63.In (w64 (s39 - 1))).bind (fun (x64 : ByteArray) => (idx p0 (i4 : Int)).bind (fun (x65 : api_Role) => (idx x65.In s39).bind (fun (x66 : ByteArray) => some (!sLt x64 x66))))) else some false)).bind (fun (j59 : Bool) => some j59))).bind (fun (j55 : Bool) => (bif j55 then some (.inr (.inl 2)) else some (.inl (w64 (s39 + 1)))))))) else some (.inr (.inr ()))))) 0).bind (fun (t : Int ⊕ Unit) => match t with | (.inl s72) => some (.inr s72) | (.inr ()) => some (.inl ()))))))) p0.length 0 ()).bind (fun (t : Unit ⊕ (Int)) => match t with | .inl _ => (forN (fun (i79 : Nat) => fun (_s : Unit) => (loopO (fun (s89 : Int) => (idx p0 (i79 : Int)).bind (fun (x94 : api_Role) => (bif (decide (s89 < (x94.In.length : Int))) then (idx p0 (i79 : Int)).bind (fun (x97 : api_Role) => (idx x97.In s89).bind (fun (x98 : ByteArray) => (idx p0 (i79 : Int)).bind (fun (x99 : api_Role) => (registrarref18_Is p0 x98 x99.Name).bind (fun (r105 : Bool) => (bif r105 then some (.inr (.inl 2)) else some (.inl (w64 (s89 + 1)))))))) else some (.inr (.inr ()))))) 0).bind (fun (t : Int ⊕ Unit) => match t with | (.inl s107) => some (.inr s107) | (.inr ()) => some (.inl ()))) p0.length 0 ()).bind (fun (t : Unit ⊕ (Int)) => match t with | .inl _ => some 0 | .inr s109 => some s109) | .inr s35 => some s35))
set_option maxHeartbeats 1000000 in
theorem registrarref18_Check_ok {E w : World} {I : Mem} {Os : List Mem} {p0 : List api_Role} {a_p0 : Option Addr} {c_p0 : Nat} (h_p0 : RSl 2 R_api_Role I a_p0 c_p0 p0) (hS : St E w I Os) {r : Int} (hr : registrarref18_Check p0 = some r) :
    Calls P 11 #[(.slice a_p0 p0.length c_p0)] w (fun e w' => ∃ (I' : Mem), e = .returned (.int .i64 r) ∧ I.Le I' ∧ St E w' I' Os) := by
  refine calls_W (args := [(.slice a_p0 p0.length c_p0)]) (fn := Tryz.f11) rfl rfl rfl ?_
  unfold registrarref18_Check at hr
  refine W.seq ?_
  refine W.region (l := [0]) (by kernel_rfl) ?_
  refine WO.vals [(0, 2, (.int .i64 0))] (by kernel_rfl) (fun _ => by kernel_rfl) ?_
  refine WO.nil ?_
  refine En.next ?_
  refine W.seq ?_
  refine W.seq ?_
  refine W.region (l := [0, 1, 2]) (by kernel_rfl) ?_
  refine WO.vals [(0, 7, (.slice a_p0 p0.length c_p0)), (1, 8, (.int .i64 (p0.length : Int))), (2, 9, (.bool (decide ((p0.length : Int) > 8))))] (by kernel_rfl) (fun _ => by kernel_rfl) ?_
  refine WO.nil ?_
  refine En.next ?_
  refine W.cond (b := (decide ((p0.length : Int) > 8))) rfl rfl (fun hc => ?_) (fun hc => ?_)
  · replace hr := cond_t hc hr
    refine W.seq ?_
    refine W.region (l := [0]) (by kernel_rfl) ?_
    refine WO.vals [(0, 2, (.int .i64 2))] (by kernel_rfl) (fun _ => by kernel_rfl) ?_
    refine WO.nil ?_
    refine En.next ?_
    refine W.ret ?_
    refine En.nx_ret ?_
    have he := Option.some.inj hr
    subst r
    exact En.ret1 rfl (.int .i64 2) rfl ⟨I, rfl, Mem.Le.refl _, hS⟩
  · replace hr := cond_f hc hr
    refine W.skip ?_
    refine En.next ?_
    refine W.seq ?_
    refine W.seq ?_
    refine W.region (l := [0]) (by kernel_rfl) ?_
    refine WO.vals [(0, 3, (.int .i64 0))] (by kernel_rfl) (fun _ => by kernel_rfl) ?_
    refine WO.nil ?_
    refine En.next ?_
    refine W.block ?_
    obtain ⟨t1, hloop5, hr⟩ := bind_some hr
    have hlt9 := (h_p0).len_lt
    refine W.weaken (fr' := [(0, (.slice a_p0 p0.length c_p0)), (3, (.int .i64 ((0 : Nat) : Int)))]) (W.forN (m := p0.length) hloop5 (fun (i4 : Nat) => fun (_s : Unit) fr w => ∃ (I2 : Mem), fr = [(0, (.slice a_p0 p0.length c_p0)), (3, (.int .i64 (i4 : Int)))] ∧ I.Le I2 ∧ St E w I2 Os) ⟨I, rfl, Mem.Le.refl _, hS⟩ ?roundt1 ?lastt1) (Sub.cons rfl (Sub.cons rfl Sub.nil))
    case roundt1 =>
      rintro i4 _ _ w6 hi10 ⟨I2, rfl, hl3, hS7⟩ x8 hr1 hext1
      refine W.seq ?_
      refine W.seq ?_
      refine W.region (l := [0, 1, 2, 3]) (by kernel_rfl) ?_
      refine WO.vals [(0, 10, (.int .i64 (i4 : Int))), (1, 11, (.slice a_p0 p0.length c_p0)), (2, 12, (.int .i64 (p0.length : Int))), (3, 13, (.bool (decide ((i4 : Int) < (p0.length : Int)))))] (by kernel_rfl) (fun _ => by kernel_rfl) ?_
      refine WO.nil ?_
      refine En.next ?_
      refine W.cond (b := (decide ((i4 : Int) < (p0.length : Int)))) rfl rfl (fun hc => ?_) (fun hc => ?_)
      rotate_left
      · exact absurd hc (by first | (simp; done) | (simp; omega))
      clear hc
      refine W.skip ?_
      refine En.next ?_
      refine W.seq ?_
      refine W.block ?_
      refine W.seq ?_
      refine W.seq ?_
      have hS11 := hS7.drew
      refine W.draw (l := [0, 1, 2, 3, 4, 5, 6, 7, 8, 9, 10, 11, 12, 13, 14, 15, 16, 17, 18, 19, 20, 21, 22, 23, 24]) (by kernel_rfl) 25 (KR I2 []) qR (.back (by kernel_rfl)) (by kernel_rfl) (KR.nil hS11.im) ?_
      generalize World.drew _ = w12 at *
      refine WO.vals [(0, 16, (.slice a_p0 p0.length c_p0)), (1, 17, (.int .i64 (i4 : Int)))] (by kernel_rfl) (fun _ => by kernel_rfl) ?_
      obtain ⟨x13, hx_x13, hr1⟩ := bind_some hr1
      obtain ⟨h0_x13, h1_x13, hx_x13⟩ := idx_some hx_x13
      obtain ⟨ha_x13, cs_x13, hn_x13, hr_x13, hc_x13⟩ := ((RSl.mono h_p0 hl3)).el _ _ hx_x13
      obtain ⟨w_x13, rfl, h_x13⟩ := hr_x13
      refine WO.indexAddr (e := 28) (sz := 2) rfl (by kernel_rfl) (by kernel_rfl) (by kernel_rfl) rfl ha_x13 rfl h0_x13 h1_x13 ?_
      refine WO.vals [(3, 19, (.pointer (some ⟨bl a_p0, of a_p0 + ((i4 : Int)).toNat * 2, none⟩)))] (by kernel_rfl) (fun _ => by kernel_rfl) ?_
      refine WO.load rfl (by kernel_rfl) (by kernel_rfl) rfl (v := (.string x13.Name)) (fun w' hw' => hc_x13.cell0 (by kernel_rfl) ((rd_i hS11.im) w' hw')) ?_
      obtain ⟨r19, hx_r14, hr1⟩ := bind_some hr1
      refine WO.call rfl (by kernel_rfl) rfl (f := 31) (args := #[(.string x13.Name)]) (by kernel_rfl) (registrarref09_IsName_ok  hS11 hx_r14) ?_
      rintro _ w15 ⟨I16, rfl, hl17, hS18⟩
      refine ⟨_, rfl, (KR.nil (hS18.im.of_le hl17)), ?_⟩
      refine WO.vals [(6, 22, (.bool (!r19))), (7, 23, (.bool (!r19)))] (by kernel_rfl) (fun _ => by kernel_rfl) ?_
      obtain ⟨j20, hr2, hr1⟩ := bind_some hr1
      refine WO.join (l1 := [8, 9, 10, 11, 12, 13, 14, 15, 16, 17, 18, 19, 20, 21, 22, 23, 24]) (l2 := []) (J := (fun fr w => ∃ (I22 : Mem), fr = [(0, (.slice a_p0 p0.length c_p0)), (3, (.int .i64 (i4 : Int))), (40, (.bool j20))] ∧ I16.Le I22 ∧ St E w I22 Os)) ?restj20 ?waysj20
      case waysj20 =>
        refine WO.caseb (!r19) (fun hc => ?_) (fun hc => ?_)
        · replace hr2 := cond_t hc hr2
          refine WO.reslot 23 rfl (show Value.bool (!r19) = Value.bool true by rw [hc]) ?_
          refine WO.pass rfl (by kernel_rfl) rfl ?_
          refine WO.pass rfl (by kernel_rfl) rfl ?_
          refine WO.pass rfl (by kernel_rfl) rfl ?_
          refine WO.pass rfl (by kernel_rfl) rfl ?_
          refine WO.pass rfl (by kernel_rfl) rfl ?_
          refine WO.pass rfl (by kernel_rfl) rfl ?_
          refine WO.pass rfl (by kernel_rfl) rfl ?_
          refine WO.pass rfl (by kernel_rfl) rfl ?_
          refine WO.pass rfl (by kernel_rfl) rfl ?_
          refine WO.pass rfl (by kernel_rfl) rfl ?_
          refine WO.pass rfl (by kernel_rfl) rfl ?_
          refine WO.pass rfl (by kernel_rfl) rfl ?_
          refine WO.pass rfl (by kernel_rfl) rfl ?_
          refine WO.pass rfl (by kernel_rfl) rfl ?_
          refine WO.pass rfl (by kernel_rfl) rfl ?_
          refine WO.pass rfl (by kernel_rfl) rfl ?_
          refine WO.vals [(24, 40, (.bool true))] (by kernel_rfl) (fun _ => by kernel_rfl) ?_
          have he := Option.some.inj hr2
          subst j20
          refine WO.weaken (fr' := [(0, (.slice a_p0 p0.length c_p0)), (3, (.int .i64 (i4 : Int))), (40, (.bool true))]) (WO.meet ⟨I16, rfl, Mem.Le.refl _, hS18⟩) (Sub.cons rfl (Sub.cons rfl (Sub.cons rfl Sub.nil)))
        · replace hr2 := cond_f hc hr2
          refine WO.reslot 23 rfl (show Value.bool (!r19) = Value.bool false by rw [hc]) ?_
          refine WO.vals [(8, 24, (.int .i64 (i4 : Int))), (9, 25, (.bool (decide ((i4 : Int) > 0)))), (10, 26, (.bool (decide ((i4 : Int) > 0))))] (by kernel_rfl) (fun _ => by kernel_rfl) ?_
          obtain ⟨j24, hr3, hr2⟩ := bind_some hr2
          refine WO.join (l1 := [11, 12, 13, 14, 15, 16, 17, 18, 19, 20, 21, 22, 23]) (l2 := [24]) (J := (fun fr w => ∃ (I26 : Mem), fr = [(0, (.slice a_p0 p0.length c_p0)), (3, (.int .i64 (i4 : Int))), (23, (.bool false)), (39, (.bool j24))] ∧ I16.Le I26 ∧ St E w I26 Os)) ?restj24 ?waysj24
          case waysj24 =>
            refine WO.caseb (decide ((i4 : Int) > 0)) (fun hc => ?_) (fun hc => ?_)
            · replace hr3 := cond_t hc hr3
              refine WO.reslot 26 rfl (show Value.bool (decide ((i4 : Int) > 0)) = Value.bool true by rw [hc]) ?_
              refine WO.vals [(11, 27, (.slice a_p0 p0.length c_p0)), (12, 28, (.int .i64 (i4 : Int))), (13, 29, (.int .i64 (w64 ((i4 : Int) - 1))))] (by kernel_rfl) (fun _ => by kernel_rfl) ?_
              obtain ⟨x28, hx_x28, hr3⟩ := bind_some hr3
              obtain ⟨h0_x28, h1_x28, hx_x28⟩ := idx_some hx_x28
              obtain ⟨ha_x28, cs_x28, hn_x28, hr_x28, hc_x28⟩ := ((RSl.mono h_p0 hl3)).el _ _ hx_x28
              obtain ⟨w_x28, rfl, h_x28⟩ := hr_x28
              refine WO.indexAddr (e := 28) (sz := 2) rfl (by kernel_rfl) (by kernel_rfl) (by kernel_rfl) rfl ha_x28 rfl h0_x28 h1_x28 ?_
              refine WO.vals [(15, 31, (.pointer (some ⟨bl a_p0, of a_p0 + ((w64 ((i4 : Int) - 1))).toNat * 2, none⟩)))] (by kernel_rfl) (fun _ => by kernel_rfl) ?_
              refine WO.load rfl (by kernel_rfl) (by kernel_rfl) rfl (v := (.string x28.Name)) (fun w' hw' => hc_x28.cell0 (by kernel_rfl) ((rd_i (hS18.im.of_le hl17)) w' hw')) ?_
              refine WO.vals [(17, 33, (.slice a_p0 p0.length c_p0)), (18, 34, (.int .i64 (i4 : Int)))] (by kernel_rfl) (fun _ => by kernel_rfl) ?_
              obtain ⟨x29, hx_x29, hr3⟩ := bind_some hr3
              obtain ⟨h0_x29, h1_x29, hx_x29⟩ := idx_some hx_x29
              obtain ⟨ha_x29, cs_x29, hn_x29, hr_x29, hc_x29⟩ := ((RSl.mono h_p0 hl3)).el _ _ hx_x29
              obtain ⟨w_x29, rfl, h_x29⟩ := hr_x29
              refine WO.indexAddr (e := 28) (sz := 2) rfl (by kernel_rfl) (by kernel_rfl) (by kernel_rfl) rfl ha_x29 rfl h0_x29 h1_x29 ?_
              refine WO.vals [(20, 36, (.pointer (some ⟨bl a_p0, of a_p0 + ((i4 : Int)).toNat * 2, none⟩)))] (by kernel_rfl) (fun _ => by kernel_rfl) ?_
              refine WO.load rfl (by kernel_rfl) (by kernel_rfl) rfl (v := (.string x29.Name)) (fun w' hw' => hc_x29.cell0 (by kernel_rfl) ((rd_i (hS18.im.of_le hl17)) w' hw')) ?_
              refine WO.vals [(22, 38, (.bool (!sLt x28.Name x29.Name))), (23, 39, (.bool (!sLt x28.Name x29.Name)))] (by kernel_rfl) (fun _ => by kernel_rfl) ?_
              have he := Option.some.inj hr3
              subst j24
              refine WO.weaken (fr' := [(0, (.slice a_p0 p0.length c_p0)), (3, (.int .i64 (i4 : Int))), (23, (.bool false)), (39, (.bool (!sLt x28.Name x29.Name)))]) (WO.meet ⟨I16, rfl, Mem.Le.refl _, hS18⟩) (Sub.cons rfl (Sub.cons rfl (Sub.cons rfl (Sub.cons rfl Sub.nil))))
            · replace hr3 := cond_f hc hr3
              refine WO.reslot 26 rfl (show Value.bool (decide ((i4 : Int) > 0)) = Value.bool false by rw [hc]) ?_
              refine WO.pass rfl (by kernel_rfl) rfl ?_
              refine WO.pass rfl (by kernel_rfl) rfl ?_
              refine WO.pass rfl (by kernel_rfl) rfl ?_
              refine WO.pass rfl (by kernel_rfl) rfl ?_
              refine WO.pass rfl (by kernel_rfl) rfl ?_
              refine WO.pass rfl (by kernel_rfl) rfl ?_
              refine WO.pass rfl (by kernel_rfl) rfl ?_
              refine WO.pass rfl (by kernel_rfl) rfl ?_
              refine WO.pass rfl (by kernel_rfl) rfl ?_
              refine WO.pass rfl (by kernel_rfl) rfl ?_
              refine WO.pass rfl (by kernel_rfl) rfl ?_
              refine WO.pass rfl (by kernel_rfl) rfl ?_
              refine WO.vals [(23, 39, (.bool false))] (by kernel_rfl) (fun _ => by kernel_rfl) ?_
              have he := Option.some.inj hr3
              subst j24
              refine WO.weaken (fr' := [(0, (.slice a_p0 p0.length c_p0)), (3, (.int .i64 (i4 : Int))), (23, (.bool false)), (39, (.bool false))]) (WO.meet ⟨I16, rfl, Mem.Le.refl _, hS18⟩) (Sub.cons rfl (Sub.cons rfl (Sub.cons rfl (Sub.cons rfl Sub.nil))))
          case restj24 =>
            rintro _ w30 ⟨I26, rfl, hl27, hS31⟩
            refine WO.vals [(24, 40, (.bool j24))] (by kernel_rfl) (fun _ => by kernel_rfl) ?_
            have he := Option.some.inj hr2
            subst j20
            refine WO.weaken (fr' := [(0, (.slice a_p0 p0.length c_p0)), (3, (.int .i64 (i4 : Int))), (40, (.bool j24))]) (WO.meet ⟨I26, rfl, hl27, hS31⟩) (Sub.cons rfl (Sub.cons rfl (Sub.cons rfl Sub.nil)))
      case restj20 =>
        rintro _ w32 ⟨I22, rfl, hl23, hS33⟩
        refine WO.nil ?_
        refine En.next ?_
        refine W.cond (b := j20) rfl rfl (fun hc => ?_) (fun hc => ?_)
        · replace hr1 := cond_t hc hr1
          refine W.seq ?_
          refine W.region (l := [0]) (by kernel_rfl) ?_
          refine WO.vals [(0, 2, (.int .i64 2))] (by kernel_rfl) (fun _ => by kernel_rfl) ?_
          refine WO.nil ?_
          refine En.next ?_
          refine W.ret ?_
          refine En.nx_ret ?_
          refine En.in_ret ?_
          refine En.nx_ret ?_
          refine En.rd_ret ?_
          have ht := hext1 _ (Option.some.inj hr1).symm
          subst t1
          refine En.in_ret ?_
          refine En.nx_ret ?_
          have he := Option.some.inj hr
          subst r
          exact En.ret1 rfl (.int .i64 2) rfl ⟨I22, rfl, ((hl3.trans hl17).trans hl23), hS33⟩
        · replace hr1 := cond_f hc hr1
          refine W.skip ?_
          refine En.next ?_
          refine W.seq ?_
          refine W.region (l := [0]) (by kernel_rfl) ?_
          refine WO.vals [(0, 4, (.int .i64 0))] (by kernel_rfl) (fun _ => by kernel_rfl) ?_
          refine WO.nil ?_
          refine En.next ?_
          refine W.block ?_
          obtain ⟨t36, hloop40, hr1⟩ := bind_some hr1
          refine W.weaken (fr' := [(0, (.slice a_p0 p0.length c_p0)), (3, (.int .i64 (i4 : Int))), (4, (.int .i64 0))]) (W.loopO hloop40 (fun (s39 : Int) fr w => ∃ (I37 : Mem), fr = [(0, (.slice a_p0 p0.length c_p0)), (3, (.int .i64 (i4 : Int))), (4, (.int .i64 s39))] ∧ I22.Le I37 ∧ St E w I37 Os) ⟨I22, rfl, Mem.Le.refl _, hS33⟩ ?_) (Sub.cons rfl (Sub.cons rfl (Sub.cons rfl Sub.nil)))
          rintro s39 _ w41 ⟨I37, rfl, hl38, hS42⟩ x43 hr2 hext36
          refine W.seq ?_
          refine W.seq ?_
          refine W.region (l := [0, 1, 2, 3, 4, 5, 6, 7]) (by kernel_rfl) ?_
          refine WO.vals [(0, 41, (.int .i64 s39)), (1, 42, (.slice a_p0 p0.length c_p0)), (2, 43, (.int .i64 (i4 : Int)))] (by kernel_rfl) (fun _ => by kernel_rfl) ?_
          obtain ⟨x44, hx_x44, hr2⟩ := bind_some hr2
          obtain ⟨h0_x44, h1_x44, hx_x44⟩ := idx_some hx_x44
          obtain ⟨ha_x44, cs_x44, hn_x44, hr_x44, hc_x44⟩ := ((RSl.mono h_p0 (((hl3.trans hl17).trans hl23).trans hl38))).el _ _ hx_x44
          obtain ⟨w_x44, rfl, h_x44⟩ := hr_x44
          refine WO.indexAddr (e := 28) (sz := 2) rfl (by kernel_rfl) (by kernel_rfl) (by kernel_rfl) rfl ha_x44 rfl h0_x44 h1_x44 ?_
          refine WO.vals [(4, 45, (.pointer (some ⟨bl a_p0, of a_p0 + ((i4 : Int)).toNat * 2 + 1, none⟩)))] (by kernel_rfl) (fun _ => by kernel_rfl) ?_
          refine WO.load rfl (by kernel_rfl) (by kernel_rfl) rfl (v := (.slice w_x44.In.a x44.In.length w_x44.In.c)) (fun w' hw' => hc_x44.cellk 1 (by kernel_rfl) ((rd_f hS42.im) w' hw')) ?_
          refine WO.vals [(6, 47, (.int .i64 (x44.In.length : Int))), (7, 48, (.bool (decide (s39 < (x44.In.length : Int)))))] (by kernel_rfl) (fun _ => by kernel_rfl) ?_
          refine WO.nil ?_
          refine En.next ?_
          refine W.cond (b := (decide (s39 < (x44.In.length : Int)))) rfl rfl (fun hc => ?_) (fun hc => ?_)
          · replace hr2 := cond_t hc hr2
            refine W.skip ?_
            refine En.next ?_
            refine W.seq ?_
            refine W.block ?_
            refine W.seq ?_
            have hS45 := hS42.drew
            refine W.draw (l := [0, 1, 2, 3, 4, 5, 6, 7, 8, 9, 10, 11, 12, 13, 14, 15, 16, 17, 18, 19, 20, 21, 22, 23, 24, 25, 26, 27, 28, 29, 30, 31, 32, 33, 34]) (by kernel_rfl) 35 (KR I37 []) qR (.back (by kernel_rfl)) (by kernel_rfl) (KR.nil hS45.im) ?_
            generalize World.drew _ = w46 at *
            refine WO.vals [(0, 51, (.slice a_p0 p0.length c_p0)), (1, 52, (.slice a_p0 p0.length c_p0)), (2, 53, (.int .i64 (i4 : Int)))] (by kernel_rfl) (fun _ => by kernel_rfl) ?_
            obtain ⟨x47, hx_x47, hr2⟩ := bind_some hr2
            obtain ⟨h0_x47, h1_x47, hx_x47⟩ := idx_some hx_x47
            obtain ⟨ha_x47, cs_x47, hn_x47, hr_x47, hc_x47⟩ := ((RSl.mono h_p0 (((hl3.trans hl17).trans hl23).trans hl38))).el _ _ hx_x47
            obtain ⟨w_x47, rfl, h_x47⟩ := hr_x47
            refine WO.indexAddr (e := 28) (sz := 2) rfl (by kernel_rfl) (by kernel_rfl) (by kernel_rfl) rfl ha_x47 rfl h0_x47 h1_x47 ?_
            refine WO.vals [(4, 55, (.pointer (some ⟨bl a_p0, of a_p0 + ((i4 : Int)).toNat * 2 + 1, none⟩)))] (by kernel_rfl) (fun _ => by kernel_rfl) ?_
            refine WO.load rfl (by kernel_rfl) (by kernel_rfl) rfl (v := (.slice w_x47.In.a x47.In.length w_x47.In.c)) (fun w' hw' => hc_x47.cellk 1 (by kernel_rfl) ((rd_i hS45.im) w' hw')) ?_
            refine WO.vals [(6, 57, (.int .i64 s39))] (by kernel_rfl) (fun _ => by kernel_rfl) ?_
            obtain ⟨x48, hx_x48, hr2⟩ := bind_some hr2
            obtain ⟨h0_x48, h1_x48, hx_x48⟩ := idx_some hx_x48
            obtain ⟨ha_x48, cs_x48, hn_x48, hr_x48, hc_x48⟩ := (h_x47.In).el _ _ hx_x48
            obtain rfl := hr_x48
            refine WO.indexAddr (e := 9) (sz := 1) rfl (by kernel_rfl) (by kernel_rfl) (by kernel_rfl) rfl ha_x48 rfl h0_x48 h1_x48 ?_
            refine WO.load rfl (by kernel_rfl) (by kernel_rfl) rfl (v := (.string x48)) (fun w' hw' => hc_x48.cell0 (by kernel_rfl) ((rd_i hS45.im) w' hw')) ?_
            obtain ⟨r54, hx_r49, hr2⟩ := bind_some hr2
            refine WO.call rfl (by kernel_rfl) rfl (f := 32) (args := #[(.slice a_p0 p0.length c_p0), (.string x48)]) (by kernel_rfl) (registrarref18_At_ok (RSl.mono h_p0 (((hl3.trans hl17).trans hl23).trans hl38)) hS45 hx_r49) ?_
            rintro _ w50 ⟨I51, rfl, hl52, hS53⟩
            refine ⟨_, rfl, (KR.nil (hS53.im.of_le hl52)), ?_⟩
            refine WO.vals [(10, 61, (.bool (decide (r54 < 0)))), (11, 62, (.bool (decide (r54 < 0))))] (by kernel_rfl) (fun _ => by kernel_rfl) ?_
            obtain ⟨j55, hr3, hr2⟩ := bind_some hr2
            refine WO.join (l1 := [12, 13, 14, 15, 16, 17, 18, 19, 20, 21, 22, 23, 24, 25, 26, 27, 28, 29, 30, 31, 32, 33, 34]) (l2 := []) (J := (fun fr w => ∃ (I57 : Mem), fr = [(0, (.slice a_p0 p0.length c_p0)), (3, (.int .i64 (i4 : Int))), (4, (.int .i64 s39)), (85, (.bool j55))] ∧ I51.Le I57 ∧ St E w I57 Os)) ?restj55 ?waysj55
            case waysj55 =>
              refine WO.caseb (decide (r54 < 0)) (fun hc => ?_) (fun hc => ?_)
              · replace hr3 := cond_t hc hr3
                refine WO.reslot 62 rfl (show Value.bool (decide (r54 < 0)) = Value.bool true by rw [hc]) ?_
                refine WO.pass rfl (by kernel_rfl) rfl ?_
                refine WO.pass rfl (by kernel_rfl) rfl ?_
                refine WO.pass rfl (by kernel_rfl) rfl ?_
                refine WO.pass rfl (by kernel_rfl) rfl ?_
                refine WO.pass rfl (by kernel_rfl) rfl ?_
                refine WO.pass rfl (by kernel_rfl) rfl ?_
                refine WO.pass rfl (by kernel_rfl) rfl ?_
                refine WO.pass rfl (by kernel_rfl) rfl ?_
                refine WO.pass rfl (by kernel_rfl) rfl ?_
                refine WO.pass rfl (by kernel_rfl) rfl ?_
                refine WO.pass rfl (by kernel_rfl) rfl ?_
                refine WO.pass rfl (by kernel_rfl) rfl ?_
                refine WO.pass rfl (by kernel_rfl) rfl ?_
                refine WO.pass rfl (by kernel_rfl) rfl ?_
                refine WO.pass rfl (by kernel_rfl) rfl ?_
                refine WO.pass rfl (by kernel_rfl) rfl ?_
                refine WO.pass rfl (by kernel_rfl) rfl ?_
                refine WO.pass rfl (by kernel_rfl) rfl ?_
                refine WO.pass rfl (by kernel_rfl) rfl ?_
                refine WO.pass rfl (by kernel_rfl) rfl ?_
                refine WO.pass rfl (by kernel_rfl) rfl ?_
                refine WO.pass rfl (by kernel_rfl) rfl ?_
                refine WO.vals [(34, 85, (.bool true))] (by kernel_rfl) (fun _ => by kernel_rfl) ?_
                have he := Option.some.inj hr3
                subst j55
                refine WO.weaken (fr' := [(0, (.slice a_p0 p0.length c_p0)), (3, (.int .i64 (i4 : Int))), (4, (.int .i64 s39)), (85, (.bool true))]) (WO.meet ⟨I51, rfl, Mem.Le.refl _, hS53⟩) (Sub.cons rfl (Sub.cons rfl (Sub.cons rfl (Sub.cons rfl Sub.nil))))
              · replace hr3 := cond_f hc hr3
                refine WO.reslot 62 rfl (show Value.bool (decide (r54 < 0)) = Value.bool false by rw [hc]) ?_
                refine WO.vals [(12, 63, (.int .i64 s39)), (13, 64, (.bool (decide (s39 > 0)))), (14, 65, (.bool (decide (s39 > 0))))] (by kernel_rfl) (fun _ => by kernel_rfl) ?_
                obtain ⟨j59, hr4, hr3⟩ := bind_some hr3
                refine WO.join (l1 := [15, 16, 17, 18, 19, 20, 21, 22, 23, 24, 25, 26, 27, 28, 29, 30, 31, 32, 33]) (l2 := [34]) (J := (fun fr w => ∃ (I61 : Mem), fr = [(0, (.slice a_p0 p0.length c_p0)), (3, (.int .i64 (i4 : Int))), (4, (.int .i64 s39)), (62, (.bool false)), (84, (.bool j59))] ∧ I51.Le I61 ∧ St E w I61 Os)) ?restj59 ?waysj59
                case waysj59 =>
                  refine WO.caseb (decide (s39 > 0)) (fun hc => ?_) (fun hc => ?_)
                  · replace hr4 := cond_t hc hr4
                    refine WO.reslot 65 rfl (show Value.bool (decide (s39 > 0)) = Value.bool true by rw [hc]) ?_
                    refine WO.vals [(15, 66, (.slice a_p0 p0.length c_p0)), (16, 67, (.int .i64 (i4 : Int)))] (by kernel_rfl) (fun _ => by kernel_rfl) ?_
                    obtain ⟨x63, hx_x63, hr4⟩ := bind_some hr4
                    obtain ⟨h0_x63, h1_x63, hx_x63⟩ := idx_some hx_x63
                    obtain ⟨ha_x63, cs_x63, hn_x63, hr_x63, hc_x63⟩ := ((RSl.mono h_p0 (((hl3.trans hl17).trans hl23).trans hl38))).el _ _ hx_x63
                    obtain ⟨w_x63, rfl, h_x63⟩ := hr_x63
                    refine WO.indexAddr (e := 28) (sz := 2) rfl (by kernel_rfl) (by kernel_rfl) (by kernel_rfl) rfl ha_x63 rfl h0_x63 h1_x63 ?_
                    refine WO.vals [(18, 69, (.pointer (some ⟨bl a_p0, of a_p0 + ((i4 : Int)).toNat * 2 + 1, none⟩)))] (by kernel_rfl) (fun _ => by kernel_rfl) ?_
                    refine WO.load rfl (by kernel_rfl) (by kernel_rfl) rfl (v := (.slice w_x63.In.a x63.In.length w_x63.In.c)) (fun w' hw' => hc_x63.cellk 1 (by kernel_rfl) ((rd_i (hS53.im.of_le hl52)) w' hw')) ?_
                    refine WO.vals [(20, 71, (.int .i64 s39)), (21, 72, (.int .i64 (w64 (s39 - 1))))] (by kernel_rfl) (fun _ => by kernel_rfl) ?_
                    obtain ⟨x64, hx_x64, hr4⟩ := bind_some hr4
                    obtain ⟨h0_x64, h1_x64, hx_x64⟩ := idx_some hx_x64
                    obtain ⟨ha_x64, cs_x64, hn_x64, hr_x64, hc_x64⟩ := (h_x63.In).el _ _ hx_x64
                    obtain rfl := hr_x64
                    refine WO.indexAddr (e := 9) (sz := 1) rfl (by kernel_rfl) (by kernel_rfl) (by kernel_rfl) rfl ha_x64 rfl h0_x64 h1_x64 ?_
                    refine WO.load rfl (by kernel_rfl) (by kernel_rfl) rfl (v := (.string x64)) (fun w' hw' => hc_x64.cell0 (by kernel_rfl) ((rd_i (hS53.im.of_le hl52)) w' hw')) ?_
                    refine WO.vals [(24, 75, (.slice a_p0 p0.length c_p0)), (25, 76, (.int .i64 (i4 : Int)))] (by kernel_rfl) (fun _ => by kernel_rfl) ?_
                    obtain ⟨x65, hx_x65, hr4⟩ := bind_some hr4
                    obtain ⟨h0_x65, h1_x65, hx_x65⟩ := idx_some hx_x65
                    obtain ⟨ha_x65, cs_x65, hn_x65, hr_x65, hc_x65⟩ := ((RSl.mono h_p0 (((hl3.trans hl17).trans hl23).trans hl38))).el _ _ hx_x65
                    obtain ⟨w_x65, rfl, h_x65⟩ := hr_x65
                    refine WO.indexAddr (e := 28) (sz := 2) rfl (by kernel_rfl) (by kernel_rfl) (by kernel_rfl) rfl ha_x65 rfl h0_x65 h1_x65 ?_
                    refine WO.vals [(27, 78, (.pointer (some ⟨bl a_p0, of a_p0 + ((i4 : Int)).toNat * 2 + 1, none⟩)))] (by kernel_rfl) (fun _ => by kernel_rfl) ?_
                    refine WO.load rfl (by kernel_rfl) (by kernel_rfl) rfl (v := (.slice w_x65.In.a x65.In.length w_x65.In.c)) (fun w' hw' => hc_x65.cellk 1 (by kernel_rfl) ((rd_i (hS53.im.of_le hl52)) w' hw')) ?_
                    refine WO.vals [(29, 80, (.int .i64 s39))] (by kernel_rfl) (fun _ => by kernel_rfl) ?_
                    obtain ⟨x66, hx_x66, hr4⟩ := bind_some hr4
                    obtain ⟨h0_x66, h1_x66, hx_x66⟩ := idx_some hx_x66
                    obtain ⟨ha_x66, cs_x66, hn_x66, hr_x66, hc_x66⟩ := (h_x65.In).el _ _ hx_x66
                    obtain rfl := hr_x66
                    refine WO.indexAddr (e := 9) (sz := 1) rfl (by kernel_rfl) (by kernel_rfl) (by kernel_rfl) rfl ha_x66 rfl h0_x66 h1_x66 ?_
                    refine WO.load rfl (by kernel_rfl) (by kernel_rfl) rfl (v := (.string x66)) (fun w' hw' => hc_x66.cell0 (by kernel_rfl) ((rd_i (hS53.im.of_le hl52)) w' hw')) ?_
                    refine WO.vals [(32, 83, (.bool (!sLt x64 x66))), (33, 84, (.bool (!sLt x64 x66)))] (by kernel_rfl) (fun _ => by kernel_rfl) ?_
                    have he := Option.some.inj hr4
                    subst j59
                    refine WO.weaken (fr' := [(0, (.slice a_p0 p0.length c_p0)), (3, (.int .i64 (i4 : Int))), (4, (.int .i64 s39)), (62, (.bool false)), (84, (.bool (!sLt x64 x66)))]) (WO.meet ⟨I51, rfl, Mem.Le.refl _, hS53⟩) (Sub.cons rfl (Sub.cons rfl (Sub.cons rfl (Sub.cons rfl (Sub.cons rfl Sub.nil)))))
                  · replace hr4 := cond_f hc hr4
                    refine WO.reslot 65 rfl (show Value.bool (decide (s39 > 0)) = Value.bool false by rw [hc]) ?_
                    refine WO.pass rfl (by kernel_rfl) rfl ?_
                    refine WO.pass rfl (by kernel_rfl) rfl ?_
                    refine WO.pass rfl (by kernel_rfl) rfl ?_
                    refine WO.pass rfl (by kernel_rfl) rfl ?_
                    refine WO.pass rfl (by kernel_rfl) rfl ?_
                    refine WO.pass rfl (by kernel_rfl) rfl ?_
                    refine WO.pass rfl (by kernel_rfl) rfl ?_
                    refine WO.pass rfl (by kernel_rfl) rfl ?_
                    refine WO.pass rfl (by kernel_rfl) rfl ?_
                    refine WO.pass rfl (by kernel_rfl) rfl ?_
                    refine WO.pass rfl (by kernel_rfl) rfl ?_
                    refine WO.pass rfl (by kernel_rfl) rfl ?_
                    refine WO.pass rfl (by kernel_rfl) rfl ?_
                    refine WO.pass rfl (by kernel_rfl) rfl ?_
                    refine WO.pass rfl (by kernel_rfl) rfl ?_
                    refine WO.pass rfl (by kernel_rfl) rfl ?_
                    refine WO.pass rfl (by kernel_rfl) rfl ?_
                    refine WO.pass rfl (by kernel_rfl) rfl ?_
                    refine WO.vals [(33, 84, (.bool false))] (by kernel_rfl) (fun _ => by kernel_rfl) ?_
                    have he := Option.some.inj hr4
                    subst j59
                    refine WO.weaken (fr' := [(0, (.slice a_p0 p0.length c_p0)), (3, (.int .i64 (i4 : Int))), (4, (.int .i64 s39)), (62, (.bool false)), (84, (.bool false))]) (WO.meet ⟨I51, rfl, Mem.Le.refl _, hS53⟩) (Sub.cons rfl (Sub.cons rfl (Sub.cons rfl (Sub.cons rfl (Sub.cons rfl Sub.nil)))))
                case restj59 =>
                  rintro _ w67 ⟨I61, rfl, hl62, hS68⟩
                  refine WO.vals [(34, 85, (.bool j59))] (by kernel_rfl) (fun _ => by kernel_rfl) ?_
                  have he := Option.some.inj hr3
                  subst j55
                  refine WO.weaken (fr' := [(0, (.slice a_p0 p0.length c_p0)), (3, (.int .i64 (i4 : Int))), (4, (.int .i64 s39)), (85, (.bool j59))]) (WO.meet ⟨I61, rfl, hl62, hS68⟩) (Sub.cons rfl (Sub.cons rfl (Sub.cons rfl (Sub.cons rfl Sub.nil))))
            case restj55 =>
              rintro _ w69 ⟨I57, rfl, hl58, hS70⟩
              refine WO.nil ?_
              refine En.next ?_
              refine W.cond (b := j55) rfl rfl (fun hc => ?_) (fun hc => ?_)
              · replace hr2 := cond_t hc hr2
                refine W.seq ?_
                refine W.region (l := [0]) (by kernel_rfl) ?_
                refine WO.vals [(0, 2, (.int .i64 2))] (by kernel_rfl) (fun _ => by kernel_rfl) ?_
                refine WO.nil ?_
                refine En.next ?_
                refine W.ret ?_
                refine En.in_ret ?_
                refine En.nx_ret ?_
                refine En.rd_ret ?_
                have ht := hext36 _ (Option.some.inj hr2).symm
                subst t36
                refine En.in_ret ?_
                refine En.in_ret ?_
                refine En.nx_ret ?_
                refine En.rd_ret ?_
                have ht := hext1 _ (Option.some.inj hr1).symm
                subst t1
                refine En.in_ret ?_
                refine En.nx_ret ?_
                have he := Option.some.inj hr
                subst r
                exact En.ret1 rfl (.int .i64 2) rfl ⟨I57, rfl, (((((hl3.trans hl17).trans hl23).trans hl38).trans hl52).trans hl58), hS70⟩
              · replace hr2 := cond_f hc hr2
                refine W.skip ?_
                refine En.in_normal ?_
                refine En.next ?_
                refine W.region (l := [0, 1, 2]) (by kernel_rfl) ?_
                refine WO.vals [(0, 49, (.int .i64 s39)), (1, 50, (.int .i64 (w64 (s39 + 1)))), (2, 4, (.int .i64 (w64 (s39 + 1))))] (by kernel_rfl) (fun _ => by kernel_rfl) ?_
                refine WO.nil ?_
                refine En.weaken (fr' := [(0, (.slice a_p0 p0.length c_p0)), (3, (.int .i64 (i4 : Int))), (4, (.int .i64 (w64 (s39 + 1))))]) (En.round ⟨(w64 (s39 + 1)), (Option.some.inj hr2).symm, I57, rfl, ((hl38.trans hl52).trans hl58), hS70⟩) (Sub.cons rfl (Sub.cons rfl (Sub.cons rfl Sub.nil)))
          · replace hr2 := cond_f hc hr2
            refine W.exit ?_
            refine En.nx_exit ?_
            refine En.rd_exit ?_
            have ht := hext36 _ (Option.some.inj hr2).symm
            subst t36
            refine En.in_hit ?_
            refine En.in_normal ?_
            refine En.next ?_
            refine W.region (l := [0, 1, 2]) (by kernel_rfl) ?_
            refine WO.vals [(0, 14, (.int .i64 (i4 : Int)))] (by kernel_rfl) (fun _ => by kernel_rfl) ?_
            refine WO.incr (j := i4) rfl (by kernel_rfl) rfl (by first | omega | (dsimp only at *; omega)) ?_
            refine WO.vals [(2, 3, (.int .i64 ((i4 + 1 : Nat) : Int)))] (by kernel_rfl) (fun _ => by kernel_rfl) ?_
            refine WO.nil ?_
            refine En.weaken (fr' := [(0, (.slice a_p0 p0.length c_p0)), (3, (.int .i64 ((i4 + 1 : Nat) : Int)))]) (En.round ⟨(), (Option.some.inj hr1).symm, I37, rfl, (((hl3.trans hl17).trans hl23).trans hl38), hS42⟩) (Sub.cons rfl (Sub.cons rfl Sub.nil))
    case lastt1 =>
      rintro _ _ w74 ⟨I2, rfl, hl3, hS75⟩ he
      cases he
      refine W.seq ?_
      refine W.seq ?_
      refine W.region (l := [0, 1, 2, 3]) (by kernel_rfl) ?_
      refine WO.vals [(0, 10, (.int .i64 (p0.length : Int))), (1, 11, (.slice a_p0 p0.length c_p0)), (2, 12, (.int .i64 (p0.length : Int))), (3, 13, (.bool (decide ((p0.length : Int) < (p0.length : Int)))))] (by kernel_rfl) (fun _ => by kernel_rfl) ?_
      refine WO.nil ?_
      refine En.next ?_
      refine W.cond (b := (decide ((p0.length : Int) < (p0.length : Int)))) rfl rfl (fun hc => ?_) (fun hc => ?_)
      · exact absurd hc (by first | (simp; done) | (simp; omega))
      clear hc
      refine W.exit ?_
      refine En.nx_exit ?_
      refine En.rd_exit ?_
      refine En.in_hit ?_
      refine En.next ?_
      refine W.seq ?_
      refine W.seq ?_
      refine W.region (l := [0]) (by kernel_rfl) ?_
      refine WO.vals [(0, 5, (.int .i64 0))] (by kernel_rfl) (fun _ => by kernel_rfl) ?_
      refine WO.nil ?_
      refine En.next ?_
      refine W.block ?_
      obtain ⟨t76, hloop80, hr⟩ := bind_some hr
      have hlt84 := ((RSl.mono h_p0 hl3)).len_lt
      refine W.weaken (fr' := [(0, (.slice a_p0 p0.length c_p0)), (5, (.int .i64 ((0 : Nat) : Int)))]) (W.forN (m := p0.length) hloop80 (fun (i79 : Nat) => fun (_s : Unit) fr w => ∃ (I77 : Mem), fr = [(0, (.slice a_p0 p0.length c_p0)), (5, (.int .i64 (i79 : Int)))] ∧ I2.Le I77 ∧ St E w I77 Os) ⟨I2, rfl, Mem.Le.refl _, hS75⟩ ?roundt76 ?lastt76) (Sub.cons rfl (Sub.cons rfl Sub.nil))
      case roundt76 =>
        rintro i79 _ _ w81 hi85 ⟨I77, rfl, hl78, hS82⟩ x83 hr1 hext76
        refine W.seq ?_
        refine W.seq ?_
        refine W.region (l := [0, 1, 2, 3]) (by kernel_rfl) ?_
        refine WO.vals [(0, 86, (.int .i64 (i79 : Int))), (1, 87, (.slice a_p0 p0.length c_p0)), (2, 88, (.int .i64 (p0.length : Int))), (3, 89, (.bool (decide ((i79 : Int) < (p0.length : Int)))))] (by kernel_rfl) (fun _ => by kernel_rfl) ?_
        refine WO.nil ?_
        refine En.next ?_
        refine W.cond (b := (decide ((i79 : Int) < (p0.length : Int)))) rfl rfl (fun hc => ?_) (fun hc => ?_)
        rotate_left
        · exact absurd hc (by first | (simp; done) | (simp; omega))
        clear hc
        refine W.skip ?_
        refine En.next ?_
        refine W.seq ?_
        refine W.block ?_
        refine W.seq ?_
        refine W.region (l := [0]) (by kernel_rfl) ?_
        refine WO.vals [(0, 6, (.int .i64 0))] (by kernel_rfl) (fun _ => by kernel_rfl) ?_
        refine WO.nil ?_
        refine En.next ?_
        refine W.block ?_
        obtain ⟨t86, hloop90, hr1⟩ := bind_some hr1
        refine W.weaken (fr' := [(0, (.slice a_p0 p0.length c_p0)), (5, (.int .i64 (i79 : Int))), (6, (.int .i64 0))]) (W.loopO hloop90 (fun (s89 : Int) fr w => ∃ (I87 : Mem), fr = [(0, (.slice a_p0 p0.length c_p0)), (5, (.int .i64 (i79 : Int))), (6, (.int .i64 s89))] ∧ I77.Le I87 ∧ St E w I87 Os) ⟨I77, rfl, Mem.Le.refl _, hS82⟩ ?_) (Sub.cons rfl (Sub.cons rfl (Sub.cons rfl Sub.nil)))
        rintro s89 _ w91 ⟨I87, rfl, hl88, hS92⟩ x93 hr2 hext86
        refine W.seq ?_
        refine W.seq ?_
        refine W.region (l := [0, 1, 2, 3, 4, 5, 6, 7]) (by kernel_rfl) ?_
        refine WO.vals [(0, 92, (.int .i64 s89)), (1, 93, (.slice a_p0 p0.length c_p0)), (2, 94, (.int .i64 (i79 : Int)))] (by kernel_rfl) (fun _ => by kernel_rfl) ?_
        obtain ⟨x94, hx_x94, hr2⟩ := bind_some hr2
        obtain ⟨h0_x94, h1_x94, hx_x94⟩ := idx_some hx_x94
        obtain ⟨ha_x94, cs_x94, hn_x94, hr_x94, hc_x94⟩ := ((RSl.mono h_p0 ((hl3.trans hl78).trans hl88))).el _ _ hx_x94
        obtain ⟨w_x94, rfl, h_x94⟩ := hr_x94
        refine WO.indexAddr (e := 28) (sz := 2) rfl (by kernel_rfl) (by kernel_rfl) (by kernel_rfl) rfl ha_x94 rfl h0_x94 h1_x94 ?_
        refine WO.vals [(4, 96, (.pointer (some ⟨bl a_p0, of a_p0 + ((i79 : Int)).toNat * 2 + 1, none⟩)))] (by kernel_rfl) (fun _ => by kernel_rfl) ?_
        refine WO.load rfl (by kernel_rfl) (by kernel_rfl) rfl (v := (.slice w_x94.In.a x94.In.length w_x94.In.c)) (fun w' hw' => hc_x94.cellk 1 (by kernel_rfl) ((rd_f hS92.im) w' hw')) ?_
        refine WO.vals [(6, 98, (.int .i64 (x94.In.length : Int))), (7, 99, (.bool (decide (s89 < (x94.In.length : Int)))))] (by kernel_rfl) (fun _ => by kernel_rfl) ?_
        refine WO.nil ?_
        refine En.next ?_
        refine W.cond (b := (decide (s89 < (x94.In.length : Int)))) rfl rfl (fun hc => ?_) (fun hc => ?_)
        · replace hr2 := cond_t hc hr2
          refine W.skip ?_
          refine En.next ?_
          refine W.seq ?_
          refine W.block ?_
          refine W.seq ?_
          have hS95 := hS92.drew
          refine W.draw (l := [0, 1, 2, 3, 4, 5, 6, 7, 8, 9, 10, 11, 12, 13, 14]) (by kernel_rfl) 14 (KR I87 []) qR (.back (by kernel_rfl)) (by kernel_rfl) (KR.nil hS95.im) ?_
          generalize World.drew _ = w96 at *
          refine WO.vals [(0, 102, (.slice a_p0 p0.length c_p0)), (1, 103, (.slice a_p0 p0.length c_p0)), (2, 104, (.int .i64 (i79 : Int)))] (by kernel_rfl) (fun _ => by kernel_rfl) ?_
          obtain ⟨x97, hx_x97, hr2⟩ := bind_some hr2
          obtain ⟨h0_x97, h1_x97, hx_x97⟩ := idx_some hx_x97
          obtain ⟨ha_x97, cs_x97, hn_x97, hr_x97, hc_x97⟩ := ((RSl.mono h_p0 ((hl3.trans hl78).trans hl88))).el _ _ hx_x97
          obtain ⟨w_x97, rfl, h_x97⟩ := hr_x97
          refine WO.indexAddr (e := 28) (sz := 2) rfl (by kernel_rfl) (by kernel_rfl) (by kernel_rfl) rfl ha_x97 rfl h0_x97 h1_x97 ?_
          refine WO.vals [(4, 106, (.pointer (some ⟨bl a_p0, of a_p0 + ((i79 : Int)).toNat * 2 + 1, none⟩)))] (by kernel_rfl) (fun _ => by kernel_rfl) ?_
          refine WO.load rfl (by kernel_rfl) (by kernel_rfl) rfl (v := (.slice w_x97.In.a x97.In.length w_x97.In.c)) (fun w' hw' => hc_x97.cellk 1 (by kernel_rfl) ((rd_i hS95.im) w' hw')) ?_
          refine WO.vals [(6, 108, (.int .i64 s89))] (by kernel_rfl) (fun _ => by kernel_rfl) ?_
          obtain ⟨x98, hx_x98, hr2⟩ := bind_some hr2
          obtain ⟨h0_x98, h1_x98, hx_x98⟩ := idx_some hx_x98
          obtain ⟨ha_x98, cs_x98, hn_x98, hr_x98, hc_x98⟩ := (h_x97.In).el _ _ hx_x98
          obtain rfl := hr_x98
          refine WO.indexAddr (e := 9) (sz := 1) rfl (by kernel_rfl) (by kernel_rfl) (by kernel_rfl) rfl ha_x98 rfl h0_x98 h1_x98 ?_
          refine WO.load rfl (by kernel_rfl) (by kernel_rfl) rfl (v := (.string x98)) (fun w' hw' => hc_x98.cell0 (by kernel_rfl) ((rd_i hS95.im) w' hw')) ?_
          refine WO.vals [(9, 111, (.slice a_p0 p0.length c_p0)), (10, 112, (.int .i64 (i79 : Int)))] (by kernel_rfl) (fun _ => by kernel_rfl) ?_
          obtain ⟨x99, hx_x99, hr2⟩ := bind_some hr2
          obtain ⟨h0_x99, h1_x99, hx_x99⟩ := idx_some hx_x99
          obtain ⟨ha_x99, cs_x99, hn_x99, hr_x99, hc_x99⟩ := ((RSl.mono h_p0 ((hl3.trans hl78).trans hl88))).el _ _ hx_x99
          obtain ⟨w_x99, rfl, h_x99⟩ := hr_x99
          refine WO.indexAddr (e := 28) (sz := 2) rfl (by kernel_rfl) (by kernel_rfl) (by kernel_rfl) rfl ha_x99 rfl h0_x99 h1_x99 ?_
          refine WO.vals [(12, 114, (.pointer (some ⟨bl a_p0, of a_p0 + ((i79 : Int)).toNat * 2, none⟩)))] (by kernel_rfl) (fun _ => by kernel_rfl) ?_
          refine WO.load rfl (by kernel_rfl) (by kernel_rfl) rfl (v := (.string x99.Name)) (fun w' hw' => hc_x99.cell0 (by kernel_rfl) ((rd_i hS95.im) w' hw')) ?_
          refine WO.tail rfl ?_
          obtain ⟨r105, hx_r100, hr2⟩ := bind_some hr2
          refine WO.call rfl (by kernel_rfl) rfl (f := 33) (args := #[(.slice a_p0 p0.length c_p0), (.string x98), (.string x99.Name)]) (by kernel_rfl) (registrarref18_Is_ok (RSl.mono h_p0 ((hl3.trans hl78).trans hl88)) hS95 hx_r100) ?_
          rintro _ w101 ⟨I102, rfl, hl103, hS104⟩
          refine ⟨_, rfl, trivial, ?_⟩
          refine WO.nil ?_
          refine En.next ?_
          refine W.cond (b := r105) rfl rfl (fun hc => ?_) (fun hc => ?_)
          · replace hr2 := cond_t hc hr2
            refine W.seq ?_
            refine W.region (l := [0]) (by kernel_rfl) ?_
            refine WO.vals [(0, 2, (.int .i64 2))] (by kernel_rfl) (fun _ => by kernel_rfl) ?_
            refine WO.nil ?_
            refine En.next ?_
            refine W.ret ?_
            refine En.in_ret ?_
            refine En.nx_ret ?_
            refine En.rd_ret ?_
            have ht := hext86 _ (Option.some.inj hr2).symm
            subst t86
            refine En.in_ret ?_
            refine En.in_ret ?_
            refine En.nx_ret ?_
            refine En.rd_ret ?_
            have ht := hext76 _ (Option.some.inj hr1).symm
            subst t76
            refine En.in_ret ?_
            refine En.nx_ret ?_
            have he := Option.some.inj hr
            subst r
            exact En.ret1 rfl (.int .i64 2) rfl ⟨I102, rfl, (((hl3.trans hl78).trans hl88).trans hl103), hS104⟩
          · replace hr2 := cond_f hc hr2
            refine W.skip ?_
            refine En.in_normal ?_
            refine En.next ?_
            refine W.region (l := [0, 1, 2]) (by kernel_rfl) ?_
            refine WO.vals [(0, 100, (.int .i64 s89)), (1, 101, (.int .i64 (w64 (s89 + 1)))), (2, 6, (.int .i64 (w64 (s89 + 1))))] (by kernel_rfl) (fun _ => by kernel_rfl) ?_
            refine WO.nil ?_
            refine En.weaken (fr' := [(0, (.slice a_p0 p0.length c_p0)), (5, (.int .i64 (i79 : Int))), (6, (.int .i64 (w64 (s89 + 1))))]) (En.round ⟨(w64 (s89 + 1)), (Option.some.inj hr2).symm, I102, rfl, (hl88.trans hl103), hS104⟩) (Sub.cons rfl (Sub.cons rfl (Sub.cons rfl Sub.nil)))
        · replace hr2 := cond_f hc hr2
          refine W.exit ?_
          refine En.nx_exit ?_
          refine En.rd_exit ?_
          have ht := hext86 _ (Option.some.inj hr2).symm
          subst t86
          refine En.in_hit ?_
          refine En.in_normal ?_
          refine En.next ?_
          refine W.region (l := [0, 1, 2]) (by kernel_rfl) ?_
          refine WO.vals [(0, 90, (.int .i64 (i79 : Int)))] (by kernel_rfl) (fun _ => by kernel_rfl) ?_
          refine WO.incr (j := i79) rfl (by kernel_rfl) rfl (by first | omega | (dsimp only at *; omega)) ?_
          refine WO.vals [(2, 5, (.int .i64 ((i79 + 1 : Nat) : Int)))] (by kernel_rfl) (fun _ => by kernel_rfl) ?_
          refine WO.nil ?_
          refine En.weaken (fr' := [(0, (.slice a_p0 p0.length c_p0)), (5, (.int .i64 ((i79 + 1 : Nat) : Int)))]) (En.round ⟨(), (Option.some.inj hr1).symm, I87, rfl, (hl78.trans hl88), hS92⟩) (Sub.cons rfl (Sub.cons rfl Sub.nil))
      case lastt76 =>
        rintro _ _ w111 ⟨I77, rfl, hl78, hS112⟩ he
        cases he
        refine W.seq ?_
        refine W.seq ?_
        refine W.region (l := [0, 1, 2, 3]) (by kernel_rfl) ?_
        refine WO.vals [(0, 86, (.int .i64 (p0.length : Int))), (1, 87, (.slice a_p0 p0.length c_p0)), (2, 88, (.int .i64 (p0.length : Int))), (3, 89, (.bool (decide ((p0.length : Int) < (p0.length : Int)))))] (by kernel_rfl) (fun _ => by kernel_rfl) ?_
        refine WO.nil ?_
        refine En.next ?_
        refine W.cond (b := (decide ((p0.length : Int) < (p0.length : Int)))) rfl rfl (fun hc => ?_) (fun hc => ?_)
        · exact absurd hc (by first | (simp; done) | (simp; omega))
        clear hc
        refine W.exit ?_
        refine En.nx_exit ?_
        refine En.rd_exit ?_
        refine En.in_hit ?_
        refine En.next ?_
        refine W.seq ?_
        refine W.region (l := [0]) (by kernel_rfl) ?_
        refine WO.vals [(0, 2, (.int .i64 0))] (by kernel_rfl) (fun _ => by kernel_rfl) ?_
        refine WO.nil ?_
        refine En.next ?_
        refine W.ret ?_
        have he := Option.some.inj hr
        subst r
        exact En.ret1 rfl (.int .i64 0) rfl ⟨I77, rfl, (hl3.trans hl78), hS112⟩
noncomputable def registrarref18_Create (p0 : List api_Role) (p1 : ByteArray) : Option ((List api_Role) × Int) := (registrarref18_Check p0).bind (fun (r6 : Int) => (bif (r6 != 0) then some (([] : List api_Role), r6) else (registrarref09_IsName p1).bind (fun (r12 : Bool) => (bif (!r12) then some (([] : List api_Role), 18) else (registrarref18_At p0 p1).bind (fun (r18 : Int) => (bif (decide (r18 ≥ 0)) then some (([] : List api_Role), 19) else (bif ((p0.length : Int) == 8) then some (([] : List api_Role), 5) else (loopO (fun (s22 : Int) => ((bif (decide (s22 < (p0.length : Int))) then (idx p0 s22).bind (fun (x31 : api_Role) => some (sLt x31.Name p1)) else some false)).bind (fun (j27 : Bool) => (bif j27 then some (.inl (w64 (s22 + 1))) else some (.inr s22)))) 0).bind (fun (s35 : Int) => (sub p0 0 s35).bind (fun (x36 : List api_Role) => (app 40 ([] : List api_Role) x36).bind (fun (x39 : List api_Role) => (app 40 x39 ([{ z_api_Role with Name := p1 }] : List api_Role)).bind (fun (x55 : List api_Role) => (sub p0 s35 (p0.length : Int)).bind (fun (x64 : List api_Role) => (app 40 x55 x64).bind (fun (x65 : List api_Role) => some (x65, 0))))))))))))))
set_option maxHeartbeats 1000000 in
theorem registrarref18_Create_ok {E w : World} {I : Mem} {Os : List Mem} {p0 : List api_Role} {p1 : ByteArray} {a_p0 : Option Addr} {c_p0 : Nat} (h_p0 : RSl 2 R_api_Role I a_p0 c_p0 p0) (hS : St E w I Os) {r : (List api_Role) × Int} (hr : registrarref18_Create p0 p1 = some r) :
    Calls P 18 #[(.slice a_p0 p0.length c_p0), (.string p1)] w (fun e w' => ∃ (I' : Mem) (ra0 : Option Addr) (rc0 : Nat), e = .returned (.tuple #[(.slice ra0 r.1.length rc0), (.int .i64 r.2)]) ∧ I.Le I' ∧ St E w' I' Os ∧ RSl 2 R_api_Role I' ra0 rc0 r.1) := by
  refine calls_W (args := [(.slice a_p0 p0.length c_p0), (.string p1)]) (fn := Tryz.f18) rfl rfl rfl ?_
  unfold registrarref18_Create at hr
  refine W.seq ?_
  refine W.region (l := [0, 1]) (by kernel_rfl) ?_
  refine WO.vals [(0, 4, (.slice none 0 0)), (1, 5, (.int .i64 0))] (by kernel_rfl) (fun _ => by kernel_rfl) ?_
  refine WO.nil ?_
  refine En.next ?_
  refine W.seq ?_
  refine W.region (l := [0, 1, 2]) (by kernel_rfl) ?_
  refine WO.vals [(0, 9, (.slice a_p0 p0.length c_p0))] (by kernel_rfl) (fun _ => by kernel_rfl) ?_
  obtain ⟨r6, hx_r1, hr⟩ := bind_some hr
  refine WO.call rfl (by kernel_rfl) rfl (f := 11) (args := #[(.slice a_p0 p0.length c_p0)]) (by kernel_rfl) (registrarref18_Check_ok h_p0 hS hx_r1) ?_
  rintro _ w2 ⟨I3, rfl, hl4, hS5⟩
  refine ⟨_, rfl, trivial, ?_⟩
  refine WO.vals [(2, 6, (.int .i64 r6))] (by kernel_rfl) (fun _ => by kernel_rfl) ?_
  refine WO.nil ?_
  refine En.next ?_
  refine W.seq ?_
  refine W.seq ?_
  refine W.region (l := [0, 1]) (by kernel_rfl) ?_
  refine WO.vals [(0, 11, (.int .i64 r6)), (1, 12, (.bool (r6 != 0)))] (by kernel_rfl) (fun _ => by kernel_rfl) ?_
  refine WO.nil ?_
  refine En.next ?_
  refine W.cond (b := (r6 != 0)) rfl rfl (fun hc => ?_) (fun hc => ?_)
  · replace hr := cond_t hc hr
    refine W.seq ?_
    refine W.region (l := [0, 1, 2]) (by kernel_rfl) ?_
    refine WO.vals [(0, 13, (.int .i64 r6)), (1, 4, (.slice none 0 0)), (2, 5, (.int .i64 r6))] (by kernel_rfl) (fun _ => by kernel_rfl) ?_
    refine WO.nil ?_
    refine En.next ?_
    refine W.ret ?_
    refine En.nx_ret ?_
    have he := Option.some.inj hr
    subst r
    exact En.ret2 rfl (.slice none 0 0) (.int .i64 r6) rfl rfl ⟨I3, none, 0, rfl, hl4, hS5, SlAt.nil⟩
  · replace hr := cond_f hc hr
    refine W.skip ?_
    refine En.next ?_
    refine W.seq ?_
    refine W.seq ?_
    refine W.region (l := [0, 1, 2]) (by kernel_rfl) ?_
    refine WO.vals [(0, 14, (.string p1))] (by kernel_rfl) (fun _ => by kernel_rfl) ?_
    obtain ⟨r12, hx_r7, hr⟩ := bind_some hr
    refine WO.call rfl (by kernel_rfl) rfl (f := 31) (args := #[(.string p1)]) (by kernel_rfl) (registrarref09_IsName_ok  hS5 hx_r7) ?_
    rintro _ w8 ⟨I9, rfl, hl10, hS11⟩
    refine ⟨_, rfl, trivial, ?_⟩
    refine WO.vals [(2, 16, (.bool (!r12)))] (by kernel_rfl) (fun _ => by kernel_rfl) ?_
    refine WO.nil ?_
    refine En.next ?_
    refine W.cond (b := (!r12)) rfl rfl (fun hc => ?_) (fun hc => ?_)
    · replace hr := cond_t hc hr
      refine W.seq ?_
      refine W.region (l := [0, 1]) (by kernel_rfl) ?_
      refine WO.vals [(0, 4, (.slice none 0 0)), (1, 5, (.int .i64 18))] (by kernel_rfl) (fun _ => by kernel_rfl) ?_
      refine WO.nil ?_
      refine En.next ?_
      refine W.ret ?_
      refine En.nx_ret ?_
      have he := Option.some.inj hr
      subst r
      exact En.ret2 rfl (.slice none 0 0) (.int .i64 18) rfl rfl ⟨I9, none, 0, rfl, (hl4.trans hl10), hS11, SlAt.nil⟩
    · replace hr := cond_f hc hr
      refine W.skip ?_
      refine En.next ?_
      refine W.seq ?_
      refine W.seq ?_
      refine W.region (l := [0, 1, 2, 3]) (by kernel_rfl) ?_
      refine WO.vals [(0, 17, (.slice a_p0 p0.length c_p0)), (1, 18, (.string p1))] (by kernel_rfl) (fun _ => by kernel_rfl) ?_
      obtain ⟨r18, hx_r13, hr⟩ := bind_some hr
      refine WO.call rfl (by kernel_rfl) rfl (f := 32) (args := #[(.slice a_p0 p0.length c_p0), (.string p1)]) (by kernel_rfl) (registrarref18_At_ok (RSl.mono h_p0 (hl4.trans hl10)) hS11 hx_r13) ?_
      rintro _ w14 ⟨I15, rfl, hl16, hS17⟩
      refine ⟨_, rfl, trivial, ?_⟩
      refine WO.vals [(3, 20, (.bool (decide (r18 ≥ 0))))] (by kernel_rfl) (fun _ => by kernel_rfl) ?_
      refine WO.nil ?_
      refine En.next ?_
      refine W.cond (b := (decide (r18 ≥ 0))) rfl rfl (fun hc => ?_) (fun hc => ?_)
      · replace hr := cond_t hc hr
        refine W.seq ?_
        refine W.region (l := [0, 1]) (by kernel_rfl) ?_
        refine WO.vals [(0, 4, (.slice none 0 0)), (1, 5, (.int .i64 19))] (by kernel_rfl) (fun _ => by kernel_rfl) ?_
        refine WO.nil ?_
        refine En.next ?_
        refine W.ret ?_
        refine En.nx_ret ?_
        have he := Option.some.inj hr
        subst r
        exact En.ret2 rfl (.slice none 0 0) (.int .i64 19) rfl rfl ⟨I15, none, 0, rfl, ((hl4.trans hl10).trans hl16), hS17, SlAt.nil⟩
      · replace hr := cond_f hc hr
        refine W.skip ?_
        refine En.next ?_
        refine W.seq ?_
        refine W.seq ?_
        refine W.region (l := [0, 1, 2]) (by kernel_rfl) ?_
        refine WO.vals [(0, 21, (.slice a_p0 p0.length c_p0)), (1, 22, (.int .i64 (p0.length : Int))), (2, 23, (.bool ((p0.length : Int) == 8)))] (by kernel_rfl) (fun _ => by kernel_rfl) ?_
        refine WO.nil ?_
        refine En.next ?_
        refine W.cond (b := ((p0.length : Int) == 8)) rfl rfl (fun hc => ?_) (fun hc => ?_)
        · replace hr := cond_t hc hr
          refine W.seq ?_
          refine W.region (l := [0, 1]) (by kernel_rfl) ?_
          refine WO.vals [(0, 4, (.slice none 0 0)), (1, 5, (.int .i64 5))] (by kernel_rfl) (fun _ => by kernel_rfl) ?_
          refine WO.nil ?_
          refine En.next ?_
          refine W.ret ?_
          refine En.nx_ret ?_
          have he := Option.some.inj hr
          subst r
          exact En.ret2 rfl (.slice none 0 0) (.int .i64 5) rfl rfl ⟨I15, none, 0, rfl, ((hl4.trans hl10).trans hl16), hS17, SlAt.nil⟩
        · replace hr := cond_f hc hr
          refine W.skip ?_
          refine En.next ?_
          refine W.seq ?_
          refine W.region (l := [0]) (by kernel_rfl) ?_
          refine WO.vals [(0, 7, (.int .i64 0))] (by kernel_rfl) (fun _ => by kernel_rfl) ?_
          refine WO.nil ?_
          refine En.next ?_
          refine W.seq ?_
          refine W.block ?_
          obtain ⟨t19, hloop23, hr⟩ := bind_some hr
          refine W.weaken (fr' := [(0, (.slice a_p0 p0.length c_p0)), (1, (.string p1)), (7, (.int .i64 0))]) (W.loopO hloop23 (fun (s22 : Int) fr w => ∃ (I20 : Mem), fr = [(0, (.slice a_p0 p0.length c_p0)), (1, (.string p1)), (7, (.int .i64 s22))] ∧ I15.Le I20 ∧ St E w I20 Os) ⟨I15, rfl, Mem.Le.refl _, hS17⟩ ?_) (Sub.cons rfl (Sub.cons rfl (Sub.cons rfl Sub.nil)))
          rintro s22 _ w24 ⟨I20, rfl, hl21, hS25⟩ x26 hr1 hext19
          refine W.seq ?_
          refine W.seq ?_
          refine W.region (l := [0, 1, 2, 3, 4, 5, 6, 7, 8, 9, 10, 11, 12]) (by kernel_rfl) ?_
          refine WO.vals [(0, 24, (.int .i64 s22)), (1, 25, (.slice a_p0 p0.length c_p0)), (2, 26, (.int .i64 (p0.length : Int))), (3, 27, (.bool (decide (s22 < (p0.length : Int))))), (4, 28, (.bool (decide (s22 < (p0.length : Int)))))] (by kernel_rfl) (fun _ => by kernel_rfl) ?_
          obtain ⟨j27, hr2, hr1⟩ := bind_some hr1
          refine WO.join (l1 := [5, 6, 7, 8, 9, 10, 11, 12]) (l2 := []) (J := (fun fr w => ∃ (I29 : Mem), fr = [(0, (.slice a_p0 p0.length c_p0)), (1, (.string p1)), (7, (.int .i64 s22)), (36, (.bool j27))] ∧ I20.Le I29 ∧ St E w I29 Os)) ?restj27 ?waysj27
          case waysj27 =>
            refine WO.caseb (decide (s22 < (p0.length : Int))) (fun hc => ?_) (fun hc => ?_)
            · replace hr2 := cond_t hc hr2
              refine WO.reslot 28 rfl (show Value.bool (decide (s22 < (p0.length : Int))) = Value.bool true by rw [hc]) ?_
              refine WO.vals [(5, 29, (.slice a_p0 p0.length c_p0)), (6, 30, (.int .i64 s22))] (by kernel_rfl) (fun _ => by kernel_rfl) ?_
              obtain ⟨x31, hx_x31, hr2⟩ := bind_some hr2
              obtain ⟨h0_x31, h1_x31, hx_x31⟩ := idx_some hx_x31
              obtain ⟨ha_x31, cs_x31, hn_x31, hr_x31, hc_x31⟩ := ((RSl.mono h_p0 (((hl4.trans hl10).trans hl16).trans hl21))).el _ _ hx_x31
              obtain ⟨w_x31, rfl, h_x31⟩ := hr_x31
              refine WO.indexAddr (e := 28) (sz := 2) rfl (by kernel_rfl) (by kernel_rfl) (by kernel_rfl) rfl ha_x31 rfl h0_x31 h1_x31 ?_
              refine WO.vals [(8, 32, (.pointer (some ⟨bl a_p0, of a_p0 + (s22).toNat * 2, none⟩)))] (by kernel_rfl) (fun _ => by kernel_rfl) ?_
              refine WO.load rfl (by kernel_rfl) (by kernel_rfl) rfl (v := (.string x31.Name)) (fun w' hw' => hc_x31.cell0 (by kernel_rfl) ((rd_f hS25.im) w' hw')) ?_
              refine WO.vals [(10, 34, (.string p1)), (11, 35, (.bool (sLt x31.Name p1))), (12, 36, (.bool (sLt x31.Name p1)))] (by kernel_rfl) (fun _ => by kernel_rfl) ?_
              have he := Option.some.inj hr2
              subst j27
              refine WO.weaken (fr' := [(0, (.slice a_p0 p0.length c_p0)), (1, (.string p1)), (7, (.int .i64 s22)), (36, (.bool (sLt x31.Name p1)))]) (WO.meet ⟨I20, rfl, Mem.Le.refl _, hS25⟩) (Sub.cons rfl (Sub.cons rfl (Sub.cons rfl (Sub.cons rfl Sub.nil))))
            · replace hr2 := cond_f hc hr2
              refine WO.reslot 28 rfl (show Value.bool (decide (s22 < (p0.length : Int))) = Value.bool false by rw [hc]) ?_
              refine WO.pass rfl (by kernel_rfl) rfl ?_
              refine WO.pass rfl (by kernel_rfl) rfl ?_
              refine WO.pass rfl (by kernel_rfl) rfl ?_
              refine WO.pass rfl (by kernel_rfl) rfl ?_
              refine WO.pass rfl (by kernel_rfl) rfl ?_
              refine WO.pass rfl (by kernel_rfl) rfl ?_
              refine WO.pass rfl (by kernel_rfl) rfl ?_
              refine WO.vals [(12, 36, (.bool false))] (by kernel_rfl) (fun _ => by kernel_rfl) ?_
              have he := Option.some.inj hr2
              subst j27
              refine WO.weaken (fr' := [(0, (.slice a_p0 p0.length c_p0)), (1, (.string p1)), (7, (.int .i64 s22)), (36, (.bool false))]) (WO.meet ⟨I20, rfl, Mem.Le.refl _, hS25⟩) (Sub.cons rfl (Sub.cons rfl (Sub.cons rfl (Sub.cons rfl Sub.nil))))
          case restj27 =>
            rintro _ w32 ⟨I29, rfl, hl30, hS33⟩
            refine WO.nil ?_
            refine En.next ?_
            refine W.cond (b := j27) rfl rfl (fun hc => ?_) (fun hc => ?_)
            · replace hr1 := cond_t hc hr1
              refine W.skip ?_
              refine En.next ?_
              refine W.block ?_
              refine W.region (l := [0, 1, 2]) (by kernel_rfl) ?_
              refine WO.vals [(0, 37, (.int .i64 s22)), (1, 38, (.int .i64 (w64 (s22 + 1)))), (2, 7, (.int .i64 (w64 (s22 + 1))))] (by kernel_rfl) (fun _ => by kernel_rfl) ?_
              refine WO.nil ?_
              refine En.in_normal ?_
              refine En.weaken (fr' := [(0, (.slice a_p0 p0.length c_p0)), (1, (.string p1)), (7, (.int .i64 (w64 (s22 + 1))))]) (En.round ⟨(w64 (s22 + 1)), (Option.some.inj hr1).symm, I29, rfl, (hl21.trans hl30), hS33⟩) (Sub.cons rfl (Sub.cons rfl (Sub.cons rfl Sub.nil)))
            · replace hr1 := cond_f hc hr1
              refine W.exit ?_
              refine En.nx_exit ?_
              refine En.rd_exit ?_
              have ht := hext19 _ (Option.some.inj hr1).symm
              subst t19
              refine En.in_hit ?_
              refine En.next ?_
              refine W.seq ?_
              refine W.region (l := [0]) (by kernel_rfl) ?_
              refine WO.vals [(0, 8, (.slice none 0 0))] (by kernel_rfl) (fun _ => by kernel_rfl) ?_
              refine WO.nil ?_
              refine En.next ?_
              refine W.seq ?_
              refine W.region (l := [0, 1, 2, 3, 4, 5]) (by kernel_rfl) ?_
              refine WO.vals [(0, 39, (.slice none 0 0)), (1, 40, (.slice a_p0 p0.length c_p0)), (2, 41, (.int .i64 s22))] (by kernel_rfl) (fun _ => by kernel_rfl) ?_
              obtain ⟨x76, hx_x76, hr⟩ := bind_some hr
              obtain ⟨h0_x76, h1_x76, h2_x76, he_x76⟩ := sub_some hx_x76
              have hl_x76 : (s22 : Int) ≤ (c_p0 : Int) := Int.le_trans h2_x76 (Int.ofNat_le.2 ((RSl.mono h_p0 ((((hl4.trans hl10).trans hl16).trans hl21).trans hl30))).le)
              refine WO.slice (e := 28) (sz := 2) rfl (by kernel_rfl) (by kernel_rfl) (by kernel_rfl) rfl (0 : Int) (s22 : Int) h0_x76 (.inl ⟨rfl, rfl⟩) (.inr ⟨_, _, rfl, rfl⟩) h1_x76 hl_x76 ?_
              obtain ⟨a_x76, c_x76, h_x76, ev_x76⟩ := sub_ok ((RSl.mono h_p0 ((((hl4.trans hl10).trans hl16).trans hl21).trans hl30))) h0_x76 h1_x76 h2_x76 he_x76
              refine WO.reslot 42 rfl ev_x76 ?_
              have hS78 := hS33.no
              obtain ⟨x79, hx_x79, hr⟩ := bind_some hr
              obtain ⟨h0_x79, he_x79⟩ := app_some hx_x79
              refine WO.append (e' := 28) (b := 40) (zs := (cs_api_Role z_api_Role zw_api_Role).toArray) hS78 (OwnSl.nil (T := 28) (rel := R_api_Role) (I := I29)) rfl (by kernel_rfl) rfl (by kernel_rfl) (by kernel_rfl) (by kernel_rfl) rfl rfl rfl rfl h_x76 hS78.im h0_x79 he_x79 (fun _ _ _ => trivial) ?_
              intro a80 c81 w82 C83 hS84 ho85
              refine WO.vals [(5, 8, (.slice a80 x79.length c81))] (by kernel_rfl) (fun _ => by kernel_rfl) ?_
              refine WO.nil ?_
              refine En.next ?_
              refine W.seq ?_
              refine W.region (l := [0, 1, 2, 3, 4, 5]) (by kernel_rfl) ?_
              refine WO.vals [(0, 44, (.slice a80 x79.length c81)), (1, 45, (.string p1)), (2, 46, (.agg (cs_api_Role ({ z_api_Role with Name := p1 }) zw_api_Role).toArray))] (by kernel_rfl) (fun _ => by kernel_rfl) ?_
              have hk93 : ok_api_Role I29 ({ z_api_Role with Name := p1 }) zw_api_Role := ⟨SlAt.nil⟩
              refine WO.newSlice (rel := R_api_Role) (xs := ([{ z_api_Role with Name := p1 }] : List api_Role)) hS84 rfl (by kernel_rfl) rfl 28 2 [(cs_api_Role ({ z_api_Role with Name := p1 }) zw_api_Role)] (by kernel_rfl) rfl ((Elr.cons ⟨zw_api_Role, rfl, hk93⟩ Elr.nil)) (fun _ _ _ => trivial) ?_
              intro a89 C87 w91 hS90 ho88
              have hS94 := hS90.front1
              obtain ⟨x95, hx_x95, hr⟩ := bind_some hr
              obtain ⟨h0_x95, he_x95⟩ := app_some hx_x95
              refine WO.append (e' := 28) (b := 40) (zs := (cs_api_Role z_api_Role zw_api_Role).toArray) hS94 ho85 rfl (by kernel_rfl) rfl (by kernel_rfl) (by kernel_rfl) (by kernel_rfl) rfl rfl rfl rfl ho88.sl (hS94.rd (List.Mem.tail _ (List.Mem.head _))) h0_x95 he_x95 (fun _ _ _ => trivial) ?_
              intro a96 c97 w98 C99 hS100 ho101
              have hS102 := hS100.front1
              have hS103 := hS102.drop
              refine WO.vals [(5, 8, (.slice a96 x95.length c97))] (by kernel_rfl) (fun _ => by kernel_rfl) ?_
              refine WO.nil ?_
              refine En.next ?_
              refine W.seq ?_
              refine W.region (l := [0, 1, 2, 3, 4, 5, 6]) (by kernel_rfl) ?_
              refine WO.vals [(0, 49, (.slice a96 x95.length c97)), (1, 50, (.slice a_p0 p0.length c_p0)), (2, 51, (.int .i64 s22))] (by kernel_rfl) (fun _ => by kernel_rfl) ?_
              obtain ⟨x104, hx_x104, hr⟩ := bind_some hr
              obtain ⟨h0_x104, h1_x104, h2_x104, he_x104⟩ := sub_some hx_x104
              have hl_x104 : ((p0.length : Int) : Int) ≤ (c_p0 : Int) := Int.le_trans h2_x104 (Int.ofNat_le.2 ((RSl.mono h_p0 ((((hl4.trans hl10).trans hl16).trans hl21).trans hl30))).le)
              refine WO.slice (e := 28) (sz := 2) rfl (by kernel_rfl) (by kernel_rfl) (by kernel_rfl) rfl (s22 : Int) ((p0.length : Int) : Int) h0_x104 (.inr ⟨_, _, rfl, rfl⟩) (.inl ⟨rfl, rfl⟩) h1_x104 hl_x104 ?_
              obtain ⟨a_x104, c_x104, h_x104, ev_x104⟩ := sub_ok ((RSl.mono h_p0 ((((hl4.trans hl10).trans hl16).trans hl21).trans hl30))) h0_x104 h1_x104 h2_x104 he_x104
              refine WO.reslot 52 rfl ev_x104 ?_
              obtain ⟨x105, hx_x105, hr⟩ := bind_some hr
              obtain ⟨h0_x105, he_x105⟩ := app_some hx_x105
              refine WO.append (e' := 28) (b := 40) (zs := (cs_api_Role z_api_Role zw_api_Role).toArray) hS103 ho101 rfl (by kernel_rfl) rfl (by kernel_rfl) (by kernel_rfl) (by kernel_rfl) rfl rfl rfl rfl h_x104 hS103.im h0_x105 he_x105 (fun _ _ _ => trivial) ?_
              intro a106 c107 w108 C109 hS110 ho111
              obtain ⟨I112, hl113, hS115, hp114⟩ := OwnSl.pub ho111 hS110
              refine WO.vals [(5, 4, (.slice a106 x105.length c107)), (6, 5, (.int .i64 0))] (by kernel_rfl) (fun _ => by kernel_rfl) ?_
              refine WO.nil ?_
              refine En.next ?_
              refine W.ret ?_
              have he := Option.some.inj hr
              subst r
              exact En.ret2 rfl (.slice a106 x105.length c107) (.int .i64 0) rfl rfl ⟨I112, a106, c107, rfl, (((((hl4.trans hl10).trans hl16).trans hl21).trans hl30).trans hl113), hS115, hp114⟩
end Go.Proofs.YthndadengamanaaGreat
