/- What functions of the program come to, each by a plain one. Conditions: none. -/
import Derived.Test.YtfabocipcjnfnaaF3
set_option maxRecDepth 100000
namespace Go.Proofs.Ytfabocipcjnfnaa
open Go.Gv
def registrarref20_Covers (p0 : List api_Need) (p1 : List api_Need) : Option Bool := (forN (fun (i4 : Nat) => fun (_s : Unit) => (forE (fun (i15 : Nat) => fun (s14 : Bool) => ((bif s14 then some true else (idx p0 (i15 : Int)).bind (fun (x28 : api_Need) => (idx p1 (i4 : Int)).bind (fun (x29 : api_Need) => ((bif (sEq x28.Path x29.Path) then (idx p0 (i15 : Int)).bind (fun (x34 : api_Need) => (idx p1 (i4 : Int)).bind (fun (x35 : api_Need) => (registrarref20_Both x34.Mode x35.Mode).bind (fun (r41 : Int) => (idx p0 (i15 : Int)).bind (fun (x42 : api_Need) => (idx p0 (i15 : Int)).bind (fun (x43 : api_Need) => (registrarref20_Both x42.Mode x43.Mode).bind (fun (r49 : Int) => some (r41 == r49))))))) else some false)).bind (fun (j30 : Bool) => some j30))))).bind (fun (j24 : Bool) => some j24)) p0.length 0 false).bind (fun (s14 : Bool) => (bif (!s14) then some (.inr false) else some (.inl ())))) p1.length 0 ()).bind (fun (t : Unit ⊕ (Bool)) => match t with | .inl _ => some true | .inr s57 => some s57)
set_option maxHeartbeats 1000000 in
theorem registrarref20_Covers_ok {E w : World} {I : Mem} {Os : List Mem} {p0 : List api_Need} {p1 : List api_Need} {a_p0 : Option Addr} {c_p0 : Nat} {a_p1 : Option Addr} {c_p1 : Nat} (h_p0 : RSl 2 R_api_Need I a_p0 c_p0 p0) (h_p1 : RSl 2 R_api_Need I a_p1 c_p1 p1) (hS : St E w I Os) {r : Bool} (hr : registrarref20_Covers p0 p1 = some r) :
    Calls P 11 #[(.slice a_p0 p0.length c_p0), (.slice a_p1 p1.length c_p1)] w (fun e w' => ∃ (I' : Mem), e = .returned (.bool r) ∧ I.Le I' ∧ St E w' I' Os) := by
  refine calls_W (args := [(.slice a_p0 p0.length c_p0), (.slice a_p1 p1.length c_p1)]) (fn := Try.f11) rfl rfl rfl ?_
  unfold registrarref20_Covers at hr
  refine W.seq ?_
  refine W.region (l := [0]) (by kernel_rfl) ?_
  refine WO.vals [(0, 4, (.bool false))] (by kernel_rfl) (fun _ => by kernel_rfl) ?_
  refine WO.nil ?_
  refine En.next ?_
  refine W.seq ?_
  refine W.seq ?_
  refine W.region (l := [0]) (by kernel_rfl) ?_
  refine WO.vals [(0, 5, (.int .i64 0))] (by kernel_rfl) (fun _ => by kernel_rfl) ?_
  refine WO.nil ?_
  refine En.next ?_
  refine W.block ?_
  obtain ⟨t1, hloop5, hr⟩ := bind_some hr
  have hlt9 := (h_p1).len_lt
  refine W.weaken (fr' := [(0, (.slice a_p0 p0.length c_p0)), (1, (.slice a_p1 p1.length c_p1)), (5, (.int .i64 ((0 : Nat) : Int)))]) (W.forN (m := p1.length) hloop5 (fun (i4 : Nat) => fun (_s : Unit) fr w => ∃ (I2 : Mem), fr = [(0, (.slice a_p0 p0.length c_p0)), (1, (.slice a_p1 p1.length c_p1)), (5, (.int .i64 (i4 : Int)))] ∧ I.Le I2 ∧ St E w I2 Os) ⟨I, rfl, Mem.Le.refl _, hS⟩ ?roundt1 ?lastt1) (Sub.cons rfl (Sub.cons rfl (Sub.cons rfl Sub.nil)))
  case roundt1 =>
    rintro i4 _ _ w6 hi10 ⟨I2, rfl, hl3, hS7⟩ x8 hr1 hext1
    refine W.seq ?_
    refine W.seq ?_
    refine W.region (l := [0, 1, 2, 3]) (by kernel_rfl) ?_
    refine WO.vals [(0, 8, (.int .i64 (i4 : Int))), (1, 9, (.slice a_p1 p1.length c_p1)), (2, 10, (.int .i64 (p1.length : Int))), (3, 11, (.bool (decide ((i4 : Int) < (p1.length : Int)))))] (by kernel_rfl) (fun _ => by kernel_rfl) ?_
    refine WO.nil ?_
    refine En.next ?_
    refine W.cond (b := (decide ((i4 : Int) < (p1.length : Int)))) rfl rfl (fun hc => ?_) (fun hc => ?_)
    rotate_left
    · exact absurd hc (by first | (simp; done) | (simp; omega))
    clear hc
    refine W.skip ?_
    refine En.next ?_
    refine W.seq ?_
    refine W.block ?_
    refine W.seq ?_
    refine W.region (l := [0]) (by kernel_rfl) ?_
    refine WO.vals [(0, 6, (.bool false))] (by kernel_rfl) (fun _ => by kernel_rfl) ?_
    refine WO.nil ?_
    refine En.next ?_
    refine W.seq ?_
    refine W.seq ?_
    refine W.region (l := [0]) (by kernel_rfl) ?_
    refine WO.vals [(0, 7, (.int .i64 0))] (by kernel_rfl) (fun _ => by kernel_rfl) ?_
    refine WO.nil ?_
    refine En.next ?_
    refine W.block ?_
    obtain ⟨s14, hloop16, hr1⟩ := bind_some hr1
    have hlt20 := ((RSl.mono h_p0 hl3)).len_lt
    refine W.weaken (fr' := [(0, (.slice a_p0 p0.length c_p0)), (1, (.slice a_p1 p1.length c_p1)), (5, (.int .i64 (i4 : Int))), (6, (.bool false)), (7, (.int .i64 ((0 : Nat) : Int)))]) (W.forE (m := p0.length) hloop16 (fun (i15 : Nat) => fun (s14 : Bool) fr w => ∃ (I12 : Mem), fr = [(0, (.slice a_p0 p0.length c_p0)), (1, (.slice a_p1 p1.length c_p1)), (5, (.int .i64 (i4 : Int))), (6, (.bool s14)), (7, (.int .i64 (i15 : Int)))] ∧ I2.Le I12 ∧ St E w I12 Os) ⟨I2, rfl, Mem.Le.refl _, hS7⟩ ?roundt11 ?lastt11) (Sub.cons rfl (Sub.cons rfl (Sub.cons rfl (Sub.cons rfl (Sub.cons rfl Sub.nil)))))
    case roundt11 =>
      rintro i15 s14 _ w17 hi21 ⟨I12, rfl, hl13, hS18⟩ x19 hr2
      refine W.seq ?_
      refine W.seq ?_
      refine W.region (l := [0, 1, 2, 3]) (by kernel_rfl) ?_
      refine WO.vals [(0, 14, (.int .i64 (i15 : Int))), (1, 15, (.slice a_p0 p0.length c_p0)), (2, 16, (.int .i64 (p0.length : Int))), (3, 17, (.bool (decide ((i15 : Int) < (p0.length : Int)))))] (by kernel_rfl) (fun _ => by kernel_rfl) ?_
      refine WO.nil ?_
      refine En.next ?_
      refine W.cond (b := (decide ((i15 : Int) < (p0.length : Int)))) rfl rfl (fun hc => ?_) (fun hc => ?_)
      rotate_left
      · exact absurd hc (by first | (simp; done) | (simp; omega))
      clear hc
      refine W.skip ?_
      refine En.next ?_
      refine W.seq ?_
      refine W.block ?_
      have hS22 := hS18.drew
      refine W.draw (l := [0, 1, 2, 3, 4, 5, 6, 7, 8, 9, 10, 11, 12, 13, 14, 15, 16, 17, 18, 19, 20, 21, 22, 23, 24, 25, 26, 27, 28, 29, 30, 31, 32, 33, 34, 35, 36, 37, 38, 39]) (by kernel_rfl) 39 (KR I12 []) qR (.back (by kernel_rfl)) (by kernel_rfl) (KR.nil hS22.im) ?_
      generalize World.drew _ = w23 at *
      refine WO.vals [(0, 20, (.bool s14)), (1, 21, (.bool s14))] (by kernel_rfl) (fun _ => by kernel_rfl) ?_
      obtain ⟨j24, hr3, hr2⟩ := bind_some hr2
      refine WO.join (l1 := [2, 3, 4, 5, 6, 7, 8, 9, 10, 11, 12, 13, 14, 15, 16, 17, 18, 19, 20, 21, 22, 23, 24, 25, 26, 27, 28, 29, 30, 31, 32, 33, 34, 35, 36, 37, 38]) (l2 := [39]) (J := (fun fr w => ∃ (I26 : Mem), fr = [(0, (.slice a_p0 p0.length c_p0)), (1, (.slice a_p1 p1.length c_p1)), (5, (.int .i64 (i4 : Int))), (7, (.int .i64 (i15 : Int))), (58, (.bool j24))] ∧ I12.Le I26 ∧ St E w I26 Os)) ?restj24 ?waysj24
      case waysj24 =>
        refine WO.caseb s14 (fun hc => ?_) (fun hc => ?_)
        · replace hr3 := cond_t hc hr3
          refine WO.reslot 21 rfl (show Value.bool s14 = Value.bool true by rw [hc]) ?_
          refine WO.pass rfl (by kernel_rfl) rfl ?_
          refine WO.pass rfl (by kernel_rfl) rfl ?_
          refine WO.pass rfl (by kernel_rfl) rfl ?_
          refine WO.pass rfl (by kernel_rfl) rfl ?_
          refine WO.pass rfl (by kernel_rfl) rfl ?_
          refine WO.pass rfl (by kernel_rfl) rfl ?_
          refine WO.pass rfl (by kernel_rfl) rfl ?_
          refine WO.pass rfl (by kernel_rfl) rfl ?_
          refine WO.pass rfl (by kernel_rfl) rfl ?_
          refine WO.pass rfl (by kernel_rfl) rfl ?_
          refine WO.pass rfl (by kernel_rfl) rfl ?_
          refine WO.pass rfl (by kernel_rfl) rfl ?_
          refine WO.pass rfl (by kernel_rfl) rfl ?_
          refine WO.pass rfl (by kernel_rfl) rfl ?_
          refine WO.pass rfl (by kernel_rfl) rfl ?_
          refine WO.pass rfl (by kernel_rfl) rfl ?_
          refine WO.pass rfl (by kernel_rfl) rfl ?_
          refine WO.pass rfl (by kernel_rfl) rfl ?_
          refine WO.pass rfl (by kernel_rfl) rfl ?_
          refine WO.pass rfl (by kernel_rfl) rfl ?_
          refine WO.pass rfl (by kernel_rfl) rfl ?_
          refine WO.pass rfl (by kernel_rfl) rfl ?_
          refine WO.pass rfl (by kernel_rfl) rfl ?_
          refine WO.pass rfl (by kernel_rfl) rfl ?_
          refine WO.pass rfl (by kernel_rfl) rfl ?_
          refine WO.pass rfl (by kernel_rfl) rfl ?_
          refine WO.pass rfl (by kernel_rfl) rfl ?_
          refine WO.pass rfl (by kernel_rfl) rfl ?_
          refine WO.pass rfl (by kernel_rfl) rfl ?_
          refine WO.pass rfl (by kernel_rfl) rfl ?_
          refine WO.pass rfl (by kernel_rfl) rfl ?_
          refine WO.pass rfl (by kernel_rfl) rfl ?_
          refine WO.pass rfl (by kernel_rfl) rfl ?_
          refine WO.pass rfl (by kernel_rfl) rfl ?_
          refine WO.pass rfl (by kernel_rfl) rfl ?_
          refine WO.pass rfl (by kernel_rfl) rfl ?_
          refine WO.vals [(38, 58, (.bool true))] (by kernel_rfl) (fun _ => by kernel_rfl) ?_
          have he := Option.some.inj hr3
          subst j24
          refine WO.weaken (fr' := [(0, (.slice a_p0 p0.length c_p0)), (1, (.slice a_p1 p1.length c_p1)), (5, (.int .i64 (i4 : Int))), (7, (.int .i64 (i15 : Int))), (58, (.bool true))]) (WO.meet ⟨I12, rfl, Mem.Le.refl _, hS22⟩) (Sub.cons rfl (Sub.cons rfl (Sub.cons rfl (Sub.cons rfl (Sub.cons rfl Sub.nil)))))
        · replace hr3 := cond_f hc hr3
          refine WO.reslot 21 rfl (show Value.bool s14 = Value.bool false by rw [hc]) ?_
          refine WO.vals [(2, 22, (.slice a_p0 p0.length c_p0)), (3, 23, (.int .i64 (i15 : Int)))] (by kernel_rfl) (fun _ => by kernel_rfl) ?_
          obtain ⟨x28, hx_x28, hr3⟩ := bind_some hr3
          obtain ⟨h0_x28, h1_x28, hx_x28⟩ := idx_some hx_x28
          obtain ⟨ha_x28, cs_x28, hn_x28, hr_x28, hc_x28⟩ := ((RSl.mono h_p0 (hl3.trans hl13))).el _ _ hx_x28
          obtain rfl := hr_x28
          refine WO.indexAddr (e := 28) (sz := 2) rfl (by kernel_rfl) (by kernel_rfl) (by kernel_rfl) rfl ha_x28 rfl h0_x28 h1_x28 ?_
          refine WO.vals [(5, 25, (.pointer (some ⟨bl a_p0, of a_p0 + ((i15 : Int)).toNat * 2, none⟩)))] (by kernel_rfl) (fun _ => by kernel_rfl) ?_
          refine WO.load rfl (by kernel_rfl) (by kernel_rfl) rfl (v := (.string x28.Path)) (fun w' hw' => hc_x28.cell0 rfl ((rd_i hS22.im) w' hw')) ?_
          refine WO.vals [(7, 27, (.slice a_p1 p1.length c_p1)), (8, 28, (.int .i64 (i4 : Int)))] (by kernel_rfl) (fun _ => by kernel_rfl) ?_
          obtain ⟨x29, hx_x29, hr3⟩ := bind_some hr3
          obtain ⟨h0_x29, h1_x29, hx_x29⟩ := idx_some hx_x29
          obtain ⟨ha_x29, cs_x29, hn_x29, hr_x29, hc_x29⟩ := ((RSl.mono h_p1 (hl3.trans hl13))).el _ _ hx_x29
          obtain rfl := hr_x29
          refine WO.indexAddr (e := 28) (sz := 2) rfl (by kernel_rfl) (by kernel_rfl) (by kernel_rfl) rfl ha_x29 rfl h0_x29 h1_x29 ?_
          refine WO.vals [(10, 30, (.pointer (some ⟨bl a_p1, of a_p1 + ((i4 : Int)).toNat * 2, none⟩)))] (by kernel_rfl) (fun _ => by kernel_rfl) ?_
          refine WO.load rfl (by kernel_rfl) (by kernel_rfl) rfl (v := (.string x29.Path)) (fun w' hw' => hc_x29.cell0 rfl ((rd_i hS22.im) w' hw')) ?_
          refine WO.vals [(12, 32, (.bool (sEq x28.Path x29.Path))), (13, 33, (.bool (sEq x28.Path x29.Path)))] (by kernel_rfl) (fun _ => by kernel_rfl) ?_
          obtain ⟨j30, hr4, hr3⟩ := bind_some hr3
          refine WO.join (l1 := [14, 15, 16, 17, 18, 19, 20, 21, 22, 23, 24, 25, 26, 27, 28, 29, 30, 31, 32, 33, 34, 35, 36, 37]) (l2 := [38]) (J := (fun fr w => ∃ (I32 : Mem), fr = [(0, (.slice a_p0 p0.length c_p0)), (1, (.slice a_p1 p1.length c_p1)), (5, (.int .i64 (i4 : Int))), (7, (.int .i64 (i15 : Int))), (21, (.bool false)), (57, (.bool j30))] ∧ I12.Le I32 ∧ St E w I32 Os)) ?restj30 ?waysj30
          case waysj30 =>
            refine WO.caseb (sEq x28.Path x29.Path) (fun hc => ?_) (fun hc => ?_)
            · replace hr4 := cond_t hc hr4
              refine WO.reslot 33 rfl (show Value.bool (sEq x28.Path x29.Path) = Value.bool true by rw [hc]) ?_
              refine WO.vals [(14, 34, (.slice a_p0 p0.length c_p0)), (15, 35, (.int .i64 (i15 : Int)))] (by kernel_rfl) (fun _ => by kernel_rfl) ?_
              obtain ⟨x34, hx_x34, hr4⟩ := bind_some hr4
              obtain ⟨h0_x34, h1_x34, hx_x34⟩ := idx_some hx_x34
              obtain ⟨ha_x34, cs_x34, hn_x34, hr_x34, hc_x34⟩ := ((RSl.mono h_p0 (hl3.trans hl13))).el _ _ hx_x34
              obtain rfl := hr_x34
              refine WO.indexAddr (e := 28) (sz := 2) rfl (by kernel_rfl) (by kernel_rfl) (by kernel_rfl) rfl ha_x34 rfl h0_x34 h1_x34 ?_
              refine WO.vals [(17, 37, (.pointer (some ⟨bl a_p0, of a_p0 + ((i15 : Int)).toNat * 2 + 1, none⟩)))] (by kernel_rfl) (fun _ => by kernel_rfl) ?_
              refine WO.load rfl (by kernel_rfl) (by kernel_rfl) rfl (v := (.int .i64 x34.Mode)) (fun w' hw' => hc_x34.cellk 1 rfl ((rd_i hS22.im) w' hw')) ?_
              refine WO.vals [(19, 39, (.slice a_p1 p1.length c_p1)), (20, 40, (.int .i64 (i4 : Int)))] (by kernel_rfl) (fun _ => by kernel_rfl) ?_
              obtain ⟨x35, hx_x35, hr4⟩ := bind_some hr4
              obtain ⟨h0_x35, h1_x35, hx_x35⟩ := idx_some hx_x35
              obtain ⟨ha_x35, cs_x35, hn_x35, hr_x35, hc_x35⟩ := ((RSl.mono h_p1 (hl3.trans hl13))).el _ _ hx_x35
              obtain rfl := hr_x35
              refine WO.indexAddr (e := 28) (sz := 2) rfl (by kernel_rfl) (by kernel_rfl) (by kernel_rfl) rfl ha_x35 rfl h0_x35 h1_x35 ?_
              refine WO.vals [(22, 42, (.pointer (some ⟨bl a_p1, of a_p1 + ((i4 : Int)).toNat * 2 + 1, none⟩)))] (by kernel_rfl) (fun _ => by kernel_rfl) ?_
              refine WO.load rfl (by kernel_rfl) (by kernel_rfl) rfl (v := (.int .i64 x35.Mode)) (fun w' hw' => hc_x35.cellk 1 rfl ((rd_i hS22.im) w' hw')) ?_
              obtain ⟨r41, hx_r36, hr4⟩ := bind_some hr4
              refine WO.call rfl (by kernel_rfl) rfl (f := 18) (args := #[(.int .i64 x34.Mode), (.int .i64 x35.Mode)]) (by kernel_rfl) (registrarref20_Both_ok  hS22 hx_r36) ?_
              rintro _ w37 ⟨I38, rfl, hl39, hS40⟩
              refine ⟨_, rfl, (KR.nil (hS40.im.of_le hl39)), ?_⟩
              refine WO.vals [(25, 45, (.slice a_p0 p0.length c_p0)), (26, 46, (.int .i64 (i15 : Int)))] (by kernel_rfl) (fun _ => by kernel_rfl) ?_
              obtain ⟨x42, hx_x42, hr4⟩ := bind_some hr4
              obtain ⟨h0_x42, h1_x42, hx_x42⟩ := idx_some hx_x42
              obtain ⟨ha_x42, cs_x42, hn_x42, hr_x42, hc_x42⟩ := ((RSl.mono h_p0 (hl3.trans hl13))).el _ _ hx_x42
              obtain rfl := hr_x42
              refine WO.indexAddr (e := 28) (sz := 2) rfl (by kernel_rfl) (by kernel_rfl) (by kernel_rfl) rfl ha_x42 rfl h0_x42 h1_x42 ?_
              refine WO.vals [(28, 48, (.pointer (some ⟨bl a_p0, of a_p0 + ((i15 : Int)).toNat * 2 + 1, none⟩)))] (by kernel_rfl) (fun _ => by kernel_rfl) ?_
              refine WO.load rfl (by kernel_rfl) (by kernel_rfl) rfl (v := (.int .i64 x42.Mode)) (fun w' hw' => hc_x42.cellk 1 rfl ((rd_i (hS40.im.of_le hl39)) w' hw')) ?_
              refine WO.vals [(30, 50, (.slice a_p0 p0.length c_p0)), (31, 51, (.int .i64 (i15 : Int)))] (by kernel_rfl) (fun _ => by kernel_rfl) ?_
              obtain ⟨x43, hx_x43, hr4⟩ := bind_some hr4
              obtain ⟨h0_x43, h1_x43, hx_x43⟩ := idx_some hx_x43
              obtain ⟨ha_x43, cs_x43, hn_x43, hr_x43, hc_x43⟩ := ((RSl.mono h_p0 (hl3.trans hl13))).el _ _ hx_x43
              obtain rfl := hr_x43
              refine WO.indexAddr (e := 28) (sz := 2) rfl (by kernel_rfl) (by kernel_rfl) (by kernel_rfl) rfl ha_x43 rfl h0_x43 h1_x43 ?_
              refine WO.vals [(33, 53, (.pointer (some ⟨bl a_p0, of a_p0 + ((i15 : Int)).toNat * 2 + 1, none⟩)))] (by kernel_rfl) (fun _ => by kernel_rfl) ?_
              refine WO.load rfl (by kernel_rfl) (by kernel_rfl) rfl (v := (.int .i64 x43.Mode)) (fun w' hw' => hc_x43.cellk 1 rfl ((rd_i (hS40.im.of_le hl39)) w' hw')) ?_
              obtain ⟨r49, hx_r44, hr4⟩ := bind_some hr4
              refine WO.call rfl (by kernel_rfl) rfl (f := 18) (args := #[(.int .i64 x42.Mode), (.int .i64 x43.Mode)]) (by kernel_rfl) (registrarref20_Both_ok  hS40 hx_r44) ?_
              rintro _ w45 ⟨I46, rfl, hl47, hS48⟩
              refine ⟨_, rfl, (KR.nil (hS48.im.of_le (hl39.trans hl47))), ?_⟩
              refine WO.vals [(36, 56, (.bool (r41 == r49))), (37, 57, (.bool (r41 == r49)))] (by kernel_rfl) (fun _ => by kernel_rfl) ?_
              have he := Option.some.inj hr4
              subst j30
              refine WO.weaken (fr' := [(0, (.slice a_p0 p0.length c_p0)), (1, (.slice a_p1 p1.length c_p1)), (5, (.int .i64 (i4 : Int))), (7, (.int .i64 (i15 : Int))), (21, (.bool false)), (57, (.bool (r41 == r49)))]) (WO.meet ⟨I46, rfl, (hl39.trans hl47), hS48⟩) (Sub.cons rfl (Sub.cons rfl (Sub.cons rfl (Sub.cons rfl (Sub.cons rfl (Sub.cons rfl Sub.nil))))))
            · replace hr4 := cond_f hc hr4
              refine WO.reslot 33 rfl (show Value.bool (sEq x28.Path x29.Path) = Value.bool false by rw [hc]) ?_
              refine WO.pass rfl (by kernel_rfl) rfl ?_
              refine WO.pass rfl (by kernel_rfl) rfl ?_
              refine WO.pass rfl (by kernel_rfl) rfl ?_
              refine WO.pass rfl (by kernel_rfl) rfl ?_
              refine WO.pass rfl (by kernel_rfl) rfl ?_
              refine WO.pass rfl (by kernel_rfl) rfl ?_
              refine WO.pass rfl (by kernel_rfl) rfl ?_
              refine WO.pass rfl (by kernel_rfl) rfl ?_
              refine WO.pass rfl (by kernel_rfl) rfl ?_
              refine WO.pass rfl (by kernel_rfl) rfl ?_
              refine WO.pass rfl (by kernel_rfl) rfl ?_
              refine WO.pass rfl (by kernel_rfl) rfl ?_
              refine WO.pass rfl (by kernel_rfl) rfl ?_
              refine WO.pass rfl (by kernel_rfl) rfl ?_
              refine WO.pass rfl (by kernel_rfl) rfl ?_
              refine WO.pass rfl (by kernel_rfl) rfl ?_
              refine WO.pass rfl (by kernel_rfl) rfl ?_
              refine WO.pass rfl (by kernel_rfl) rfl ?_
              refine WO.pass rfl (by kernel_rfl) rfl ?_
              refine WO.pass rfl (by kernel_rfl) rfl ?_
              refine WO.pass rfl (by kernel_rfl) rfl ?_
              refine WO.pass rfl (by kernel_rfl) rfl ?_
              refine WO.pass rfl (by kernel_rfl) rfl ?_
              refine WO.vals [(37, 57, (.bool false))] (by kernel_rfl) (fun _ => by kernel_rfl) ?_
              have he := Option.some.inj hr4
              subst j30
              refine WO.weaken (fr' := [(0, (.slice a_p0 p0.length c_p0)), (1, (.slice a_p1 p1.length c_p1)), (5, (.int .i64 (i4 : Int))), (7, (.int .i64 (i15 : Int))), (21, (.bool false)), (57, (.bool false))]) (WO.meet ⟨I12, rfl, Mem.Le.refl _, hS22⟩) (Sub.cons rfl (Sub.cons rfl (Sub.cons rfl (Sub.cons rfl (Sub.cons rfl (Sub.cons rfl Sub.nil))))))
          case restj30 =>
            rintro _ w50 ⟨I32, rfl, hl33, hS51⟩
            refine WO.vals [(38, 58, (.bool j30))] (by kernel_rfl) (fun _ => by kernel_rfl) ?_
            have he := Option.some.inj hr3
            subst j24
            refine WO.weaken (fr' := [(0, (.slice a_p0 p0.length c_p0)), (1, (.slice a_p1 p1.length c_p1)), (5, (.int .i64 (i4 : Int))), (7, (.int .i64 (i15 : Int))), (58, (.bool j30))]) (WO.meet ⟨I32, rfl, hl33, hS51⟩) (Sub.cons rfl (Sub.cons rfl (Sub.cons rfl (Sub.cons rfl (Sub.cons rfl Sub.nil)))))
      case restj24 =>
        rintro _ w52 ⟨I26, rfl, hl27, hS53⟩
        refine WO.tail rfl ?_
        refine WO.vals [(39, 6, (.bool j24))] (by kernel_rfl) (fun _ => by kernel_rfl) ?_
        refine WO.nil ?_
        refine En.in_normal ?_
        refine En.next ?_
        refine W.region (l := [0, 1, 2]) (by kernel_rfl) ?_
        refine WO.vals [(0, 18, (.int .i64 (i15 : Int)))] (by kernel_rfl) (fun _ => by kernel_rfl) ?_
        refine WO.incr (j := i15) rfl (by kernel_rfl) rfl (by omega) ?_
        refine WO.vals [(2, 7, (.int .i64 ((i15 + 1 : Nat) : Int)))] (by kernel_rfl) (fun _ => by kernel_rfl) ?_
        refine WO.nil ?_
        have he := Option.some.inj hr2
        subst x19
        refine En.weaken (fr' := [(0, (.slice a_p0 p0.length c_p0)), (1, (.slice a_p1 p1.length c_p1)), (5, (.int .i64 (i4 : Int))), (6, (.bool j24)), (7, (.int .i64 ((i15 + 1 : Nat) : Int)))]) (En.round ⟨I26, rfl, (hl13.trans hl27), hS53⟩) (Sub.cons rfl (Sub.cons rfl (Sub.cons rfl (Sub.cons rfl (Sub.cons rfl Sub.nil)))))
    case lastt11 =>
      rintro _ w54 ⟨I12, rfl, hl13, hS55⟩
      refine W.seq ?_
      refine W.seq ?_
      refine W.region (l := [0, 1, 2, 3]) (by kernel_rfl) ?_
      refine WO.vals [(0, 14, (.int .i64 (p0.length : Int))), (1, 15, (.slice a_p0 p0.length c_p0)), (2, 16, (.int .i64 (p0.length : Int))), (3, 17, (.bool (decide ((p0.length : Int) < (p0.length : Int)))))] (by kernel_rfl) (fun _ => by kernel_rfl) ?_
      refine WO.nil ?_
      refine En.next ?_
      refine W.cond (b := (decide ((p0.length : Int) < (p0.length : Int)))) rfl rfl (fun hc => ?_) (fun hc => ?_)
      · exact absurd hc (by first | (simp; done) | (simp; omega))
      clear hc
      refine W.exit ?_
      refine En.nx_exit ?_
      refine En.rd_exit ?_
      refine En.in_hit ?_
      refine En.next ?_
      refine W.seq ?_
      refine W.region (l := [0, 1]) (by kernel_rfl) ?_
      refine WO.vals [(0, 59, (.bool s14)), (1, 60, (.bool (!s14)))] (by kernel_rfl) (fun _ => by kernel_rfl) ?_
      refine WO.nil ?_
      refine En.next ?_
      refine W.cond (b := (!s14)) rfl rfl (fun hc => ?_) (fun hc => ?_)
      · replace hr1 := cond_t hc hr1
        refine W.seq ?_
        refine W.region (l := [0]) (by kernel_rfl) ?_
        refine WO.vals [(0, 4, (.bool false))] (by kernel_rfl) (fun _ => by kernel_rfl) ?_
        refine WO.nil ?_
        refine En.next ?_
        refine W.ret ?_
        refine En.in_ret ?_
        refine En.nx_ret ?_
        refine En.rd_ret ?_
        have ht := hext1 _ (Option.some.inj hr1).symm
        subst t1
        refine En.in_ret ?_
        refine En.nx_ret ?_
        have he := Option.some.inj hr
        subst r
        exact En.ret1 rfl (.bool false) rfl ⟨I12, rfl, (hl3.trans hl13), hS55⟩
      · replace hr1 := cond_f hc hr1
        refine W.skip ?_
        refine En.in_normal ?_
        refine En.next ?_
        refine W.region (l := [0, 1, 2]) (by kernel_rfl) ?_
        refine WO.vals [(0, 12, (.int .i64 (i4 : Int)))] (by kernel_rfl) (fun _ => by kernel_rfl) ?_
        refine WO.incr (j := i4) rfl (by kernel_rfl) rfl (by omega) ?_
        refine WO.vals [(2, 5, (.int .i64 ((i4 + 1 : Nat) : Int)))] (by kernel_rfl) (fun _ => by kernel_rfl) ?_
        refine WO.nil ?_
        refine En.weaken (fr' := [(0, (.slice a_p0 p0.length c_p0)), (1, (.slice a_p1 p1.length c_p1)), (5, (.int .i64 ((i4 + 1 : Nat) : Int)))]) (En.round ⟨(), (Option.some.inj hr1).symm, I12, rfl, (hl3.trans hl13), hS55⟩) (Sub.cons rfl (Sub.cons rfl (Sub.cons rfl Sub.nil)))
  case lastt1 =>
    rintro _ _ w58 ⟨I2, rfl, hl3, hS59⟩ he
    cases he
    refine W.seq ?_
    refine W.seq ?_
    refine W.region (l := [0, 1, 2, 3]) (by kernel_rfl) ?_
    refine WO.vals [(0, 8, (.int .i64 (p1.length : Int))), (1, 9, (.slice a_p1 p1.length c_p1)), (2, 10, (.int .i64 (p1.length : Int))), (3, 11, (.bool (decide ((p1.length : Int) < (p1.length : Int)))))] (by kernel_rfl) (fun _ => by kernel_rfl) ?_
    refine WO.nil ?_
    refine En.next ?_
    refine W.cond (b := (decide ((p1.length : Int) < (p1.length : Int)))) rfl rfl (fun hc => ?_) (fun hc => ?_)
    · exact absurd hc (by first | (simp; done) | (simp; omega))
    clear hc
    refine W.exit ?_
    refine En.nx_exit ?_
    refine En.rd_exit ?_
    refine En.in_hit ?_
    refine En.next ?_
    refine W.seq ?_
    refine W.region (l := [0]) (by kernel_rfl) ?_
    refine WO.vals [(0, 4, (.bool true))] (by kernel_rfl) (fun _ => by kernel_rfl) ?_
    refine WO.nil ?_
    refine En.next ?_
    refine W.ret ?_
    have he := Option.some.inj hr
    subst r
    exact En.ret1 rfl (.bool true) rfl ⟨I2, rfl, hl3, hS59⟩
noncomputable def registrarlaw20_AccessMerges (p0 : List api_Need) (p1 : List api_Need) : Option Bool := (registrarlaw20_few p0).bind (fun (r6 : Bool) => ((bif (!r6) then some true else (registrarlaw20_few p1).bind (fun (r16 : Bool) => some (!r16)))).bind (fun (j7 : Bool) => (bif j7 then (registrarlaw20_works).bind (fun (r24 : Bool) => some r24) else (app 24 ([] : List api_Need) p0).bind (fun (x32 : List api_Need) => (access_Merge x32).bind (fun (r48 : List api_Need) => (registrarref20_Merge p0).bind (fun (r54 : List api_Need) => (registrarref20_Same r48 r54).bind (fun (r60 : Bool) => ((bif r60 then (registrarref20_Same x32 p0).bind (fun (r70 : Bool) => some r70) else some false)).bind (fun (j61 : Bool) => ((bif j61 then (access_Covers p0 p1).bind (fun (r82 : Bool) => (registrarref20_Covers p0 p1).bind (fun (r88 : Bool) => some (r82 == r88))) else some false)).bind (fun (j73 : Bool) => ((bif j73 then (registrarlaw20_works).bind (fun (r100 : Bool) => some r100) else some false)).bind (fun (j91 : Bool) => some j91))))))))))
set_option maxHeartbeats 1000000 in
theorem registrarlaw20_AccessMerges_ok {E w : World} {I : Mem} {Os : List Mem} {p0 : List api_Need} {p1 : List api_Need} {a_p0 : Option Addr} {c_p0 : Nat} {a_p1 : Option Addr} {c_p1 : Nat} (h_p0 : RSl 2 R_api_Need I a_p0 c_p0 p0) (h_p1 : RSl 2 R_api_Need I a_p1 c_p1 p1) (hS : St E w I Os) {r : Bool} (hr : registrarlaw20_AccessMerges p0 p1 = some r) :
    Calls P 3 #[(.slice a_p0 p0.length c_p0), (.slice a_p1 p1.length c_p1)] w (fun e w' => ∃ (I' : Mem), e = .returned (.bool r) ∧ I.Le I' ∧ St E w' I' Os) := by
  refine calls_W (args := [(.slice a_p0 p0.length c_p0), (.slice a_p1 p1.length c_p1)]) (fn := Try.f3) rfl rfl rfl ?_
  unfold registrarlaw20_AccessMerges at hr
  refine W.seq ?_
  refine W.region (l := [0]) (by kernel_rfl) ?_
  refine WO.vals [(0, 4, (.bool false))] (by kernel_rfl) (fun _ => by kernel_rfl) ?_
  refine WO.nil ?_
  refine En.next ?_
  refine W.seq ?_
  refine W.seq ?_
  refine W.region (l := [0, 1, 2, 3, 4, 5, 6, 7]) (by kernel_rfl) ?_
  refine WO.vals [(0, 6, (.slice a_p0 p0.length c_p0))] (by kernel_rfl) (fun _ => by kernel_rfl) ?_
  obtain ⟨r6, hx_r1, hr⟩ := bind_some hr
  refine WO.call rfl (by kernel_rfl) rfl (f := 5) (args := #[(.slice a_p0 p0.length c_p0)]) (by kernel_rfl) (registrarlaw20_few_ok h_p0 hS hx_r1) ?_
  rintro _ w2 ⟨I3, rfl, hl4, hS5⟩
  refine ⟨_, rfl, trivial, ?_⟩
  refine WO.vals [(2, 8, (.bool (!r6))), (3, 9, (.bool (!r6)))] (by kernel_rfl) (fun _ => by kernel_rfl) ?_
  obtain ⟨j7, hr1, hr⟩ := bind_some hr
  refine WO.join (l1 := [4, 5, 6, 7]) (l2 := []) (J := (fun fr w => ∃ (I9 : Mem), fr = [(0, (.slice a_p0 p0.length c_p0)), (1, (.slice a_p1 p1.length c_p1)), (13, (.bool j7))] ∧ I3.Le I9 ∧ St E w I9 Os)) ?restj7 ?waysj7
  case waysj7 =>
    refine WO.caseb (!r6) (fun hc => ?_) (fun hc => ?_)
    · replace hr1 := cond_t hc hr1
      refine WO.reslot 9 rfl (show Value.bool (!r6) = Value.bool true by rw [hc]) ?_
      refine WO.pass rfl (by kernel_rfl) rfl ?_
      refine WO.pass rfl (by kernel_rfl) rfl ?_
      refine WO.pass rfl (by kernel_rfl) rfl ?_
      refine WO.vals [(7, 13, (.bool true))] (by kernel_rfl) (fun _ => by kernel_rfl) ?_
      have he := Option.some.inj hr1
      subst j7
      refine WO.weaken (fr' := [(0, (.slice a_p0 p0.length c_p0)), (1, (.slice a_p1 p1.length c_p1)), (13, (.bool true))]) (WO.meet ⟨I3, rfl, Mem.Le.refl _, hS5⟩) (Sub.cons rfl (Sub.cons rfl (Sub.cons rfl Sub.nil)))
    · replace hr1 := cond_f hc hr1
      refine WO.reslot 9 rfl (show Value.bool (!r6) = Value.bool false by rw [hc]) ?_
      refine WO.vals [(4, 10, (.slice a_p1 p1.length c_p1))] (by kernel_rfl) (fun _ => by kernel_rfl) ?_
      obtain ⟨r16, hx_r11, hr1⟩ := bind_some hr1
      refine WO.call rfl (by kernel_rfl) rfl (f := 5) (args := #[(.slice a_p1 p1.length c_p1)]) (by kernel_rfl) (registrarlaw20_few_ok (RSl.mono h_p1 hl4) hS5 hx_r11) ?_
      rintro _ w12 ⟨I13, rfl, hl14, hS15⟩
      refine ⟨_, rfl, trivial, ?_⟩
      refine WO.vals [(6, 12, (.bool (!r16))), (7, 13, (.bool (!r16)))] (by kernel_rfl) (fun _ => by kernel_rfl) ?_
      have he := Option.some.inj hr1
      subst j7
      refine WO.weaken (fr' := [(0, (.slice a_p0 p0.length c_p0)), (1, (.slice a_p1 p1.length c_p1)), (13, (.bool (!r16)))]) (WO.meet ⟨I13, rfl, hl14, hS15⟩) (Sub.cons rfl (Sub.cons rfl (Sub.cons rfl Sub.nil)))
  case restj7 =>
    rintro _ w17 ⟨I9, rfl, hl10, hS18⟩
    refine WO.nil ?_
    refine En.next ?_
    refine W.cond (b := j7) rfl rfl (fun hc => ?_) (fun hc => ?_)
    · replace hr := cond_t hc hr
      refine W.seq ?_
      refine W.region (l := [0, 1]) (by kernel_rfl) ?_
      obtain ⟨r24, hx_r19, hr⟩ := bind_some hr
      refine WO.call rfl (by kernel_rfl) rfl (f := 6) (args := #[]) (by kernel_rfl) (registrarlaw20_works_ok  hS18 hx_r19) ?_
      rintro _ w20 ⟨I21, rfl, hl22, hS23⟩
      refine ⟨_, rfl, trivial, ?_⟩
      refine WO.vals [(1, 4, (.bool r24))] (by kernel_rfl) (fun _ => by kernel_rfl) ?_
      refine WO.nil ?_
      refine En.next ?_
      refine W.ret ?_
      refine En.nx_ret ?_
      have he := Option.some.inj hr
      subst r
      exact En.ret1 rfl (.bool r24) rfl ⟨I21, rfl, ((hl4.trans hl10).trans hl22), hS23⟩
    · replace hr := cond_f hc hr
      refine W.skip ?_
      refine En.next ?_
      refine W.seq ?_
      refine W.region (l := [0, 1, 2, 3]) (by kernel_rfl) ?_
      refine WO.newSlice (rel := R_api_Need) (xs := ([] : List api_Need)) hS18 rfl (by kernel_rfl) rfl 28 2 [] (by kernel_rfl) rfl (Elr.nil) (fun _ _ _ => trivial) ?_
      intro a28 C26 w30 hS29 ho27
      refine WO.vals [(1, 16, (.slice a_p0 p0.length c_p0))] (by kernel_rfl) (fun _ => by kernel_rfl) ?_
      obtain ⟨x32, hx_x32, hr⟩ := bind_some hr
      obtain ⟨h0_x32, he_x32⟩ := app_some hx_x32
      refine WO.append (e' := 28) (b := 24) (zs := #[(.string (⟨#[]⟩ : ByteArray)), (.int .i64 0)]) hS29 ho27 rfl (by kernel_rfl) rfl (by kernel_rfl) (by kernel_rfl) (by kernel_rfl) rfl rfl rfl rfl (RSl.mono h_p0 (hl4.trans hl10)) hS29.im h0_x32 he_x32 (fun _ _ _ => trivial) ?_
      intro a33 c34 w35 C36 hS37 ho38
      obtain ⟨I39, hl40, hS42, hp41⟩ := OwnSl.pub ho38 hS37
      refine WO.vals [(3, 5, (.slice a33 x32.length c34))] (by kernel_rfl) (fun _ => by kernel_rfl) ?_
      refine WO.nil ?_
      refine En.next ?_
      refine W.seq ?_
      refine W.region (l := [0, 1, 2, 3, 4, 5, 6, 7, 8, 9, 10, 11, 12, 13, 14, 15, 16, 17, 18, 19, 20, 21, 22]) (by kernel_rfl) ?_
      refine WO.vals [(0, 18, (.slice a33 x32.length c34))] (by kernel_rfl) (fun _ => by kernel_rfl) ?_
      obtain ⟨r48, hx_r43, hr⟩ := bind_some hr
      refine WO.call rfl (by kernel_rfl) rfl (f := 8) (args := #[(.slice a33 x32.length c34)]) (by kernel_rfl) (access_Merge_ok hp41 hS42 hx_r43) ?_
      rintro _ w44 ⟨I45, a_r48, c_r48, rfl, hl46, hS47, h_r48⟩
      refine ⟨_, rfl, trivial, ?_⟩
      refine WO.vals [(2, 20, (.slice a_p0 p0.length c_p0))] (by kernel_rfl) (fun _ => by kernel_rfl) ?_
      obtain ⟨r54, hx_r49, hr⟩ := bind_some hr
      refine WO.call rfl (by kernel_rfl) rfl (f := 9) (args := #[(.slice a_p0 p0.length c_p0)]) (by kernel_rfl) (registrarref20_Merge_ok (RSl.mono h_p0 (((hl4.trans hl10).trans hl40).trans hl46)) hS47 hx_r49) ?_
      rintro _ w50 ⟨I51, a_r54, c_r54, rfl, hl52, hS53, h_r54⟩
      refine ⟨_, rfl, trivial, ?_⟩
      obtain ⟨r60, hx_r55, hr⟩ := bind_some hr
      refine WO.call rfl (by kernel_rfl) rfl (f := 7) (args := #[(.slice a_r48 r48.length c_r48), (.slice a_r54 r54.length c_r54)]) (by kernel_rfl) (registrarref20_Same_ok (RSl.mono h_r48 hl52) h_r54 hS53 hx_r55) ?_
      rintro _ w56 ⟨I57, rfl, hl58, hS59⟩
      refine ⟨_, rfl, trivial, ?_⟩
      refine WO.vals [(5, 23, (.bool r60))] (by kernel_rfl) (fun _ => by kernel_rfl) ?_
      obtain ⟨j61, hr1, hr⟩ := bind_some hr
      refine WO.join (l1 := [6, 7, 8, 9]) (l2 := [10, 11, 12, 13, 14, 15, 16, 17, 18, 19, 20, 21, 22]) (J := (fun fr w => ∃ (I63 : Mem), fr = [(0, (.slice a_p0 p0.length c_p0)), (1, (.slice a_p1 p1.length c_p1)), (27, (.bool j61))] ∧ I57.Le I63 ∧ St E w I63 Os)) ?restj61 ?waysj61
      case waysj61 =>
        refine WO.caseb r60 (fun hc => ?_) (fun hc => ?_)
        · replace hr1 := cond_t hc hr1
          refine WO.reslot 23 rfl (show Value.bool r60 = Value.bool true by rw [hc]) ?_
          refine WO.vals [(6, 24, (.slice a33 x32.length c34)), (7, 25, (.slice a_p0 p0.length c_p0))] (by kernel_rfl) (fun _ => by kernel_rfl) ?_
          obtain ⟨r70, hx_r65, hr1⟩ := bind_some hr1
          refine WO.call rfl (by kernel_rfl) rfl (f := 7) (args := #[(.slice a33 x32.length c34), (.slice a_p0 p0.length c_p0)]) (by kernel_rfl) (registrarref20_Same_ok (RSl.mono hp41 ((hl46.trans hl52).trans hl58)) (RSl.mono h_p0 (((((hl4.trans hl10).trans hl40).trans hl46).trans hl52).trans hl58)) hS59 hx_r65) ?_
          rintro _ w66 ⟨I67, rfl, hl68, hS69⟩
          refine ⟨_, rfl, trivial, ?_⟩
          refine WO.vals [(9, 27, (.bool r70))] (by kernel_rfl) (fun _ => by kernel_rfl) ?_
          have he := Option.some.inj hr1
          subst j61
          refine WO.weaken (fr' := [(0, (.slice a_p0 p0.length c_p0)), (1, (.slice a_p1 p1.length c_p1)), (27, (.bool r70))]) (WO.meet ⟨I67, rfl, hl68, hS69⟩) (Sub.cons rfl (Sub.cons rfl (Sub.cons rfl Sub.nil)))
        · replace hr1 := cond_f hc hr1
          refine WO.reslot 23 rfl (show Value.bool r60 = Value.bool false by rw [hc]) ?_
          refine WO.pass rfl (by kernel_rfl) rfl ?_
          refine WO.pass rfl (by kernel_rfl) rfl ?_
          refine WO.pass rfl (by kernel_rfl) rfl ?_
          refine WO.vals [(9, 27, (.bool false))] (by kernel_rfl) (fun _ => by kernel_rfl) ?_
          have he := Option.some.inj hr1
          subst j61
          refine WO.weaken (fr' := [(0, (.slice a_p0 p0.length c_p0)), (1, (.slice a_p1 p1.length c_p1)), (27, (.bool false))]) (WO.meet ⟨I57, rfl, Mem.Le.refl _, hS59⟩) (Sub.cons rfl (Sub.cons rfl (Sub.cons rfl Sub.nil)))
      case restj61 =>
        rintro _ w71 ⟨I63, rfl, hl64, hS72⟩
        refine WO.vals [(10, 28, (.bool j61))] (by kernel_rfl) (fun _ => by kernel_rfl) ?_
        obtain ⟨j73, hr1, hr⟩ := bind_some hr
        refine WO.join (l1 := [11, 12, 13, 14, 15, 16, 17, 18]) (l2 := [19, 20, 21, 22]) (J := (fun fr w => ∃ (I75 : Mem), fr = [(36, (.bool j73))] ∧ I63.Le I75 ∧ St E w I75 Os)) ?restj73 ?waysj73
        case waysj73 =>
          refine WO.caseb j61 (fun hc => ?_) (fun hc => ?_)
          · replace hr1 := cond_t hc hr1
            refine WO.reslot 28 rfl (show Value.bool j61 = Value.bool true by rw [hc]) ?_
            refine WO.vals [(11, 29, (.slice a_p0 p0.length c_p0)), (12, 30, (.slice a_p1 p1.length c_p1))] (by kernel_rfl) (fun _ => by kernel_rfl) ?_
            obtain ⟨r82, hx_r77, hr1⟩ := bind_some hr1
            refine WO.call rfl (by kernel_rfl) rfl (f := 10) (args := #[(.slice a_p0 p0.length c_p0), (.slice a_p1 p1.length c_p1)]) (by kernel_rfl) (access_Covers_ok (RSl.mono h_p0 ((((((hl4.trans hl10).trans hl40).trans hl46).trans hl52).trans hl58).trans hl64)) (RSl.mono h_p1 ((((((hl4.trans hl10).trans hl40).trans hl46).trans hl52).trans hl58).trans hl64)) hS72 hx_r77) ?_
            rintro _ w78 ⟨I79, rfl, hl80, hS81⟩
            refine ⟨_, rfl, trivial, ?_⟩
            refine WO.vals [(14, 32, (.slice a_p0 p0.length c_p0)), (15, 33, (.slice a_p1 p1.length c_p1))] (by kernel_rfl) (fun _ => by kernel_rfl) ?_
            obtain ⟨r88, hx_r83, hr1⟩ := bind_some hr1
            refine WO.call rfl (by kernel_rfl) rfl (f := 11) (args := #[(.slice a_p0 p0.length c_p0), (.slice a_p1 p1.length c_p1)]) (by kernel_rfl) (registrarref20_Covers_ok (RSl.mono h_p0 (((((((hl4.trans hl10).trans hl40).trans hl46).trans hl52).trans hl58).trans hl64).trans hl80)) (RSl.mono h_p1 (((((((hl4.trans hl10).trans hl40).trans hl46).trans hl52).trans hl58).trans hl64).trans hl80)) hS81 hx_r83) ?_
            rintro _ w84 ⟨I85, rfl, hl86, hS87⟩
            refine ⟨_, rfl, trivial, ?_⟩
            refine WO.vals [(17, 35, (.bool (r82 == r88))), (18, 36, (.bool (r82 == r88)))] (by kernel_rfl) (fun _ => by kernel_rfl) ?_
            have he := Option.some.inj hr1
            subst j73
            refine WO.weaken (fr' := [(36, (.bool (r82 == r88)))]) (WO.meet ⟨I85, rfl, (hl80.trans hl86), hS87⟩) (Sub.cons rfl Sub.nil)
          · replace hr1 := cond_f hc hr1
            refine WO.reslot 28 rfl (show Value.bool j61 = Value.bool false by rw [hc]) ?_
            refine WO.pass rfl (by kernel_rfl) rfl ?_
            refine WO.pass rfl (by kernel_rfl) rfl ?_
            refine WO.pass rfl (by kernel_rfl) rfl ?_
            refine WO.pass rfl (by kernel_rfl) rfl ?_
            refine WO.pass rfl (by kernel_rfl) rfl ?_
            refine WO.pass rfl (by kernel_rfl) rfl ?_
            refine WO.pass rfl (by kernel_rfl) rfl ?_
            refine WO.vals [(18, 36, (.bool false))] (by kernel_rfl) (fun _ => by kernel_rfl) ?_
            have he := Option.some.inj hr1
            subst j73
            refine WO.weaken (fr' := [(36, (.bool false))]) (WO.meet ⟨I63, rfl, Mem.Le.refl _, hS72⟩) (Sub.cons rfl Sub.nil)
        case restj73 =>
          rintro _ w89 ⟨I75, rfl, hl76, hS90⟩
          refine WO.vals [(19, 37, (.bool j73))] (by kernel_rfl) (fun _ => by kernel_rfl) ?_
          obtain ⟨j91, hr1, hr⟩ := bind_some hr
          refine WO.join (l1 := [20, 21]) (l2 := [22]) (J := (fun fr w => ∃ (I93 : Mem), fr = [(39, (.bool j91))] ∧ I75.Le I93 ∧ St E w I93 Os)) ?restj91 ?waysj91
          case waysj91 =>
            refine WO.caseb j73 (fun hc => ?_) (fun hc => ?_)
            · replace hr1 := cond_t hc hr1
              refine WO.reslot 37 rfl (show Value.bool j73 = Value.bool true by rw [hc]) ?_
              obtain ⟨r100, hx_r95, hr1⟩ := bind_some hr1
              refine WO.call rfl (by kernel_rfl) rfl (f := 6) (args := #[]) (by kernel_rfl) (registrarlaw20_works_ok  hS90 hx_r95) ?_
              rintro _ w96 ⟨I97, rfl, hl98, hS99⟩
              refine ⟨_, rfl, trivial, ?_⟩
              refine WO.vals [(21, 39, (.bool r100))] (by kernel_rfl) (fun _ => by kernel_rfl) ?_
              have he := Option.some.inj hr1
              subst j91
              refine WO.weaken (fr' := [(39, (.bool r100))]) (WO.meet ⟨I97, rfl, hl98, hS99⟩) (Sub.cons rfl Sub.nil)
            · replace hr1 := cond_f hc hr1
              refine WO.reslot 37 rfl (show Value.bool j73 = Value.bool false by rw [hc]) ?_
              refine WO.pass rfl (by kernel_rfl) rfl ?_
              refine WO.vals [(21, 39, (.bool false))] (by kernel_rfl) (fun _ => by kernel_rfl) ?_
              have he := Option.some.inj hr1
              subst j91
              refine WO.weaken (fr' := [(39, (.bool false))]) (WO.meet ⟨I75, rfl, Mem.Le.refl _, hS90⟩) (Sub.cons rfl Sub.nil)
          case restj91 =>
            rintro _ w101 ⟨I93, rfl, hl94, hS102⟩
            refine WO.vals [(22, 4, (.bool j91))] (by kernel_rfl) (fun _ => by kernel_rfl) ?_
            refine WO.nil ?_
            refine En.next ?_
            refine W.ret ?_
            have he := Option.some.inj hr
            subst r
            exact En.ret1 rfl (.bool j91) rfl ⟨I93, rfl, ((((((((hl4.trans hl10).trans hl40).trans hl46).trans hl52).trans hl58).trans hl64).trans hl76).trans hl94), hS102⟩
noncomputable def registrarlaw20_AccessCovers (p0 : List api_Need) (p1 : List api_Need) : Option Bool := (registrarlaw20_few p0).bind (fun (r6 : Bool) => ((bif (!r6) then some true else (registrarlaw20_few p1).bind (fun (r16 : Bool) => some (!r16)))).bind (fun (j7 : Bool) => (bif j7 then (registrarlaw20_works).bind (fun (r24 : Bool) => some r24) else (access_Merge p0).bind (fun (r30 : List api_Need) => (access_Covers r30 p0).bind (fun (r36 : Bool) => ((bif (!r36) then some true else (access_Merge r30).bind (fun (r46 : List api_Need) => (registrarref20_Same r46 r30).bind (fun (r52 : Bool) => some (!r52))))).bind (fun (j37 : Bool) => (bif j37 then some false else (app 24 ([] : List api_Need) r30).bind (fun (x62 : List api_Need) => (app 24 x62 p1).bind (fun (x69 : List api_Need) => (access_Merge x69).bind (fun (r85 : List api_Need) => (access_Covers r85 p1).bind (fun (r91 : Bool) => ((bif r91 then (access_Covers r85 p0).bind (fun (r101 : Bool) => some r101) else some false)).bind (fun (j92 : Bool) => ((bif j92 then (access_Covers r30 p1).bind (fun (r113 : Bool) => (registrarref20_Same r30 r85).bind (fun (r119 : Bool) => some (r113 == r119))) else some false)).bind (fun (j104 : Bool) => ((bif j104 then (registrarlaw20_works).bind (fun (r131 : Bool) => some r131) else some false)).bind (fun (j122 : Bool) => some j122))))))))))))))
set_option maxHeartbeats 1000000 in
theorem registrarlaw20_AccessCovers_ok {E w : World} {I : Mem} {Os : List Mem} {p0 : List api_Need} {p1 : List api_Need} {a_p0 : Option Addr} {c_p0 : Nat} {a_p1 : Option Addr} {c_p1 : Nat} (h_p0 : RSl 2 R_api_Need I a_p0 c_p0 p0) (h_p1 : RSl 2 R_api_Need I a_p1 c_p1 p1) (hS : St E w I Os) {r : Bool} (hr : registrarlaw20_AccessCovers p0 p1 = some r) :
    Calls P 4 #[(.slice a_p0 p0.length c_p0), (.slice a_p1 p1.length c_p1)] w (fun e w' => ∃ (I' : Mem), e = .returned (.bool r) ∧ I.Le I' ∧ St E w' I' Os) := by
  refine calls_W (args := [(.slice a_p0 p0.length c_p0), (.slice a_p1 p1.length c_p1)]) (fn := Try.f4) rfl rfl rfl ?_
  unfold registrarlaw20_AccessCovers at hr
  refine W.seq ?_
  refine W.region (l := [0]) (by kernel_rfl) ?_
  refine WO.vals [(0, 4, (.bool false))] (by kernel_rfl) (fun _ => by kernel_rfl) ?_
  refine WO.nil ?_
  refine En.next ?_
  refine W.seq ?_
  refine W.seq ?_
  refine W.region (l := [0, 1, 2, 3, 4, 5, 6, 7]) (by kernel_rfl) ?_
  refine WO.vals [(0, 7, (.slice a_p0 p0.length c_p0))] (by kernel_rfl) (fun _ => by kernel_rfl) ?_
  obtain ⟨r6, hx_r1, hr⟩ := bind_some hr
  refine WO.call rfl (by kernel_rfl) rfl (f := 5) (args := #[(.slice a_p0 p0.length c_p0)]) (by kernel_rfl) (registrarlaw20_few_ok h_p0 hS hx_r1) ?_
  rintro _ w2 ⟨I3, rfl, hl4, hS5⟩
  refine ⟨_, rfl, trivial, ?_⟩
  refine WO.vals [(2, 9, (.bool (!r6))), (3, 10, (.bool (!r6)))] (by kernel_rfl) (fun _ => by kernel_rfl) ?_
  obtain ⟨j7, hr1, hr⟩ := bind_some hr
  refine WO.join (l1 := [4, 5, 6, 7]) (l2 := []) (J := (fun fr w => ∃ (I9 : Mem), fr = [(0, (.slice a_p0 p0.length c_p0)), (1, (.slice a_p1 p1.length c_p1)), (14, (.bool j7))] ∧ I3.Le I9 ∧ St E w I9 Os)) ?restj7 ?waysj7
  case waysj7 =>
    refine WO.caseb (!r6) (fun hc => ?_) (fun hc => ?_)
    · replace hr1 := cond_t hc hr1
      refine WO.reslot 10 rfl (show Value.bool (!r6) = Value.bool true by rw [hc]) ?_
      refine WO.pass rfl (by kernel_rfl) rfl ?_
      refine WO.pass rfl (by kernel_rfl) rfl ?_
      refine WO.pass rfl (by kernel_rfl) rfl ?_
      refine WO.vals [(7, 14, (.bool true))] (by kernel_rfl) (fun _ => by kernel_rfl) ?_
      have he := Option.some.inj hr1
      subst j7
      refine WO.weaken (fr' := [(0, (.slice a_p0 p0.length c_p0)), (1, (.slice a_p1 p1.length c_p1)), (14, (.bool true))]) (WO.meet ⟨I3, rfl, Mem.Le.refl _, hS5⟩) (Sub.cons rfl (Sub.cons rfl (Sub.cons rfl Sub.nil)))
    · replace hr1 := cond_f hc hr1
      refine WO.reslot 10 rfl (show Value.bool (!r6) = Value.bool false by rw [hc]) ?_
      refine WO.vals [(4, 11, (.slice a_p1 p1.length c_p1))] (by kernel_rfl) (fun _ => by kernel_rfl) ?_
      obtain ⟨r16, hx_r11, hr1⟩ := bind_some hr1
      refine WO.call rfl (by kernel_rfl) rfl (f := 5) (args := #[(.slice a_p1 p1.length c_p1)]) (by kernel_rfl) (registrarlaw20_few_ok (RSl.mono h_p1 hl4) hS5 hx_r11) ?_
      rintro _ w12 ⟨I13, rfl, hl14, hS15⟩
      refine ⟨_, rfl, trivial, ?_⟩
      refine WO.vals [(6, 13, (.bool (!r16))), (7, 14, (.bool (!r16)))] (by kernel_rfl) (fun _ => by kernel_rfl) ?_
      have he := Option.some.inj hr1
      subst j7
      refine WO.weaken (fr' := [(0, (.slice a_p0 p0.length c_p0)), (1, (.slice a_p1 p1.length c_p1)), (14, (.bool (!r16)))]) (WO.meet ⟨I13, rfl, hl14, hS15⟩) (Sub.cons rfl (Sub.cons rfl (Sub.cons rfl Sub.nil)))
  case restj7 =>
    rintro _ w17 ⟨I9, rfl, hl10, hS18⟩
    refine WO.nil ?_
    refine En.next ?_
    refine W.cond (b := j7) rfl rfl (fun hc => ?_) (fun hc => ?_)
    · replace hr := cond_t hc hr
      refine W.seq ?_
      refine W.region (l := [0, 1]) (by kernel_rfl) ?_
      obtain ⟨r24, hx_r19, hr⟩ := bind_some hr
      refine WO.call rfl (by kernel_rfl) rfl (f := 6) (args := #[]) (by kernel_rfl) (registrarlaw20_works_ok  hS18 hx_r19) ?_
      rintro _ w20 ⟨I21, rfl, hl22, hS23⟩
      refine ⟨_, rfl, trivial, ?_⟩
      refine WO.vals [(1, 4, (.bool r24))] (by kernel_rfl) (fun _ => by kernel_rfl) ?_
      refine WO.nil ?_
      refine En.next ?_
      refine W.ret ?_
      refine En.nx_ret ?_
      have he := Option.some.inj hr
      subst r
      exact En.ret1 rfl (.bool r24) rfl ⟨I21, rfl, ((hl4.trans hl10).trans hl22), hS23⟩
    · replace hr := cond_f hc hr
      refine W.skip ?_
      refine En.next ?_
      refine W.seq ?_
      refine W.region (l := [0, 1, 2]) (by kernel_rfl) ?_
      refine WO.vals [(0, 16, (.slice a_p0 p0.length c_p0))] (by kernel_rfl) (fun _ => by kernel_rfl) ?_
      obtain ⟨r30, hx_r25, hr⟩ := bind_some hr
      refine WO.call rfl (by kernel_rfl) rfl (f := 8) (args := #[(.slice a_p0 p0.length c_p0)]) (by kernel_rfl) (access_Merge_ok (RSl.mono h_p0 (hl4.trans hl10)) hS18 hx_r25) ?_
      rintro _ w26 ⟨I27, a_r30, c_r30, rfl, hl28, hS29, h_r30⟩
      refine ⟨_, rfl, trivial, ?_⟩
      refine WO.vals [(2, 5, (.slice a_r30 r30.length c_r30))] (by kernel_rfl) (fun _ => by kernel_rfl) ?_
      refine WO.nil ?_
      refine En.next ?_
      refine W.seq ?_
      refine W.seq ?_
      refine W.region (l := [0, 1, 2, 3, 4, 5, 6, 7, 8, 9, 10]) (by kernel_rfl) ?_
      refine WO.vals [(0, 18, (.slice a_r30 r30.length c_r30)), (1, 19, (.slice a_p0 p0.length c_p0))] (by kernel_rfl) (fun _ => by kernel_rfl) ?_
      obtain ⟨r36, hx_r31, hr⟩ := bind_some hr
      refine WO.call rfl (by kernel_rfl) rfl (f := 10) (args := #[(.slice a_r30 r30.length c_r30), (.slice a_p0 p0.length c_p0)]) (by kernel_rfl) (access_Covers_ok h_r30 (RSl.mono h_p0 ((hl4.trans hl10).trans hl28)) hS29 hx_r31) ?_
      rintro _ w32 ⟨I33, rfl, hl34, hS35⟩
      refine ⟨_, rfl, trivial, ?_⟩
      refine WO.vals [(3, 21, (.bool (!r36))), (4, 22, (.bool (!r36)))] (by kernel_rfl) (fun _ => by kernel_rfl) ?_
      obtain ⟨j37, hr1, hr⟩ := bind_some hr
      refine WO.join (l1 := [5, 6, 7, 8, 9, 10]) (l2 := []) (J := (fun fr w => ∃ (I39 : Mem), fr = [(0, (.slice a_p0 p0.length c_p0)), (1, (.slice a_p1 p1.length c_p1)), (5, (.slice a_r30 r30.length c_r30)), (28, (.bool j37))] ∧ I33.Le I39 ∧ St E w I39 Os)) ?restj37 ?waysj37
      case waysj37 =>
        refine WO.caseb (!r36) (fun hc => ?_) (fun hc => ?_)
        · replace hr1 := cond_t hc hr1
          refine WO.reslot 22 rfl (show Value.bool (!r36) = Value.bool true by rw [hc]) ?_
          refine WO.pass rfl (by kernel_rfl) rfl ?_
          refine WO.pass rfl (by kernel_rfl) rfl ?_
          refine WO.pass rfl (by kernel_rfl) rfl ?_
          refine WO.pass rfl (by kernel_rfl) rfl ?_
          refine WO.pass rfl (by kernel_rfl) rfl ?_
          refine WO.vals [(10, 28, (.bool true))] (by kernel_rfl) (fun _ => by kernel_rfl) ?_
          have he := Option.some.inj hr1
          subst j37
          refine WO.weaken (fr' := [(0, (.slice a_p0 p0.length c_p0)), (1, (.slice a_p1 p1.length c_p1)), (5, (.slice a_r30 r30.length c_r30)), (28, (.bool true))]) (WO.meet ⟨I33, rfl, Mem.Le.refl _, hS35⟩) (Sub.cons rfl (Sub.cons rfl (Sub.cons rfl (Sub.cons rfl Sub.nil))))
        · replace hr1 := cond_f hc hr1
          refine WO.reslot 22 rfl (show Value.bool (!r36) = Value.bool false by rw [hc]) ?_
          refine WO.vals [(5, 23, (.slice a_r30 r30.length c_r30))] (by kernel_rfl) (fun _ => by kernel_rfl) ?_
          obtain ⟨r46, hx_r41, hr1⟩ := bind_some hr1
          refine WO.call rfl (by kernel_rfl) rfl (f := 8) (args := #[(.slice a_r30 r30.length c_r30)]) (by kernel_rfl) (access_Merge_ok (RSl.mono h_r30 hl34) hS35 hx_r41) ?_
          rintro _ w42 ⟨I43, a_r46, c_r46, rfl, hl44, hS45, h_r46⟩
          refine ⟨_, rfl, trivial, ?_⟩
          refine WO.vals [(7, 25, (.slice a_r30 r30.length c_r30))] (by kernel_rfl) (fun _ => by kernel_rfl) ?_
          obtain ⟨r52, hx_r47, hr1⟩ := bind_some hr1
          refine WO.call rfl (by kernel_rfl) rfl (f := 7) (args := #[(.slice a_r46 r46.length c_r46), (.slice a_r30 r30.length c_r30)]) (by kernel_rfl) (registrarref20_Same_ok h_r46 (RSl.mono h_r30 (hl34.trans hl44)) hS45 hx_r47) ?_
          rintro _ w48 ⟨I49, rfl, hl50, hS51⟩
          refine ⟨_, rfl, trivial, ?_⟩
          refine WO.vals [(9, 27, (.bool (!r52))), (10, 28, (.bool (!r52)))] (by kernel_rfl) (fun _ => by kernel_rfl) ?_
          have he := Option.some.inj hr1
          subst j37
          refine WO.weaken (fr' := [(0, (.slice a_p0 p0.length c_p0)), (1, (.slice a_p1 p1.length c_p1)), (5, (.slice a_r30 r30.length c_r30)), (28, (.bool (!r52)))]) (WO.meet ⟨I49, rfl, (hl44.trans hl50), hS51⟩) (Sub.cons rfl (Sub.cons rfl (Sub.cons rfl (Sub.cons rfl Sub.nil))))
      case restj37 =>
        rintro _ w53 ⟨I39, rfl, hl40, hS54⟩
        refine WO.nil ?_
        refine En.next ?_
        refine W.cond (b := j37) rfl rfl (fun hc => ?_) (fun hc => ?_)
        · replace hr := cond_t hc hr
          refine W.seq ?_
          refine W.region (l := [0]) (by kernel_rfl) ?_
          refine WO.vals [(0, 4, (.bool false))] (by kernel_rfl) (fun _ => by kernel_rfl) ?_
          refine WO.nil ?_
          refine En.next ?_
          refine W.ret ?_
          refine En.nx_ret ?_
          have he := Option.some.inj hr
          subst r
          exact En.ret1 rfl (.bool false) rfl ⟨I39, rfl, ((((hl4.trans hl10).trans hl28).trans hl34).trans hl40), hS54⟩
        · replace hr := cond_f hc hr
          refine W.skip ?_
          refine En.next ?_
          refine W.seq ?_
          refine W.region (l := [0, 1, 2, 3, 4, 5, 6]) (by kernel_rfl) ?_
          refine WO.newSlice (rel := R_api_Need) (xs := ([] : List api_Need)) hS54 rfl (by kernel_rfl) rfl 28 2 [] (by kernel_rfl) rfl (Elr.nil) (fun _ _ _ => trivial) ?_
          intro a58 C56 w60 hS59 ho57
          refine WO.vals [(1, 30, (.slice a_r30 r30.length c_r30))] (by kernel_rfl) (fun _ => by kernel_rfl) ?_
          obtain ⟨x62, hx_x62, hr⟩ := bind_some hr
          obtain ⟨h0_x62, he_x62⟩ := app_some hx_x62
          refine WO.append (e' := 28) (b := 24) (zs := #[(.string (⟨#[]⟩ : ByteArray)), (.int .i64 0)]) hS59 ho57 rfl (by kernel_rfl) rfl (by kernel_rfl) (by kernel_rfl) (by kernel_rfl) rfl rfl rfl rfl (RSl.mono h_r30 (hl34.trans hl40)) hS59.im h0_x62 he_x62 (fun _ _ _ => trivial) ?_
          intro a63 c64 w65 C66 hS67 ho68
          refine WO.vals [(3, 32, (.slice a_p1 p1.length c_p1))] (by kernel_rfl) (fun _ => by kernel_rfl) ?_
          obtain ⟨x69, hx_x69, hr⟩ := bind_some hr
          obtain ⟨h0_x69, he_x69⟩ := app_some hx_x69
          refine WO.append (e' := 28) (b := 24) (zs := #[(.string (⟨#[]⟩ : ByteArray)), (.int .i64 0)]) hS67 ho68 rfl (by kernel_rfl) rfl (by kernel_rfl) (by kernel_rfl) (by kernel_rfl) rfl rfl rfl rfl (RSl.mono h_p1 ((((hl4.trans hl10).trans hl28).trans hl34).trans hl40)) hS67.im h0_x69 he_x69 (fun _ _ _ => trivial) ?_
          intro a70 c71 w72 C73 hS74 ho75
          obtain ⟨I76, hl77, hS79, hp78⟩ := OwnSl.pub ho75 hS74
          obtain ⟨r85, hx_r80, hr⟩ := bind_some hr
          refine WO.call rfl (by kernel_rfl) rfl (f := 8) (args := #[(.slice a70 x69.length c71)]) (by kernel_rfl) (access_Merge_ok hp78 hS79 hx_r80) ?_
          rintro _ w81 ⟨I82, a_r85, c_r85, rfl, hl83, hS84, h_r85⟩
          refine ⟨_, rfl, trivial, ?_⟩
          refine WO.vals [(6, 6, (.slice a_r85 r85.length c_r85))] (by kernel_rfl) (fun _ => by kernel_rfl) ?_
          refine WO.nil ?_
          refine En.next ?_
          refine W.seq ?_
          refine W.region (l := [0, 1, 2, 3, 4, 5, 6, 7, 8, 9, 10, 11, 12, 13, 14, 15, 16, 17, 18, 19, 20]) (by kernel_rfl) ?_
          refine WO.vals [(0, 35, (.slice a_r85 r85.length c_r85)), (1, 36, (.slice a_p1 p1.length c_p1))] (by kernel_rfl) (fun _ => by kernel_rfl) ?_
          obtain ⟨r91, hx_r86, hr⟩ := bind_some hr
          refine WO.call rfl (by kernel_rfl) rfl (f := 10) (args := #[(.slice a_r85 r85.length c_r85), (.slice a_p1 p1.length c_p1)]) (by kernel_rfl) (access_Covers_ok h_r85 (RSl.mono h_p1 ((((((hl4.trans hl10).trans hl28).trans hl34).trans hl40).trans hl77).trans hl83)) hS84 hx_r86) ?_
          rintro _ w87 ⟨I88, rfl, hl89, hS90⟩
          refine ⟨_, rfl, trivial, ?_⟩
          refine WO.vals [(3, 38, (.bool r91))] (by kernel_rfl) (fun _ => by kernel_rfl) ?_
          obtain ⟨j92, hr1, hr⟩ := bind_some hr
          refine WO.join (l1 := [4, 5, 6, 7]) (l2 := [8, 9, 10, 11, 12, 13, 14, 15, 16, 17, 18, 19, 20]) (J := (fun fr w => ∃ (I94 : Mem), fr = [(1, (.slice a_p1 p1.length c_p1)), (5, (.slice a_r30 r30.length c_r30)), (6, (.slice a_r85 r85.length c_r85)), (42, (.bool j92))] ∧ I88.Le I94 ∧ St E w I94 Os)) ?restj92 ?waysj92
          case waysj92 =>
            refine WO.caseb r91 (fun hc => ?_) (fun hc => ?_)
            · replace hr1 := cond_t hc hr1
              refine WO.reslot 38 rfl (show Value.bool r91 = Value.bool true by rw [hc]) ?_
              refine WO.vals [(4, 39, (.slice a_r85 r85.length c_r85)), (5, 40, (.slice a_p0 p0.length c_p0))] (by kernel_rfl) (fun _ => by kernel_rfl) ?_
              obtain ⟨r101, hx_r96, hr1⟩ := bind_some hr1
              refine WO.call rfl (by kernel_rfl) rfl (f := 10) (args := #[(.slice a_r85 r85.length c_r85), (.slice a_p0 p0.length c_p0)]) (by kernel_rfl) (access_Covers_ok (RSl.mono h_r85 hl89) (RSl.mono h_p0 (((((((hl4.trans hl10).trans hl28).trans hl34).trans hl40).trans hl77).trans hl83).trans hl89)) hS90 hx_r96) ?_
              rintro _ w97 ⟨I98, rfl, hl99, hS100⟩
              refine ⟨_, rfl, trivial, ?_⟩
              refine WO.vals [(7, 42, (.bool r101))] (by kernel_rfl) (fun _ => by kernel_rfl) ?_
              have he := Option.some.inj hr1
              subst j92
              refine WO.weaken (fr' := [(1, (.slice a_p1 p1.length c_p1)), (5, (.slice a_r30 r30.length c_r30)), (6, (.slice a_r85 r85.length c_r85)), (42, (.bool r101))]) (WO.meet ⟨I98, rfl, hl99, hS100⟩) (Sub.cons rfl (Sub.cons rfl (Sub.cons rfl (Sub.cons rfl Sub.nil))))
            · replace hr1 := cond_f hc hr1
              refine WO.reslot 38 rfl (show Value.bool r91 = Value.bool false by rw [hc]) ?_
              refine WO.pass rfl (by kernel_rfl) rfl ?_
              refine WO.pass rfl (by kernel_rfl) rfl ?_
              refine WO.pass rfl (by kernel_rfl) rfl ?_
              refine WO.vals [(7, 42, (.bool false))] (by kernel_rfl) (fun _ => by kernel_rfl) ?_
              have he := Option.some.inj hr1
              subst j92
              refine WO.weaken (fr' := [(1, (.slice a_p1 p1.length c_p1)), (5, (.slice a_r30 r30.length c_r30)), (6, (.slice a_r85 r85.length c_r85)), (42, (.bool false))]) (WO.meet ⟨I88, rfl, Mem.Le.refl _, hS90⟩) (Sub.cons rfl (Sub.cons rfl (Sub.cons rfl (Sub.cons rfl Sub.nil))))
          case restj92 =>
            rintro _ w102 ⟨I94, rfl, hl95, hS103⟩
            refine WO.vals [(8, 43, (.bool j92))] (by kernel_rfl) (fun _ => by kernel_rfl) ?_
            obtain ⟨j104, hr1, hr⟩ := bind_some hr
            refine WO.join (l1 := [9, 10, 11, 12, 13, 14, 15, 16]) (l2 := [17, 18, 19, 20]) (J := (fun fr w => ∃ (I106 : Mem), fr = [(51, (.bool j104))] ∧ I94.Le I106 ∧ St E w I106 Os)) ?restj104 ?waysj104
            case waysj104 =>
              refine WO.caseb j92 (fun hc => ?_) (fun hc => ?_)
              · replace hr1 := cond_t hc hr1
                refine WO.reslot 43 rfl (show Value.bool j92 = Value.bool true by rw [hc]) ?_
                refine WO.vals [(9, 44, (.slice a_r30 r30.length c_r30)), (10, 45, (.slice a_p1 p1.length c_p1))] (by kernel_rfl) (fun _ => by kernel_rfl) ?_
                obtain ⟨r113, hx_r108, hr1⟩ := bind_some hr1
                refine WO.call rfl (by kernel_rfl) rfl (f := 10) (args := #[(.slice a_r30 r30.length c_r30), (.slice a_p1 p1.length c_p1)]) (by kernel_rfl) (access_Covers_ok (RSl.mono h_r30 (((((hl34.trans hl40).trans hl77).trans hl83).trans hl89).trans hl95)) (RSl.mono h_p1 ((((((((hl4.trans hl10).trans hl28).trans hl34).trans hl40).trans hl77).trans hl83).trans hl89).trans hl95)) hS103 hx_r108) ?_
                rintro _ w109 ⟨I110, rfl, hl111, hS112⟩
                refine ⟨_, rfl, trivial, ?_⟩
                refine WO.vals [(12, 47, (.slice a_r30 r30.length c_r30)), (13, 48, (.slice a_r85 r85.length c_r85))] (by kernel_rfl) (fun _ => by kernel_rfl) ?_
                obtain ⟨r119, hx_r114, hr1⟩ := bind_some hr1
                refine WO.call rfl (by kernel_rfl) rfl (f := 7) (args := #[(.slice a_r30 r30.length c_r30), (.slice a_r85 r85.length c_r85)]) (by kernel_rfl) (registrarref20_Same_ok (RSl.mono h_r30 ((((((hl34.trans hl40).trans hl77).trans hl83).trans hl89).trans hl95).trans hl111)) (RSl.mono h_r85 ((hl89.trans hl95).trans hl111)) hS112 hx_r114) ?_
                rintro _ w115 ⟨I116, rfl, hl117, hS118⟩
                refine ⟨_, rfl, trivial, ?_⟩
                refine WO.vals [(15, 50, (.bool (r113 == r119))), (16, 51, (.bool (r113 == r119)))] (by kernel_rfl) (fun _ => by kernel_rfl) ?_
                have he := Option.some.inj hr1
                subst j104
                refine WO.weaken (fr' := [(51, (.bool (r113 == r119)))]) (WO.meet ⟨I116, rfl, (hl111.trans hl117), hS118⟩) (Sub.cons rfl Sub.nil)
              · replace hr1 := cond_f hc hr1
                refine WO.reslot 43 rfl (show Value.bool j92 = Value.bool false by rw [hc]) ?_
                refine WO.pass rfl (by kernel_rfl) rfl ?_
                refine WO.pass rfl (by kernel_rfl) rfl ?_
                refine WO.pass rfl (by kernel_rfl) rfl ?_
                refine WO.pass rfl (by kernel_rfl) rfl ?_
                refine WO.pass rfl (by kernel_rfl) rfl ?_
                refine WO.pass rfl (by kernel_rfl) rfl ?_
                refine WO.pass rfl (by kernel_rfl) rfl ?_
                refine WO.vals [(16, 51, (.bool false))] (by kernel_rfl) (fun _ => by kernel_rfl) ?_
                have he := Option.some.inj hr1
                subst j104
                refine WO.weaken (fr' := [(51, (.bool false))]) (WO.meet ⟨I94, rfl, Mem.Le.refl _, hS103⟩) (Sub.cons rfl Sub.nil)
            case restj104 =>
              rintro _ w120 ⟨I106, rfl, hl107, hS121⟩
              refine WO.vals [(17, 52, (.bool j104))] (by kernel_rfl) (fun _ => by kernel_rfl) ?_
              obtain ⟨j122, hr1, hr⟩ := bind_some hr
              refine WO.join (l1 := [18, 19]) (l2 := [20]) (J := (fun fr w => ∃ (I124 : Mem), fr = [(54, (.bool j122))] ∧ I106.Le I124 ∧ St E w I124 Os)) ?restj122 ?waysj122
              case waysj122 =>
                refine WO.caseb j104 (fun hc => ?_) (fun hc => ?_)
                · replace hr1 := cond_t hc hr1
                  refine WO.reslot 52 rfl (show Value.bool j104 = Value.bool true by rw [hc]) ?_
                  obtain ⟨r131, hx_r126, hr1⟩ := bind_some hr1
                  refine WO.call rfl (by kernel_rfl) rfl (f := 6) (args := #[]) (by kernel_rfl) (registrarlaw20_works_ok  hS121 hx_r126) ?_
                  rintro _ w127 ⟨I128, rfl, hl129, hS130⟩
                  refine ⟨_, rfl, trivial, ?_⟩
                  refine WO.vals [(19, 54, (.bool r131))] (by kernel_rfl) (fun _ => by kernel_rfl) ?_
                  have he := Option.some.inj hr1
                  subst j122
                  refine WO.weaken (fr' := [(54, (.bool r131))]) (WO.meet ⟨I128, rfl, hl129, hS130⟩) (Sub.cons rfl Sub.nil)
                · replace hr1 := cond_f hc hr1
                  refine WO.reslot 52 rfl (show Value.bool j104 = Value.bool false by rw [hc]) ?_
                  refine WO.pass rfl (by kernel_rfl) rfl ?_
                  refine WO.vals [(19, 54, (.bool false))] (by kernel_rfl) (fun _ => by kernel_rfl) ?_
                  have he := Option.some.inj hr1
                  subst j122
                  refine WO.weaken (fr' := [(54, (.bool false))]) (WO.meet ⟨I106, rfl, Mem.Le.refl _, hS121⟩) (Sub.cons rfl Sub.nil)
              case restj122 =>
                rintro _ w132 ⟨I124, rfl, hl125, hS133⟩
                refine WO.vals [(20, 4, (.bool j122))] (by kernel_rfl) (fun _ => by kernel_rfl) ?_
                refine WO.nil ?_
                refine En.next ?_
                refine W.ret ?_
                have he := Option.some.inj hr
                subst r
                exact En.ret1 rfl (.bool j122) rfl ⟨I124, rfl, ((((((((((hl4.trans hl10).trans hl28).trans hl34).trans hl40).trans hl77).trans hl83).trans hl89).trans hl95).trans hl107).trans hl125), hS133⟩
end Go.Proofs.Ytfabocipcjnfnaa
