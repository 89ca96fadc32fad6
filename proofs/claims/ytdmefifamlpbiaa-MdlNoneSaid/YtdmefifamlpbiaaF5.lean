/- What functions of the program come to, each by a plain one. Conditions: none. -/
import Derived.Test.YtdmefifamlpbiaaF4
set_option maxRecDepth 100000
namespace Go.Proofs.Ytdmefifamlpbiaa
open Go.Gv
noncomputable def registrarlaw21_together (p0 : mdl_Locks) (p1 : ByteArray) : Option Bool := (mdl_Locks_Holders p0 p1).bind (fun (r8 : List Int) => (forN (fun (i12 : Nat) => fun (_s : Unit) => (loopO (fun (s22 : Int) => (bif (decide (s22 < (i12 : Int))) then (idx r8 (i12 : Int)).bind (fun (x29 : Int) => (registrarlaw21_mode p0 x29 p1).bind (fun (r37 : Int) => (idx r8 s22).bind (fun (x38 : Int) => (registrarlaw21_mode p0 x38 p1).bind (fun (r46 : Int) => (mdl_Goes r37 r46).bind (fun (r52 : Bool) => (bif (!r52) then some (.inr (.inl false)) else some (.inl (w64 (s22 + 1))))))))) else some (.inr (.inr ())))) 0).bind (fun (t : Bool ⊕ Unit) => match t with | (.inl s54) => some (.inr s54) | (.inr ()) => some (.inl ()))) r8.length 0 ()).bind (fun (t : Unit ⊕ (Bool)) => match t with | .inl _ => (mdl_Locks_Waiters p0 p1).bind (fun (r67 : List Int) => (bif ((r67.length : Int) == 0) then some (decide ((r8.length : Int) > 0)) else (idx r67 0).bind (fun (x68 : Int) => (mdl_Locks_Waits p0 x68).bind (fun ((r76, r77) : api_Need × Bool) => (forE (fun (i88 : Nat) => fun (s87 : Bool) => ((bif s87 then some true else (idx r8 (i88 : Int)).bind (fun (x103 : Int) => (registrarlaw21_mode p0 x103 p1).bind (fun (r111 : Int) => (mdl_Goes r111 r76.Mode).bind (fun (r117 : Bool) => some (!r117)))))).bind (fun (j99 : Bool) => some j99)) r8.length 0 false).bind (fun (s87 : Bool) => some ((r77 && (sEq r76.Path p1)) && s87)))))) | .inr s56 => some s56))
set_option maxHeartbeats 1000000 in
theorem registrarlaw21_together_ok {E w : World} {I : Mem} {Os : List Mem} {p0 : mdl_Locks} {p1 : ByteArray} {b_p0 : Nat} {w_p0 : W_mdl_Locks} (h_p0 : ok_mdl_Locks I p0 w_p0) (hS : St E w I ((Gv.one b_p0 (.cells (cs_mdl_Locks p0 w_p0).toArray 56 (0, 0))) :: (w_p0.at_.C) :: Os)) {r : Bool} (hr : registrarlaw21_together p0 p1 = some r) :
    Calls P 17 #[(.pointer (some ⟨b_p0, 0, none⟩)), (.string p1)] w (fun e w' => ∃ (I' : Mem), e = .returned (.bool r) ∧ I.Le I' ∧ St E w' I' ((Gv.one b_p0 (.cells (cs_mdl_Locks p0 w_p0).toArray 56 (0, 0))) :: w_p0.at_.C :: Os)) := by
  refine calls_W (args := [(.pointer (some ⟨b_p0, 0, none⟩)), (.string p1)]) (fn := Try.f17) rfl rfl rfl ?_
  unfold registrarlaw21_together at hr
  refine W.seq ?_
  refine W.region (l := [0]) (by kernel_rfl) ?_
  refine WO.vals [(0, 4, (.bool false))] (by kernel_rfl) (fun _ => by kernel_rfl) ?_
  refine WO.nil ?_
  refine En.next ?_
  refine W.seq ?_
  refine W.region (l := [0, 1, 2, 3]) (by kernel_rfl) ?_
  refine WO.vals [(0, 13, (.pointer (some ⟨b_p0, 0, none⟩))), (1, 14, (.string p1))] (by kernel_rfl) (fun _ => by kernel_rfl) ?_
  have hS1 := hS.front1
  have hS2 := hS1.front1
  obtain ⟨r8, hx_r3, hr⟩ := bind_some hr
  refine WO.call rfl (by kernel_rfl) rfl (f := 27) (args := #[(.pointer (some ⟨b_p0, 0, none⟩)), (.string p1)]) (by kernel_rfl) (mdl_Locks_Holders_ok h_p0 hS2 hx_r3) ?_
  rintro _ w4 ⟨I5, a_r8, c_r8, rfl, hl6, hS7, h_r8⟩
  refine ⟨_, rfl, trivial, ?_⟩
  refine WO.vals [(3, 5, (.slice a_r8 r8.length c_r8))] (by kernel_rfl) (fun _ => by kernel_rfl) ?_
  refine WO.nil ?_
  refine En.next ?_
  refine W.seq ?_
  refine W.seq ?_
  refine W.region (l := [0]) (by kernel_rfl) ?_
  refine WO.vals [(0, 6, (.int .i64 0))] (by kernel_rfl) (fun _ => by kernel_rfl) ?_
  refine WO.nil ?_
  refine En.next ?_
  refine W.block ?_
  obtain ⟨t9, hloop13, hr⟩ := bind_some hr
  have hlt17 := (h_r8).len_lt
  refine W.weaken (fr' := [(0, (.pointer (some ⟨b_p0, 0, none⟩))), (1, (.string p1)), (5, (.slice a_r8 r8.length c_r8)), (6, (.int .i64 ((0 : Nat) : Int)))]) (W.forN (m := r8.length) hloop13 (fun (i12 : Nat) => fun (_s : Unit) fr w => ∃ (I10 : Mem), fr = [(0, (.pointer (some ⟨b_p0, 0, none⟩))), (1, (.string p1)), (5, (.slice a_r8 r8.length c_r8)), (6, (.int .i64 (i12 : Int)))] ∧ I5.Le I10 ∧ St E w I10 ((Gv.one b_p0 (.cells (cs_mdl_Locks p0 w_p0).toArray 56 (0, 0))) :: (w_p0.at_.C) :: Os)) ⟨I5, rfl, Mem.Le.refl _, hS7⟩ ?roundt9 ?lastt9) (Sub.cons rfl (Sub.cons rfl (Sub.cons rfl (Sub.cons rfl Sub.nil))))
  case roundt9 =>
    rintro i12 _ _ w14 hi18 ⟨I10, rfl, hl11, hS15⟩ x16 hr1 hext9
    refine W.seq ?_
    refine W.seq ?_
    refine W.region (l := [0, 1, 2, 3]) (by kernel_rfl) ?_
    refine WO.vals [(0, 16, (.int .i64 (i12 : Int))), (1, 17, (.slice a_r8 r8.length c_r8)), (2, 18, (.int .i64 (r8.length : Int))), (3, 19, (.bool (decide ((i12 : Int) < (r8.length : Int)))))] (by kernel_rfl) (fun _ => by kernel_rfl) ?_
    refine WO.nil ?_
    refine En.next ?_
    refine W.cond (b := (decide ((i12 : Int) < (r8.length : Int)))) rfl rfl (fun hc => ?_) (fun hc => ?_)
    rotate_left
    · exact absurd hc (by first | (simp; done) | (simp; omega))
    clear hc
    refine W.skip ?_
    refine En.next ?_
    refine W.seq ?_
    refine W.block ?_
    refine W.seq ?_
    refine W.region (l := [0]) (by kernel_rfl) ?_
    refine WO.vals [(0, 7, (.int .i64 0))] (by kernel_rfl) (fun _ => by kernel_rfl) ?_
    refine WO.nil ?_
    refine En.next ?_
    refine W.block ?_
    obtain ⟨t19, hloop23, hr1⟩ := bind_some hr1
    refine W.weaken (fr' := [(0, (.pointer (some ⟨b_p0, 0, none⟩))), (1, (.string p1)), (5, (.slice a_r8 r8.length c_r8)), (6, (.int .i64 (i12 : Int))), (7, (.int .i64 0))]) (W.loopO hloop23 (fun (s22 : Int) fr w => ∃ (I20 : Mem), fr = [(0, (.pointer (some ⟨b_p0, 0, none⟩))), (1, (.string p1)), (5, (.slice a_r8 r8.length c_r8)), (6, (.int .i64 (i12 : Int))), (7, (.int .i64 s22))] ∧ I10.Le I20 ∧ St E w I20 ((Gv.one b_p0 (.cells (cs_mdl_Locks p0 w_p0).toArray 56 (0, 0))) :: (w_p0.at_.C) :: Os)) ⟨I10, rfl, Mem.Le.refl _, hS15⟩ ?_) (Sub.cons rfl (Sub.cons rfl (Sub.cons rfl (Sub.cons rfl (Sub.cons rfl Sub.nil)))))
    rintro s22 _ w24 ⟨I20, rfl, hl21, hS25⟩ x26 hr2 hext19
    refine W.seq ?_
    refine W.seq ?_
    refine W.region (l := [0, 1, 2]) (by kernel_rfl) ?_
    refine WO.vals [(0, 22, (.int .i64 s22)), (1, 23, (.int .i64 (i12 : Int))), (2, 24, (.bool (decide (s22 < (i12 : Int)))))] (by kernel_rfl) (fun _ => by kernel_rfl) ?_
    refine WO.nil ?_
    refine En.next ?_
    refine W.cond (b := (decide (s22 < (i12 : Int)))) rfl rfl (fun hc => ?_) (fun hc => ?_)
    · replace hr2 := cond_t hc hr2
      refine W.skip ?_
      refine En.next ?_
      refine W.seq ?_
      refine W.block ?_
      refine W.seq ?_
      have hS27 := hS25.drew
      refine W.draw (l := [0, 1, 2, 3, 4, 5, 6, 7, 8, 9, 10, 11, 12, 13, 14, 15]) (by kernel_rfl) 13 (KR I20 []) qR (.back (by kernel_rfl)) (by kernel_rfl) (KR.nil hS27.im) ?_
      generalize World.drew _ = w28 at *
      refine WO.vals [(0, 27, (.pointer (some ⟨b_p0, 0, none⟩))), (1, 28, (.slice a_r8 r8.length c_r8)), (2, 29, (.int .i64 (i12 : Int)))] (by kernel_rfl) (fun _ => by kernel_rfl) ?_
      obtain ⟨x29, hx_x29, hr2⟩ := bind_some hr2
      obtain ⟨h0_x29, h1_x29, hx_x29⟩ := idx_some hx_x29
      obtain ⟨ha_x29, cs_x29, hn_x29, hr_x29, hc_x29⟩ := ((RSl.mono h_r8 (hl11.trans hl21))).el _ _ hx_x29
      obtain rfl := hr_x29
      refine WO.indexAddr (e := 3) (sz := 1) rfl (by kernel_rfl) (by kernel_rfl) (by kernel_rfl) rfl ha_x29 rfl h0_x29 h1_x29 ?_
      refine WO.load rfl (by kernel_rfl) (by kernel_rfl) rfl (v := (.int .i64 x29)) (fun w' hw' => hc_x29.cell0 (by kernel_rfl) ((rd_i hS27.im) w' hw')) ?_
      refine WO.vals [(5, 32, (.string p1))] (by kernel_rfl) (fun _ => by kernel_rfl) ?_
      have hS30 := hS27.front1
      have hS31 := hS30.front1
      obtain ⟨r37, hx_r32, hr2⟩ := bind_some hr2
      refine WO.call rfl (by kernel_rfl) rfl (f := 31) (args := #[(.pointer (some ⟨b_p0, 0, none⟩)), (.int .i64 x29), (.string p1)]) (by kernel_rfl) (registrarlaw21_mode_ok (h_p0.mono ((hl6.trans hl11).trans hl21)) hS31 hx_r32) ?_
      rintro _ w33 ⟨I34, rfl, hl35, hS36⟩
      refine ⟨_, rfl, (KR.nil (hS36.im.of_le hl35)), ?_⟩
      refine WO.vals [(7, 34, (.pointer (some ⟨b_p0, 0, none⟩))), (8, 35, (.slice a_r8 r8.length c_r8)), (9, 36, (.int .i64 s22))] (by kernel_rfl) (fun _ => by kernel_rfl) ?_
      obtain ⟨x38, hx_x38, hr2⟩ := bind_some hr2
      obtain ⟨h0_x38, h1_x38, hx_x38⟩ := idx_some hx_x38
      obtain ⟨ha_x38, cs_x38, hn_x38, hr_x38, hc_x38⟩ := ((RSl.mono h_r8 (hl11.trans hl21))).el _ _ hx_x38
      obtain rfl := hr_x38
      refine WO.indexAddr (e := 3) (sz := 1) rfl (by kernel_rfl) (by kernel_rfl) (by kernel_rfl) rfl ha_x38 rfl h0_x38 h1_x38 ?_
      refine WO.load rfl (by kernel_rfl) (by kernel_rfl) rfl (v := (.int .i64 x38)) (fun w' hw' => hc_x38.cell0 (by kernel_rfl) ((rd_i (hS36.im.of_le hl35)) w' hw')) ?_
      refine WO.vals [(12, 39, (.string p1))] (by kernel_rfl) (fun _ => by kernel_rfl) ?_
      refine WO.tail rfl ?_
      have hS39 := hS36.front1
      have hS40 := hS39.front1
      obtain ⟨r46, hx_r41, hr2⟩ := bind_some hr2
      refine WO.call rfl (by kernel_rfl) rfl (f := 31) (args := #[(.pointer (some ⟨b_p0, 0, none⟩)), (.int .i64 x38), (.string p1)]) (by kernel_rfl) (registrarlaw21_mode_ok (h_p0.mono (((hl6.trans hl11).trans hl21).trans hl35)) hS40 hx_r41) ?_
      rintro _ w42 ⟨I43, rfl, hl44, hS45⟩
      refine ⟨_, rfl, trivial, ?_⟩
      obtain ⟨r52, hx_r47, hr2⟩ := bind_some hr2
      refine WO.call rfl (by kernel_rfl) rfl (f := 15) (args := #[(.int .i64 r37), (.int .i64 r46)]) (by kernel_rfl) (mdl_Goes_ok  hS45 hx_r47) ?_
      rintro _ w48 ⟨I49, rfl, hl50, hS51⟩
      refine ⟨_, rfl, trivial, ?_⟩
      refine WO.vals [(15, 42, (.bool (!r52)))] (by kernel_rfl) (fun _ => by kernel_rfl) ?_
      refine WO.nil ?_
      refine En.next ?_
      refine W.cond (b := (!r52)) rfl rfl (fun hc => ?_) (fun hc => ?_)
      · replace hr2 := cond_t hc hr2
        refine W.seq ?_
        refine W.region (l := [0]) (by kernel_rfl) ?_
        refine WO.vals [(0, 4, (.bool false))] (by kernel_rfl) (fun _ => by kernel_rfl) ?_
        refine WO.nil ?_
        refine En.next ?_
        refine W.ret ?_
        refine En.in_ret ?_
        refine En.nx_ret ?_
        refine En.rd_ret ?_
        have ht := hext19 _ (Option.some.inj hr2).symm
        subst t19
        refine En.in_ret ?_
        refine En.in_ret ?_
        refine En.nx_ret ?_
        refine En.rd_ret ?_
        have ht := hext9 _ (Option.some.inj hr1).symm
        subst t9
        refine En.in_ret ?_
        refine En.nx_ret ?_
        have he := Option.some.inj hr
        subst r
        exact En.ret1 rfl (.bool false) rfl ⟨I49, rfl, (((((hl6.trans hl11).trans hl21).trans hl35).trans hl44).trans hl50), hS51⟩
      · replace hr2 := cond_f hc hr2
        refine W.skip ?_
        refine En.in_normal ?_
        refine En.next ?_
        refine W.region (l := [0, 1, 2]) (by kernel_rfl) ?_
        refine WO.vals [(0, 25, (.int .i64 s22)), (1, 26, (.int .i64 (w64 (s22 + 1)))), (2, 7, (.int .i64 (w64 (s22 + 1))))] (by kernel_rfl) (fun _ => by kernel_rfl) ?_
        refine WO.nil ?_
        refine En.weaken (fr' := [(0, (.pointer (some ⟨b_p0, 0, none⟩))), (1, (.string p1)), (5, (.slice a_r8 r8.length c_r8)), (6, (.int .i64 (i12 : Int))), (7, (.int .i64 (w64 (s22 + 1))))]) (En.round ⟨(w64 (s22 + 1)), (Option.some.inj hr2).symm, I49, rfl, (((hl21.trans hl35).trans hl44).trans hl50), hS51⟩) (Sub.cons rfl (Sub.cons rfl (Sub.cons rfl (Sub.cons rfl (Sub.cons rfl Sub.nil)))))
    · replace hr2 := cond_f hc hr2
      refine W.exit ?_
      refine En.nx_exit ?_
      refine En.rd_exit ?_
      have ht := hext19 _ (Option.some.inj hr2).symm
      subst t19
      refine En.in_hit ?_
      refine En.in_normal ?_
      refine En.next ?_
      refine W.region (l := [0, 1, 2]) (by kernel_rfl) ?_
      refine WO.vals [(0, 20, (.int .i64 (i12 : Int)))] (by kernel_rfl) (fun _ => by kernel_rfl) ?_
      refine WO.incr (j := i12) rfl (by kernel_rfl) rfl (by omega) ?_
      refine WO.vals [(2, 6, (.int .i64 ((i12 + 1 : Nat) : Int)))] (by kernel_rfl) (fun _ => by kernel_rfl) ?_
      refine WO.nil ?_
      refine En.weaken (fr' := [(0, (.pointer (some ⟨b_p0, 0, none⟩))), (1, (.string p1)), (5, (.slice a_r8 r8.length c_r8)), (6, (.int .i64 ((i12 + 1 : Nat) : Int)))]) (En.round ⟨(), (Option.some.inj hr1).symm, I20, rfl, (hl11.trans hl21), hS25⟩) (Sub.cons rfl (Sub.cons rfl (Sub.cons rfl (Sub.cons rfl Sub.nil))))
  case lastt9 =>
    rintro _ _ w58 ⟨I10, rfl, hl11, hS59⟩ he
    cases he
    refine W.seq ?_
    refine W.seq ?_
    refine W.region (l := [0, 1, 2, 3]) (by kernel_rfl) ?_
    refine WO.vals [(0, 16, (.int .i64 (r8.length : Int))), (1, 17, (.slice a_r8 r8.length c_r8)), (2, 18, (.int .i64 (r8.length : Int))), (3, 19, (.bool (decide ((r8.length : Int) < (r8.length : Int)))))] (by kernel_rfl) (fun _ => by kernel_rfl) ?_
    refine WO.nil ?_
    refine En.next ?_
    refine W.cond (b := (decide ((r8.length : Int) < (r8.length : Int)))) rfl rfl (fun hc => ?_) (fun hc => ?_)
    · exact absurd hc (by first | (simp; done) | (simp; omega))
    clear hc
    refine W.exit ?_
    refine En.nx_exit ?_
    refine En.rd_exit ?_
    refine En.in_hit ?_
    refine En.next ?_
    refine W.seq ?_
    refine W.region (l := [0, 1, 2, 3]) (by kernel_rfl) ?_
    refine WO.vals [(0, 43, (.pointer (some ⟨b_p0, 0, none⟩))), (1, 44, (.string p1))] (by kernel_rfl) (fun _ => by kernel_rfl) ?_
    have hS60 := hS59.front1
    have hS61 := hS60.front1
    obtain ⟨r67, hx_r62, hr⟩ := bind_some hr
    refine WO.call rfl (by kernel_rfl) rfl (f := 12) (args := #[(.pointer (some ⟨b_p0, 0, none⟩)), (.string p1)]) (by kernel_rfl) (mdl_Locks_Waiters_ok (h_p0.mono (hl6.trans hl11)) hS61 hx_r62) ?_
    rintro _ w63 ⟨I64, a_r67, c_r67, rfl, hl65, hS66, h_r67⟩
    refine ⟨_, rfl, trivial, ?_⟩
    refine WO.vals [(3, 8, (.slice a_r67 r67.length c_r67))] (by kernel_rfl) (fun _ => by kernel_rfl) ?_
    refine WO.nil ?_
    refine En.next ?_
    refine W.seq ?_
    refine W.seq ?_
    refine W.region (l := [0, 1, 2]) (by kernel_rfl) ?_
    refine WO.vals [(0, 46, (.slice a_r67 r67.length c_r67)), (1, 47, (.int .i64 (r67.length : Int))), (2, 48, (.bool ((r67.length : Int) == 0)))] (by kernel_rfl) (fun _ => by kernel_rfl) ?_
    refine WO.nil ?_
    refine En.next ?_
    refine W.cond (b := ((r67.length : Int) == 0)) rfl rfl (fun hc => ?_) (fun hc => ?_)
    · replace hr := cond_t hc hr
      refine W.seq ?_
      refine W.region (l := [0, 1, 2, 3]) (by kernel_rfl) ?_
      refine WO.vals [(0, 49, (.slice a_r8 r8.length c_r8)), (1, 50, (.int .i64 (r8.length : Int))), (2, 51, (.bool (decide ((r8.length : Int) > 0)))), (3, 4, (.bool (decide ((r8.length : Int) > 0))))] (by kernel_rfl) (fun _ => by kernel_rfl) ?_
      refine WO.nil ?_
      refine En.next ?_
      refine W.ret ?_
      refine En.nx_ret ?_
      have he := Option.some.inj hr
      subst r
      exact En.ret1 rfl (.bool (decide ((r8.length : Int) > 0))) rfl ⟨I64, rfl, ((hl6.trans hl11).trans hl65), hS66⟩
    · replace hr := cond_f hc hr
      refine W.skip ?_
      refine En.next ?_
      refine W.seq ?_
      refine W.region (l := [0, 1, 2, 3, 4, 5, 6, 7, 8, 9, 10]) (by kernel_rfl) ?_
      refine WO.vals [(0, 53, (.pointer (some ⟨b_p0, 0, none⟩))), (1, 54, (.slice a_r67 r67.length c_r67))] (by kernel_rfl) (fun _ => by kernel_rfl) ?_
      obtain ⟨x68, hx_x68, hr⟩ := bind_some hr
      obtain ⟨h0_x68, h1_x68, hx_x68⟩ := idx_some hx_x68
      obtain ⟨ha_x68, cs_x68, hn_x68, hr_x68, hc_x68⟩ := (h_r67).el _ _ hx_x68
      obtain rfl := hr_x68
      refine WO.indexAddr (e := 3) (sz := 1) rfl (by kernel_rfl) (by kernel_rfl) (by kernel_rfl) rfl ha_x68 rfl h0_x68 h1_x68 ?_
      refine WO.load rfl (by kernel_rfl) (by kernel_rfl) rfl (v := (.int .i64 x68)) (fun w' hw' => hc_x68.cell0 (by kernel_rfl) ((rd_f hS66.im) w' hw')) ?_
      have hS69 := hS66.front1
      have hS70 := hS69.front1
      obtain ⟨⟨r76, r77⟩, hx_r71, hr⟩ := bind_some hr
      refine WO.call rfl (by kernel_rfl) rfl (f := 20) (args := #[(.pointer (some ⟨b_p0, 0, none⟩)), (.int .i64 x68)]) (by kernel_rfl) (mdl_Locks_Waits_ok (h_p0.mono ((hl6.trans hl11).trans hl65)) hS70 hx_r71) ?_
      rintro _ w72 ⟨I73, rfl, hl74, hS75⟩
      refine ⟨_, rfl, trivial, ?_⟩
      refine WO.vals [(5, 52, (.tuple #[(.agg (cs_api_Need r76).toArray), (.bool r77)])), (6, 58, (.agg (cs_api_Need r76).toArray)), (7, 59, (.bool r77))] (by kernel_rfl) (fun _ => by kernel_rfl) ?_
      refine WO.new hS75 rfl (by kernel_rfl) rfl (.cells (cs_api_Need z_api_Need).toArray 43 (0, 0)) (fun b => .pointer (some ⟨b, 0, none⟩)) (by kernel_rfl) (fun _ _ _ => trivial) ?_
      intro b78 w81 hS80
      refine WO.storeBox hS80 rfl (by kernel_rfl) rfl 0 rfl rfl (by kernel_rfl) (by kernel_rfl) (by kernel_rfl) ((cs_api_Need r76).toArray) (by kernel_rfl) (fun _ _ => trivial) ?_
      intro w83 hS82
      refine WO.vals [(10, 10, (.bool r77))] (by kernel_rfl) (fun _ => by kernel_rfl) ?_
      refine WO.nil ?_
      refine En.next ?_
      refine W.seq ?_
      refine W.region (l := [0]) (by kernel_rfl) ?_
      refine WO.vals [(0, 11, (.bool false))] (by kernel_rfl) (fun _ => by kernel_rfl) ?_
      refine WO.nil ?_
      refine En.next ?_
      refine W.seq ?_
      refine W.seq ?_
      refine W.region (l := [0]) (by kernel_rfl) ?_
      refine WO.vals [(0, 12, (.int .i64 0))] (by kernel_rfl) (fun _ => by kernel_rfl) ?_
      refine WO.nil ?_
      refine En.next ?_
      refine W.block ?_
      obtain ⟨s87, hloop89, hr⟩ := bind_some hr
      have hS90 := hS82.front2
      have hS91 := hS90.front2
      have hlt95 := ((RSl.mono h_r8 ((hl11.trans hl65).trans hl74))).len_lt
      refine W.weaken (fr' := [(0, (.pointer (some ⟨b_p0, 0, none⟩))), (1, (.string p1)), (5, (.slice a_r8 r8.length c_r8)), (9, (.pointer (some ⟨b78, 0, none⟩))), (10, (.bool r77)), (11, (.bool false)), (12, (.int .i64 ((0 : Nat) : Int)))]) (W.forE (m := r8.length) hloop89 (fun (i88 : Nat) => fun (s87 : Bool) fr w => ∃ (I85 : Mem), fr = [(0, (.pointer (some ⟨b_p0, 0, none⟩))), (1, (.string p1)), (5, (.slice a_r8 r8.length c_r8)), (9, (.pointer (some ⟨b78, 0, none⟩))), (10, (.bool r77)), (11, (.bool s87)), (12, (.int .i64 (i88 : Int)))] ∧ I73.Le I85 ∧ St E w I85 ((Gv.one b_p0 (.cells (cs_mdl_Locks p0 w_p0).toArray 56 (0, 0))) :: (w_p0.at_.C) :: (Gv.one b78 (.cells (cs_api_Need r76).toArray 43 (0, 0))) :: Os)) ⟨I73, rfl, Mem.Le.refl _, hS91⟩ ?roundt84 ?lastt84) (Sub.cons rfl (Sub.cons rfl (Sub.cons rfl (Sub.cons rfl (Sub.cons rfl (Sub.cons rfl (Sub.cons rfl Sub.nil)))))))
      case roundt84 =>
        rintro i88 s87 _ w92 hi96 ⟨I85, rfl, hl86, hS93⟩ x94 hr1
        refine W.seq ?_
        refine W.seq ?_
        refine W.region (l := [0, 1, 2, 3]) (by kernel_rfl) ?_
        refine WO.vals [(0, 60, (.int .i64 (i88 : Int))), (1, 61, (.slice a_r8 r8.length c_r8)), (2, 62, (.int .i64 (r8.length : Int))), (3, 63, (.bool (decide ((i88 : Int) < (r8.length : Int)))))] (by kernel_rfl) (fun _ => by kernel_rfl) ?_
        refine WO.nil ?_
        refine En.next ?_
        refine W.cond (b := (decide ((i88 : Int) < (r8.length : Int)))) rfl rfl (fun hc => ?_) (fun hc => ?_)
        rotate_left
        · exact absurd hc (by first | (simp; done) | (simp; omega))
        clear hc
        refine W.skip ?_
        refine En.next ?_
        refine W.seq ?_
        refine W.block ?_
        have hS97 := hS93.drew
        refine W.draw (l := [0, 1, 2, 3, 4, 5, 6, 7, 8, 9, 10, 11, 12, 13, 14]) (by kernel_rfl) 14 (KR I85 [Gv.one b78 (.cells (cs_api_Need r76).toArray 43 (0, 0))]) qR (.back (by kernel_rfl)) (by kernel_rfl) (KR.cons (hS97.rd (List.Mem.tail _ (List.Mem.tail _ (List.Mem.head _)))) (KR.nil hS97.im)) ?_
        generalize World.drew _ = w98 at *
        refine WO.vals [(0, 66, (.bool s87)), (1, 67, (.bool s87))] (by kernel_rfl) (fun _ => by kernel_rfl) ?_
        obtain ⟨j99, hr2, hr1⟩ := bind_some hr1
        refine WO.join (l1 := [2, 3, 4, 5, 6, 7, 8, 9, 10, 11, 12, 13]) (l2 := [14]) (J := (fun fr w => ∃ (I101 : Mem), fr = [(0, (.pointer (some ⟨b_p0, 0, none⟩))), (1, (.string p1)), (5, (.slice a_r8 r8.length c_r8)), (9, (.pointer (some ⟨b78, 0, none⟩))), (10, (.bool r77)), (12, (.int .i64 (i88 : Int))), (79, (.bool j99))] ∧ I85.Le I101 ∧ St E w I101 ((Gv.one b_p0 (.cells (cs_mdl_Locks p0 w_p0).toArray 56 (0, 0))) :: (w_p0.at_.C) :: (Gv.one b78 (.cells (cs_api_Need r76).toArray 43 (0, 0))) :: Os))) ?restj99 ?waysj99
        case waysj99 =>
          refine WO.caseb s87 (fun hc => ?_) (fun hc => ?_)
          · replace hr2 := cond_t hc hr2
            refine WO.reslot 67 rfl (show Value.bool s87 = Value.bool true by rw [hc]) ?_
            refine WO.pass rfl (by kernel_rfl) rfl ?_
            refine WO.pass rfl (by kernel_rfl) rfl ?_
            refine WO.pass rfl (by kernel_rfl) rfl ?_
            refine WO.pass rfl (by kernel_rfl) rfl ?_
            refine WO.pass rfl (by kernel_rfl) rfl ?_
            refine WO.pass rfl (by kernel_rfl) rfl ?_
            refine WO.pass rfl (by kernel_rfl) rfl ?_
            refine WO.pass rfl (by kernel_rfl) rfl ?_
            refine WO.pass rfl (by kernel_rfl) rfl ?_
            refine WO.pass rfl (by kernel_rfl) rfl ?_
            refine WO.pass rfl (by kernel_rfl) rfl ?_
            refine WO.vals [(13, 79, (.bool true))] (by kernel_rfl) (fun _ => by kernel_rfl) ?_
            have he := Option.some.inj hr2
            subst j99
            refine WO.weaken (fr' := [(0, (.pointer (some ⟨b_p0, 0, none⟩))), (1, (.string p1)), (5, (.slice a_r8 r8.length c_r8)), (9, (.pointer (some ⟨b78, 0, none⟩))), (10, (.bool r77)), (12, (.int .i64 (i88 : Int))), (79, (.bool true))]) (WO.meet ⟨I85, rfl, Mem.Le.refl _, hS97⟩) (Sub.cons rfl (Sub.cons rfl (Sub.cons rfl (Sub.cons rfl (Sub.cons rfl (Sub.cons rfl (Sub.cons rfl Sub.nil)))))))
          · replace hr2 := cond_f hc hr2
            refine WO.reslot 67 rfl (show Value.bool s87 = Value.bool false by rw [hc]) ?_
            refine WO.vals [(2, 68, (.pointer (some ⟨b_p0, 0, none⟩))), (3, 69, (.slice a_r8 r8.length c_r8)), (4, 70, (.int .i64 (i88 : Int)))] (by kernel_rfl) (fun _ => by kernel_rfl) ?_
            obtain ⟨x103, hx_x103, hr2⟩ := bind_some hr2
            obtain ⟨h0_x103, h1_x103, hx_x103⟩ := idx_some hx_x103
            obtain ⟨ha_x103, cs_x103, hn_x103, hr_x103, hc_x103⟩ := ((RSl.mono h_r8 (((hl11.trans hl65).trans hl74).trans hl86))).el _ _ hx_x103
            obtain rfl := hr_x103
            refine WO.indexAddr (e := 3) (sz := 1) rfl (by kernel_rfl) (by kernel_rfl) (by kernel_rfl) rfl ha_x103 rfl h0_x103 h1_x103 ?_
            refine WO.load rfl (by kernel_rfl) (by kernel_rfl) rfl (v := (.int .i64 x103)) (fun w' hw' => hc_x103.cell0 (by kernel_rfl) ((rd_i hS97.im) w' hw')) ?_
            refine WO.vals [(7, 73, (.string p1))] (by kernel_rfl) (fun _ => by kernel_rfl) ?_
            have hS104 := hS97.front1
            have hS105 := hS104.front1
            obtain ⟨r111, hx_r106, hr2⟩ := bind_some hr2
            refine WO.call rfl (by kernel_rfl) rfl (f := 31) (args := #[(.pointer (some ⟨b_p0, 0, none⟩)), (.int .i64 x103), (.string p1)]) (by kernel_rfl) (registrarlaw21_mode_ok (h_p0.mono ((((hl6.trans hl11).trans hl65).trans hl74).trans hl86)) hS105 hx_r106) ?_
            rintro _ w107 ⟨I108, rfl, hl109, hS110⟩
            refine ⟨_, rfl, (KR.cons (hS110.rd (List.Mem.tail _ (List.Mem.tail _ (List.Mem.head _)))) (KR.nil (hS110.im.of_le hl109))), ?_⟩
            refine WO.vals [(9, 75, (.pointer (some ⟨b78, 1, none⟩)))] (by kernel_rfl) (fun _ => by kernel_rfl) ?_
            refine WO.load rfl (by kernel_rfl) (by kernel_rfl) rfl (v := (.int .i64 r76.Mode)) (fun w' hw' => cell_one ((rd_c (List.Mem.head _) (hS110.rd (List.Mem.tail _ (List.Mem.tail _ (List.Mem.head _))))) w' hw') (by kernel_rfl)) ?_
            obtain ⟨r117, hx_r112, hr2⟩ := bind_some hr2
            refine WO.call rfl (by kernel_rfl) rfl (f := 15) (args := #[(.int .i64 r111), (.int .i64 r76.Mode)]) (by kernel_rfl) (mdl_Goes_ok  hS110 hx_r112) ?_
            rintro _ w113 ⟨I114, rfl, hl115, hS116⟩
            refine ⟨_, rfl, (KR.cons (hS116.rd (List.Mem.tail _ (List.Mem.tail _ (List.Mem.head _)))) (KR.nil (hS116.im.of_le (hl109.trans hl115)))), ?_⟩
            refine WO.vals [(12, 78, (.bool (!r117))), (13, 79, (.bool (!r117)))] (by kernel_rfl) (fun _ => by kernel_rfl) ?_
            have he := Option.some.inj hr2
            subst j99
            refine WO.weaken (fr' := [(0, (.pointer (some ⟨b_p0, 0, none⟩))), (1, (.string p1)), (5, (.slice a_r8 r8.length c_r8)), (9, (.pointer (some ⟨b78, 0, none⟩))), (10, (.bool r77)), (12, (.int .i64 (i88 : Int))), (79, (.bool (!r117)))]) (WO.meet ⟨I114, rfl, (hl109.trans hl115), hS116⟩) (Sub.cons rfl (Sub.cons rfl (Sub.cons rfl (Sub.cons rfl (Sub.cons rfl (Sub.cons rfl (Sub.cons rfl Sub.nil)))))))
        case restj99 =>
          rintro _ w118 ⟨I101, rfl, hl102, hS119⟩
          refine WO.tail rfl ?_
          refine WO.vals [(14, 11, (.bool j99))] (by kernel_rfl) (fun _ => by kernel_rfl) ?_
          refine WO.nil ?_
          refine En.in_normal ?_
          refine En.next ?_
          refine W.region (l := [0, 1, 2]) (by kernel_rfl) ?_
          refine WO.vals [(0, 64, (.int .i64 (i88 : Int)))] (by kernel_rfl) (fun _ => by kernel_rfl) ?_
          refine WO.incr (j := i88) rfl (by kernel_rfl) rfl (by omega) ?_
          refine WO.vals [(2, 12, (.int .i64 ((i88 + 1 : Nat) : Int)))] (by kernel_rfl) (fun _ => by kernel_rfl) ?_
          refine WO.nil ?_
          have he := Option.some.inj hr1
          subst x94
          refine En.weaken (fr' := [(0, (.pointer (some ⟨b_p0, 0, none⟩))), (1, (.string p1)), (5, (.slice a_r8 r8.length c_r8)), (9, (.pointer (some ⟨b78, 0, none⟩))), (10, (.bool r77)), (11, (.bool j99)), (12, (.int .i64 ((i88 + 1 : Nat) : Int)))]) (En.round ⟨I101, rfl, (hl86.trans hl102), hS119⟩) (Sub.cons rfl (Sub.cons rfl (Sub.cons rfl (Sub.cons rfl (Sub.cons rfl (Sub.cons rfl (Sub.cons rfl Sub.nil)))))))
      case lastt84 =>
        rintro _ w120 ⟨I85, rfl, hl86, hS121⟩
        refine W.seq ?_
        refine W.seq ?_
        refine W.region (l := [0, 1, 2, 3]) (by kernel_rfl) ?_
        refine WO.vals [(0, 60, (.int .i64 (r8.length : Int))), (1, 61, (.slice a_r8 r8.length c_r8)), (2, 62, (.int .i64 (r8.length : Int))), (3, 63, (.bool (decide ((r8.length : Int) < (r8.length : Int)))))] (by kernel_rfl) (fun _ => by kernel_rfl) ?_
        refine WO.nil ?_
        refine En.next ?_
        refine W.cond (b := (decide ((r8.length : Int) < (r8.length : Int)))) rfl rfl (fun hc => ?_) (fun hc => ?_)
        · exact absurd hc (by first | (simp; done) | (simp; omega))
        clear hc
        refine W.exit ?_
        refine En.nx_exit ?_
        refine En.rd_exit ?_
        refine En.in_hit ?_
        refine En.next ?_
        refine W.seq ?_
        refine W.region (l := [0, 1, 2, 3, 4, 5, 6, 7, 8, 9, 10]) (by kernel_rfl) ?_
        refine WO.vals [(0, 80, (.bool r77)), (1, 81, (.bool r77))] (by kernel_rfl) (fun _ => by kernel_rfl) ?_
        refine WO.join (l1 := [2, 3, 4, 5, 6]) (l2 := [7, 8, 9, 10]) (J := fun frx wx => frx = [(86, (.bool (r77 && (sEq r76.Path p1)))), (11, (.bool s87))] ∧ w120 = wx) ?restm122 ?waysm122
        case waysm122 =>
          refine WO.caseb r77 (fun hc => ?_) (fun hc => ?_)
          · skip
            refine WO.reslot 81 rfl (show Value.bool r77 = Value.bool true by rw [hc]) ?_
            refine WO.vals [(2, 82, (.pointer (some ⟨b78, 0, none⟩)))] (by kernel_rfl) (fun _ => by kernel_rfl) ?_
            refine WO.load rfl (by kernel_rfl) (by kernel_rfl) rfl (v := (.string r76.Path)) (fun w' hw' => cell_one ((rd_f (hS121.rd (List.Mem.tail _ (List.Mem.tail _ (List.Mem.head _))))) w' hw') (by kernel_rfl)) ?_
            refine WO.vals [(4, 84, (.string p1)), (5, 85, (.bool (sEq r76.Path p1))), (6, 86, (.bool (sEq r76.Path p1)))] (by kernel_rfl) (fun _ => by kernel_rfl) ?_
            refine WO.weaken (fr' := [(86, (.bool (r77 && (sEq r76.Path p1)))), (11, (.bool s87))]) (WO.meet ⟨rfl, rfl⟩) (Sub.cons (by rw [hc]; rfl) (Sub.cons rfl Sub.nil))
          · skip
            refine WO.reslot 81 rfl (show Value.bool r77 = Value.bool false by rw [hc]) ?_
            refine WO.pass rfl (by kernel_rfl) rfl ?_
            refine WO.pass rfl (by kernel_rfl) rfl ?_
            refine WO.pass rfl (by kernel_rfl) rfl ?_
            refine WO.pass rfl (by kernel_rfl) rfl ?_
            refine WO.vals [(6, 86, (.bool false))] (by kernel_rfl) (fun _ => by kernel_rfl) ?_
            refine WO.weaken (fr' := [(86, (.bool (r77 && (sEq r76.Path p1)))), (11, (.bool s87))]) (WO.meet ⟨rfl, rfl⟩) (Sub.cons (by rw [hc]; rfl) (Sub.cons rfl Sub.nil))
        case restm122 =>
          rintro _ _ ⟨rfl, rfl⟩
          refine WO.vals [(7, 87, (.bool (r77 && (sEq r76.Path p1))))] (by kernel_rfl) (fun _ => by kernel_rfl) ?_
          refine WO.join (l1 := [8, 9]) (l2 := [10]) (J := fun frx wx => frx = [(89, (.bool ((r77 && (sEq r76.Path p1)) && s87)))] ∧ w120 = wx) ?restm124 ?waysm124
          case waysm124 =>
            refine WO.caseb (r77 && (sEq r76.Path p1)) (fun hc => ?_) (fun hc => ?_)
            · skip
              refine WO.reslot 87 rfl (show Value.bool (r77 && (sEq r76.Path p1)) = Value.bool true by rw [hc]) ?_
              refine WO.vals [(8, 88, (.bool s87)), (9, 89, (.bool s87))] (by kernel_rfl) (fun _ => by kernel_rfl) ?_
              refine WO.weaken (fr' := [(89, (.bool ((r77 && (sEq r76.Path p1)) && s87)))]) (WO.meet ⟨rfl, rfl⟩) (Sub.cons (by rw [hc]; rfl) Sub.nil)
            · skip
              refine WO.reslot 87 rfl (show Value.bool (r77 && (sEq r76.Path p1)) = Value.bool false by rw [hc]) ?_
              refine WO.pass rfl (by kernel_rfl) rfl ?_
              refine WO.vals [(9, 89, (.bool false))] (by kernel_rfl) (fun _ => by kernel_rfl) ?_
              refine WO.weaken (fr' := [(89, (.bool ((r77 && (sEq r76.Path p1)) && s87)))]) (WO.meet ⟨rfl, rfl⟩) (Sub.cons (by rw [hc]; rfl) Sub.nil)
          case restm124 =>
            rintro _ _ ⟨rfl, rfl⟩
            refine WO.vals [(10, 4, (.bool ((r77 && (sEq r76.Path p1)) && s87)))] (by kernel_rfl) (fun _ => by kernel_rfl) ?_
            refine WO.nil ?_
            refine En.next ?_
            refine W.ret ?_
            have hS126 := hS121.front2
            have hS127 := hS126.drop
            have he := Option.some.inj hr
            subst r
            exact En.ret1 rfl (.bool ((r77 && (sEq r76.Path p1)) && s87)) rfl ⟨I85, rfl, ((((hl6.trans hl11).trans hl65).trans hl74).trans hl86), hS127⟩
noncomputable def registrarlaw21_MdlGoes (p0 : List registrarlaw21_Act) (p1 : Int) (p2 : Int) : Option Bool := (mdl_Goes p1 p2).bind (fun (r6 : Bool) => (registrarref21_Goes p1 p2).bind (fun (r12 : Bool) => ((bif (!(r6 == r12)) then some true else (mdl_Goes p1 p2).bind (fun (r22 : Bool) => (mdl_Goes p2 p1).bind (fun (r28 : Bool) => some (!(r22 == r28)))))).bind (fun (j13 : Bool) => (bif j13 then some false else (mdl_New).bind (fun (r36 : mdl_Locks) => (loopO (fun (s : Int × mdl_Locks) => match s with | (s40, s41) => (bif ((decide (s40 < (p0.length : Int))) && (decide (s40 < 60))) then (idx p0 s40).bind (fun (x48 : registrarlaw21_Act) => (registrarlaw21_long x48).bind (fun (r54 : Bool) => (bif r54 then (registrarlaw21_works).bind (fun (r60 : Bool) => some (.inr (.inl (r60, s41)))) else (idx p0 s40).bind (fun (x68 : registrarlaw21_Act) => (registrarlaw21_act s41 x68).bind (fun (r76 : mdl_Locks) => (mdl_Locks_Paths r76).bind (fun (r84 : List ByteArray) => (forN (fun (i88 : Nat) => fun (_s : Unit) => (idx r84 (i88 : Int)).bind (fun (x95 : ByteArray) => (registrarlaw21_together r76 x95).bind (fun (r103 : Bool) => (bif (!r103) then some (.inr false) else some (.inl ()))))) r84.length 0 ()).bind (fun (t : Unit ⊕ (Bool)) => match t with | .inl _ => some (.inl ((w64 (s40 + 1)), r76)) | .inr s105 => some (.inr (.inl (s105, r76)))))))))) else some (.inr (.inr s41)))) (0, r36)).bind (fun (t : (Bool × mdl_Locks) ⊕ mdl_Locks) => match t with | (.inl (s62, s63)) => some s62 | (.inr s113) => (registrarlaw21_works).bind (fun (r119 : Bool) => some r119)))))))
set_option maxHeartbeats 1000000 in
theorem registrarlaw21_MdlGoes_ok {E w : World} {I : Mem} {Os : List Mem} {p0 : List registrarlaw21_Act} {p1 : Int} {p2 : Int} {a_p0 : Option Addr} {c_p0 : Nat} (h_p0 : RSl 4 R_registrarlaw21_Act I a_p0 c_p0 p0) (hS : St E w I Os) {r : Bool} (hr : registrarlaw21_MdlGoes p0 p1 p2 = some r) :
    Calls P 4 #[(.slice a_p0 p0.length c_p0), (.int .i64 p1), (.int .i64 p2)] w (fun e w' => ∃ (I' : Mem), e = .returned (.bool r) ∧ I.Le I' ∧ St E w' I' Os) := by
  refine calls_W (args := [(.slice a_p0 p0.length c_p0), (.int .i64 p1), (.int .i64 p2)]) (fn := Try.f4) rfl rfl rfl ?_
  unfold registrarlaw21_MdlGoes at hr
  refine W.seq ?_
  refine W.region (l := [0]) (by kernel_rfl) ?_
  refine WO.vals [(0, 6, (.bool false))] (by kernel_rfl) (fun _ => by kernel_rfl) ?_
  refine WO.nil ?_
  refine En.next ?_
  refine W.seq ?_
  refine W.seq ?_
  refine W.region (l := [0, 1, 2, 3, 4, 5, 6, 7, 8, 9, 10, 11, 12, 13, 14, 15]) (by kernel_rfl) ?_
  refine WO.vals [(0, 11, (.int .i64 p1)), (1, 12, (.int .i64 p2))] (by kernel_rfl) (fun _ => by kernel_rfl) ?_
  obtain ⟨r6, hx_r1, hr⟩ := bind_some hr
  refine WO.call rfl (by kernel_rfl) rfl (f := 15) (args := #[(.int .i64 p1), (.int .i64 p2)]) (by kernel_rfl) (mdl_Goes_ok  hS hx_r1) ?_
  rintro _ w2 ⟨I3, rfl, hl4, hS5⟩
  refine ⟨_, rfl, trivial, ?_⟩
  refine WO.vals [(3, 14, (.int .i64 p1)), (4, 15, (.int .i64 p2))] (by kernel_rfl) (fun _ => by kernel_rfl) ?_
  obtain ⟨r12, hx_r7, hr⟩ := bind_some hr
  refine WO.call rfl (by kernel_rfl) rfl (f := 16) (args := #[(.int .i64 p1), (.int .i64 p2)]) (by kernel_rfl) (registrarref21_Goes_ok  hS5 hx_r7) ?_
  rintro _ w8 ⟨I9, rfl, hl10, hS11⟩
  refine ⟨_, rfl, trivial, ?_⟩
  refine WO.vals [(6, 17, (.bool (!(r6 == r12)))), (7, 18, (.bool (!(r6 == r12))))] (by kernel_rfl) (fun _ => by kernel_rfl) ?_
  obtain ⟨j13, hr1, hr⟩ := bind_some hr
  refine WO.join (l1 := [8, 9, 10, 11, 12, 13, 14, 15]) (l2 := []) (J := (fun fr w => ∃ (I15 : Mem), fr = [(0, (.slice a_p0 p0.length c_p0)), (26, (.bool j13))] ∧ I9.Le I15 ∧ St E w I15 Os)) ?restj13 ?waysj13
  case waysj13 =>
    refine WO.caseb (!(r6 == r12)) (fun hc => ?_) (fun hc => ?_)
    · replace hr1 := cond_t hc hr1
      refine WO.reslot 18 rfl (show Value.bool (!(r6 == r12)) = Value.bool true by rw [hc]) ?_
      refine WO.pass rfl (by kernel_rfl) rfl ?_
      refine WO.pass rfl (by kernel_rfl) rfl ?_
      refine WO.pass rfl (by kernel_rfl) rfl ?_
      refine WO.pass rfl (by kernel_rfl) rfl ?_
      refine WO.pass rfl (by kernel_rfl) rfl ?_
      refine WO.pass rfl (by kernel_rfl) rfl ?_
      refine WO.pass rfl (by kernel_rfl) rfl ?_
      refine WO.vals [(15, 26, (.bool true))] (by kernel_rfl) (fun _ => by kernel_rfl) ?_
      have he := Option.some.inj hr1
      subst j13
      refine WO.weaken (fr' := [(0, (.slice a_p0 p0.length c_p0)), (26, (.bool true))]) (WO.meet ⟨I9, rfl, Mem.Le.refl _, hS11⟩) (Sub.cons rfl (Sub.cons rfl Sub.nil))
    · replace hr1 := cond_f hc hr1
      refine WO.reslot 18 rfl (show Value.bool (!(r6 == r12)) = Value.bool false by rw [hc]) ?_
      refine WO.vals [(8, 19, (.int .i64 p1)), (9, 20, (.int .i64 p2))] (by kernel_rfl) (fun _ => by kernel_rfl) ?_
      obtain ⟨r22, hx_r17, hr1⟩ := bind_some hr1
      refine WO.call rfl (by kernel_rfl) rfl (f := 15) (args := #[(.int .i64 p1), (.int .i64 p2)]) (by kernel_rfl) (mdl_Goes_ok  hS11 hx_r17) ?_
      rintro _ w18 ⟨I19, rfl, hl20, hS21⟩
      refine ⟨_, rfl, trivial, ?_⟩
      refine WO.vals [(11, 22, (.int .i64 p2)), (12, 23, (.int .i64 p1))] (by kernel_rfl) (fun _ => by kernel_rfl) ?_
      obtain ⟨r28, hx_r23, hr1⟩ := bind_some hr1
      refine WO.call rfl (by kernel_rfl) rfl (f := 15) (args := #[(.int .i64 p2), (.int .i64 p1)]) (by kernel_rfl) (mdl_Goes_ok  hS21 hx_r23) ?_
      rintro _ w24 ⟨I25, rfl, hl26, hS27⟩
      refine ⟨_, rfl, trivial, ?_⟩
      refine WO.vals [(14, 25, (.bool (!(r22 == r28)))), (15, 26, (.bool (!(r22 == r28))))] (by kernel_rfl) (fun _ => by kernel_rfl) ?_
      have he := Option.some.inj hr1
      subst j13
      refine WO.weaken (fr' := [(0, (.slice a_p0 p0.length c_p0)), (26, (.bool (!(r22 == r28))))]) (WO.meet ⟨I25, rfl, (hl20.trans hl26), hS27⟩) (Sub.cons rfl (Sub.cons rfl Sub.nil))
  case restj13 =>
    rintro _ w29 ⟨I15, rfl, hl16, hS30⟩
    refine WO.nil ?_
    refine En.next ?_
    refine W.cond (b := j13) rfl rfl (fun hc => ?_) (fun hc => ?_)
    · replace hr := cond_t hc hr
      refine W.seq ?_
      refine W.region (l := [0]) (by kernel_rfl) ?_
      refine WO.vals [(0, 6, (.bool false))] (by kernel_rfl) (fun _ => by kernel_rfl) ?_
      refine WO.nil ?_
      refine En.next ?_
      refine W.ret ?_
      refine En.nx_ret ?_
      have he := Option.some.inj hr
      subst r
      exact En.ret1 rfl (.bool false) rfl ⟨I15, rfl, ((hl4.trans hl10).trans hl16), hS30⟩
    · replace hr := cond_f hc hr
      refine W.skip ?_
      refine En.next ?_
      refine W.seq ?_
      refine W.region (l := [0, 1]) (by kernel_rfl) ?_
      obtain ⟨r36, hx_r31, hr⟩ := bind_some hr
      refine WO.call rfl (by kernel_rfl) rfl (f := 8) (args := #[]) (by kernel_rfl) (mdl_New_ok  hS30 hx_r31) ?_
      rintro _ w32 ⟨I33, b_r36, w_r36, rfl, hl34, hS35, h_r36⟩
      refine ⟨_, rfl, trivial, ?_⟩
      refine WO.vals [(1, 7, (.pointer (some ⟨b_r36, 0, none⟩)))] (by kernel_rfl) (fun _ => by kernel_rfl) ?_
      refine WO.nil ?_
      refine En.next ?_
      refine W.seq ?_
      refine W.seq ?_
      refine W.region (l := [0]) (by kernel_rfl) ?_
      refine WO.vals [(0, 8, (.int .i64 0))] (by kernel_rfl) (fun _ => by kernel_rfl) ?_
      refine WO.nil ?_
      refine En.next ?_
      refine W.block ?_
      obtain ⟨t37, hloop42, hr⟩ := bind_some hr
      refine W.weaken (fr' := [(0, (.slice a_p0 p0.length c_p0)), (7, (.pointer (some ⟨b_r36, 0, none⟩))), (8, (.int .i64 0))]) (W.loopO hloop42 (fun (s : Int × mdl_Locks) fr w => match s with | (s40, s41) => ∃ (I38 : Mem), ∃ (w_s41 : W_mdl_Locks), fr = [(0, (.slice a_p0 p0.length c_p0)), (7, (.pointer (some ⟨b_r36, 0, none⟩))), (8, (.int .i64 s40))] ∧ I33.Le I38 ∧ St E w I38 ((Gv.one b_r36 (.cells (cs_mdl_Locks s41 w_s41).toArray 56 (0, 0))) :: (w_s41.at_.C) :: Os) ∧ ok_mdl_Locks I38 s41 w_s41) ⟨I33, w_r36, rfl, Mem.Le.refl _, hS35, h_r36⟩ ?_) (Sub.cons rfl (Sub.cons rfl (Sub.cons rfl Sub.nil)))
      rintro ⟨s40, s41⟩ _ w43 ⟨I38, w_s41, rfl, hl39, hS44, h_s41⟩ x45 hr1 hext37
      refine W.seq ?_
      refine W.seq ?_
      refine W.region (l := [0, 1, 2, 3, 4, 5, 6, 7]) (by kernel_rfl) ?_
      refine WO.vals [(0, 28, (.int .i64 s40)), (1, 29, (.slice a_p0 p0.length c_p0)), (2, 30, (.int .i64 (p0.length : Int))), (3, 31, (.bool (decide (s40 < (p0.length : Int))))), (4, 32, (.bool (decide (s40 < (p0.length : Int)))))] (by kernel_rfl) (fun _ => by kernel_rfl) ?_
      refine WO.join (l1 := [5, 6, 7]) (l2 := []) (J := fun frx wx => frx = [(35, (.bool ((decide (s40 < (p0.length : Int))) && (decide (s40 < 60))))), (0, (.slice a_p0 p0.length c_p0)), (7, (.pointer (some ⟨b_r36, 0, none⟩))), (8, (.int .i64 s40))] ∧ w43 = wx) ?restm46 ?waysm46
      case waysm46 =>
        refine WO.caseb (decide (s40 < (p0.length : Int))) (fun hc => ?_) (fun hc => ?_)
        · skip
          refine WO.reslot 32 rfl (show Value.bool (decide (s40 < (p0.length : Int))) = Value.bool true by rw [hc]) ?_
          refine WO.vals [(5, 33, (.int .i64 s40)), (6, 34, (.bool (decide (s40 < 60)))), (7, 35, (.bool (decide (s40 < 60))))] (by kernel_rfl) (fun _ => by kernel_rfl) ?_
          refine WO.weaken (fr' := [(35, (.bool ((decide (s40 < (p0.length : Int))) && (decide (s40 < 60))))), (0, (.slice a_p0 p0.length c_p0)), (7, (.pointer (some ⟨b_r36, 0, none⟩))), (8, (.int .i64 s40))]) (WO.meet ⟨rfl, rfl⟩) (Sub.cons (by rw [hc]; rfl) (Sub.cons rfl (Sub.cons rfl (Sub.cons rfl Sub.nil))))
        · skip
          refine WO.reslot 32 rfl (show Value.bool (decide (s40 < (p0.length : Int))) = Value.bool false by rw [hc]) ?_
          refine WO.pass rfl (by kernel_rfl) rfl ?_
          refine WO.pass rfl (by kernel_rfl) rfl ?_
          refine WO.vals [(7, 35, (.bool false))] (by kernel_rfl) (fun _ => by kernel_rfl) ?_
          refine WO.weaken (fr' := [(35, (.bool ((decide (s40 < (p0.length : Int))) && (decide (s40 < 60))))), (0, (.slice a_p0 p0.length c_p0)), (7, (.pointer (some ⟨b_r36, 0, none⟩))), (8, (.int .i64 s40))]) (WO.meet ⟨rfl, rfl⟩) (Sub.cons (by rw [hc]; rfl) (Sub.cons rfl (Sub.cons rfl (Sub.cons rfl Sub.nil))))
      case restm46 =>
        rintro _ _ ⟨rfl, rfl⟩
        refine WO.nil ?_
        refine En.next ?_
        refine W.cond (b := ((decide (s40 < (p0.length : Int))) && (decide (s40 < 60)))) rfl rfl (fun hc => ?_) (fun hc => ?_)
        · replace hr1 := cond_t hc hr1
          refine W.skip ?_
          refine En.next ?_
          refine W.seq ?_
          refine W.block ?_
          refine W.seq ?_
          refine W.seq ?_
          refine W.region (l := [0, 1, 2, 3, 4]) (by kernel_rfl) ?_
          refine WO.vals [(0, 38, (.slice a_p0 p0.length c_p0)), (1, 39, (.int .i64 s40))] (by kernel_rfl) (fun _ => by kernel_rfl) ?_
          obtain ⟨x48, hx_x48, hr1⟩ := bind_some hr1
          obtain ⟨h0_x48, h1_x48, hx_x48⟩ := idx_some hx_x48
          obtain ⟨ha_x48, cs_x48, hn_x48, hr_x48, hc_x48⟩ := ((RSl.mono h_p0 ((((hl4.trans hl10).trans hl16).trans hl34).trans hl39))).el _ _ hx_x48
          obtain rfl := hr_x48
          refine WO.indexAddr (e := 27) (sz := 4) rfl (by kernel_rfl) (by kernel_rfl) (by kernel_rfl) rfl ha_x48 rfl h0_x48 h1_x48 ?_
          refine WO.loadN rfl (by kernel_rfl) (by kernel_rfl) rfl ((cs_registrarlaw21_Act x48)) (by kernel_rfl) (fun w' hw' => hc_x48.cells (k := 0) (by kernel_rfl) rfl ((rd_f hS44.im) w' hw')) ?_
          obtain ⟨r54, hx_r49, hr1⟩ := bind_some hr1
          refine WO.call rfl (by kernel_rfl) rfl (f := 9) (args := #[(.agg (cs_registrarlaw21_Act x48).toArray)]) (by kernel_rfl) (registrarlaw21_long_ok  hS44 hx_r49) ?_
          rintro _ w50 ⟨I51, rfl, hl52, hS53⟩
          refine ⟨_, rfl, trivial, ?_⟩
          refine WO.nil ?_
          refine En.next ?_
          refine W.cond (b := r54) rfl rfl (fun hc => ?_) (fun hc => ?_)
          · replace hr1 := cond_t hc hr1
            refine W.seq ?_
            refine W.region (l := [0, 1]) (by kernel_rfl) ?_
            obtain ⟨r60, hx_r55, hr1⟩ := bind_some hr1
            refine WO.call rfl (by kernel_rfl) rfl (f := 10) (args := #[]) (by kernel_rfl) (registrarlaw21_works_ok  hS53 hx_r55) ?_
            rintro _ w56 ⟨I57, rfl, hl58, hS59⟩
            refine ⟨_, rfl, trivial, ?_⟩
            refine WO.vals [(1, 6, (.bool r60))] (by kernel_rfl) (fun _ => by kernel_rfl) ?_
            refine WO.nil ?_
            refine En.next ?_
            refine W.ret ?_
            refine En.nx_ret ?_
            refine En.in_ret ?_
            refine En.nx_ret ?_
            refine En.rd_ret ?_
            have ht := hext37 _ (Option.some.inj hr1).symm
            subst t37
            refine En.in_ret ?_
            refine En.nx_ret ?_
            have hS66 := hS59.drop
            have hS67 := hS66.drop
            have he := Option.some.inj hr
            subst r
            exact En.ret1 rfl (.bool r60) rfl ⟨I57, rfl, ((((((hl4.trans hl10).trans hl16).trans hl34).trans hl39).trans hl52).trans hl58), hS67⟩
          · replace hr1 := cond_f hc hr1
            refine W.skip ?_
            refine En.next ?_
            refine W.seq ?_
            refine W.region (l := [0, 1, 2, 3, 4, 5]) (by kernel_rfl) ?_
            refine WO.vals [(0, 44, (.pointer (some ⟨b_r36, 0, none⟩))), (1, 45, (.slice a_p0 p0.length c_p0)), (2, 46, (.int .i64 s40))] (by kernel_rfl) (fun _ => by kernel_rfl) ?_
            obtain ⟨x68, hx_x68, hr1⟩ := bind_some hr1
            obtain ⟨h0_x68, h1_x68, hx_x68⟩ := idx_some hx_x68
            obtain ⟨ha_x68, cs_x68, hn_x68, hr_x68, hc_x68⟩ := ((RSl.mono h_p0 (((((hl4.trans hl10).trans hl16).trans hl34).trans hl39).trans hl52))).el _ _ hx_x68
            obtain rfl := hr_x68
            refine WO.indexAddr (e := 27) (sz := 4) rfl (by kernel_rfl) (by kernel_rfl) (by kernel_rfl) rfl ha_x68 rfl h0_x68 h1_x68 ?_
            refine WO.loadN rfl (by kernel_rfl) (by kernel_rfl) rfl ((cs_registrarlaw21_Act x68)) (by kernel_rfl) (fun w' hw' => hc_x68.cells (k := 0) (by kernel_rfl) rfl ((rd_f hS53.im) w' hw')) ?_
            have hS69 := hS53.front1
            have hS70 := hS69.front1
            obtain ⟨r76, hx_r71, hr1⟩ := bind_some hr1
            refine WO.call rfl (by kernel_rfl) rfl (f := 13) (args := #[(.pointer (some ⟨b_r36, 0, none⟩)), (.agg (cs_registrarlaw21_Act x68).toArray)]) (by kernel_rfl) (registrarlaw21_act_ok (h_s41.mono hl52) hS70 hx_r71) ?_
            rintro _ w72 ⟨I73, w_r76, rfl, hl74, hS75, h_r76⟩
            refine ⟨_, rfl, trivial, ?_⟩
            refine WO.nil ?_
            refine En.next ?_
            refine W.seq ?_
            refine W.region (l := [0, 1, 2]) (by kernel_rfl) ?_
            refine WO.vals [(0, 50, (.pointer (some ⟨b_r36, 0, none⟩)))] (by kernel_rfl) (fun _ => by kernel_rfl) ?_
            have hS77 := hS75.front1
            have hS78 := hS77.front1
            obtain ⟨r84, hx_r79, hr1⟩ := bind_some hr1
            refine WO.call rfl (by kernel_rfl) rfl (f := 11) (args := #[(.pointer (some ⟨b_r36, 0, none⟩))]) (by kernel_rfl) (mdl_Locks_Paths_ok h_r76 hS78 hx_r79) ?_
            rintro _ w80 ⟨I81, a_r84, c_r84, rfl, hl82, hS83, h_r84⟩
            refine ⟨_, rfl, trivial, ?_⟩
            refine WO.vals [(2, 9, (.slice a_r84 r84.length c_r84))] (by kernel_rfl) (fun _ => by kernel_rfl) ?_
            refine WO.nil ?_
            refine En.next ?_
            refine W.seq ?_
            refine W.region (l := [0]) (by kernel_rfl) ?_
            refine WO.vals [(0, 10, (.int .i64 0))] (by kernel_rfl) (fun _ => by kernel_rfl) ?_
            refine WO.nil ?_
            refine En.next ?_
            refine W.block ?_
            obtain ⟨t85, hloop89, hr1⟩ := bind_some hr1
            have hlt93 := (h_r84).len_lt
            refine W.weaken (fr' := [(0, (.slice a_p0 p0.length c_p0)), (7, (.pointer (some ⟨b_r36, 0, none⟩))), (8, (.int .i64 s40)), (9, (.slice a_r84 r84.length c_r84)), (10, (.int .i64 ((0 : Nat) : Int)))]) (W.forN (m := r84.length) hloop89 (fun (i88 : Nat) => fun (_s : Unit) fr w => ∃ (I86 : Mem), fr = [(0, (.slice a_p0 p0.length c_p0)), (7, (.pointer (some ⟨b_r36, 0, none⟩))), (8, (.int .i64 s40)), (9, (.slice a_r84 r84.length c_r84)), (10, (.int .i64 (i88 : Int)))] ∧ I81.Le I86 ∧ St E w I86 ((Gv.one b_r36 (.cells (cs_mdl_Locks r76 w_r76).toArray 56 (0, 0))) :: (w_r76.at_.C) :: Os)) ⟨I81, rfl, Mem.Le.refl _, hS83⟩ ?roundt85 ?lastt85) (Sub.cons rfl (Sub.cons rfl (Sub.cons rfl (Sub.cons rfl (Sub.cons rfl Sub.nil)))))
            case roundt85 =>
              rintro i88 _ _ w90 hi94 ⟨I86, rfl, hl87, hS91⟩ x92 hr2 hext85
              refine W.seq ?_
              refine W.seq ?_
              refine W.region (l := [0, 1, 2, 3]) (by kernel_rfl) ?_
              refine WO.vals [(0, 52, (.int .i64 (i88 : Int))), (1, 53, (.slice a_r84 r84.length c_r84)), (2, 54, (.int .i64 (r84.length : Int))), (3, 55, (.bool (decide ((i88 : Int) < (r84.length : Int)))))] (by kernel_rfl) (fun _ => by kernel_rfl) ?_
              refine WO.nil ?_
              refine En.next ?_
              refine W.cond (b := (decide ((i88 : Int) < (r84.length : Int)))) rfl rfl (fun hc => ?_) (fun hc => ?_)
              rotate_left
              · exact absurd hc (by first | (simp; done) | (simp; omega))
              clear hc
              refine W.skip ?_
              refine En.next ?_
              refine W.seq ?_
              refine W.block ?_
              refine W.seq ?_
              refine W.region (l := [0, 1, 2, 3, 4, 5, 6]) (by kernel_rfl) ?_
              refine WO.vals [(0, 58, (.pointer (some ⟨b_r36, 0, none⟩))), (1, 59, (.slice a_r84 r84.length c_r84)), (2, 60, (.int .i64 (i88 : Int)))] (by kernel_rfl) (fun _ => by kernel_rfl) ?_
              obtain ⟨x95, hx_x95, hr2⟩ := bind_some hr2
              obtain ⟨h0_x95, h1_x95, hx_x95⟩ := idx_some hx_x95
              obtain ⟨ha_x95, cs_x95, hn_x95, hr_x95, hc_x95⟩ := ((RSl.mono h_r84 hl87)).el _ _ hx_x95
              obtain rfl := hr_x95
              refine WO.indexAddr (e := 9) (sz := 1) rfl (by kernel_rfl) (by kernel_rfl) (by kernel_rfl) rfl ha_x95 rfl h0_x95 h1_x95 ?_
              refine WO.load rfl (by kernel_rfl) (by kernel_rfl) rfl (v := (.string x95)) (fun w' hw' => hc_x95.cell0 (by kernel_rfl) ((rd_f hS91.im) w' hw')) ?_
              have hS96 := hS91.front1
              have hS97 := hS96.front1
              obtain ⟨r103, hx_r98, hr2⟩ := bind_some hr2
              refine WO.call rfl (by kernel_rfl) rfl (f := 17) (args := #[(.pointer (some ⟨b_r36, 0, none⟩)), (.string x95)]) (by kernel_rfl) (registrarlaw21_together_ok (h_r76.mono (hl82.trans hl87)) hS97 hx_r98) ?_
              rintro _ w99 ⟨I100, rfl, hl101, hS102⟩
              refine ⟨_, rfl, trivial, ?_⟩
              refine WO.vals [(6, 64, (.bool (!r103)))] (by kernel_rfl) (fun _ => by kernel_rfl) ?_
              refine WO.nil ?_
              refine En.next ?_
              refine W.cond (b := (!r103)) rfl rfl (fun hc => ?_) (fun hc => ?_)
              · replace hr2 := cond_t hc hr2
                refine W.seq ?_
                refine W.region (l := [0]) (by kernel_rfl) ?_
                refine WO.vals [(0, 6, (.bool false))] (by kernel_rfl) (fun _ => by kernel_rfl) ?_
                refine WO.nil ?_
                refine En.next ?_
                refine W.ret ?_
                refine En.in_ret ?_
                refine En.nx_ret ?_
                refine En.rd_ret ?_
                have ht := hext85 _ (Option.some.inj hr2).symm
                subst t85
                refine En.in_ret ?_
                refine En.in_ret ?_
                refine En.nx_ret ?_
                refine En.rd_ret ?_
                have ht := hext37 _ (Option.some.inj hr1).symm
                subst t37
                refine En.in_ret ?_
                refine En.nx_ret ?_
                have hS108 := hS102.drop
                have hS109 := hS108.drop
                have he := Option.some.inj hr
                subst r
                exact En.ret1 rfl (.bool false) rfl ⟨I100, rfl, (((((((((hl4.trans hl10).trans hl16).trans hl34).trans hl39).trans hl52).trans hl74).trans hl82).trans hl87).trans hl101), hS109⟩
              · replace hr2 := cond_f hc hr2
                refine W.skip ?_
                refine En.in_normal ?_
                refine En.next ?_
                refine W.region (l := [0, 1, 2]) (by kernel_rfl) ?_
                refine WO.vals [(0, 56, (.int .i64 (i88 : Int)))] (by kernel_rfl) (fun _ => by kernel_rfl) ?_
                refine WO.incr (j := i88) rfl (by kernel_rfl) rfl (by omega) ?_
                refine WO.vals [(2, 10, (.int .i64 ((i88 + 1 : Nat) : Int)))] (by kernel_rfl) (fun _ => by kernel_rfl) ?_
                refine WO.nil ?_
                refine En.weaken (fr' := [(0, (.slice a_p0 p0.length c_p0)), (7, (.pointer (some ⟨b_r36, 0, none⟩))), (8, (.int .i64 s40)), (9, (.slice a_r84 r84.length c_r84)), (10, (.int .i64 ((i88 + 1 : Nat) : Int)))]) (En.round ⟨(), (Option.some.inj hr2).symm, I100, rfl, (hl87.trans hl101), hS102⟩) (Sub.cons rfl (Sub.cons rfl (Sub.cons rfl (Sub.cons rfl (Sub.cons rfl Sub.nil)))))
            case lastt85 =>
              rintro _ _ w110 ⟨I86, rfl, hl87, hS111⟩ he
              cases he
              refine W.seq ?_
              refine W.seq ?_
              refine W.region (l := [0, 1, 2, 3]) (by kernel_rfl) ?_
              refine WO.vals [(0, 52, (.int .i64 (r84.length : Int))), (1, 53, (.slice a_r84 r84.length c_r84)), (2, 54, (.int .i64 (r84.length : Int))), (3, 55, (.bool (decide ((r84.length : Int) < (r84.length : Int)))))] (by kernel_rfl) (fun _ => by kernel_rfl) ?_
              refine WO.nil ?_
              refine En.next ?_
              refine W.cond (b := (decide ((r84.length : Int) < (r84.length : Int)))) rfl rfl (fun hc => ?_) (fun hc => ?_)
              · exact absurd hc (by first | (simp; done) | (simp; omega))
              clear hc
              refine W.exit ?_
              refine En.nx_exit ?_
              refine En.rd_exit ?_
              refine En.in_hit ?_
              refine En.in_normal ?_
              refine En.next ?_
              refine W.region (l := [0, 1, 2]) (by kernel_rfl) ?_
              refine WO.vals [(0, 36, (.int .i64 s40)), (1, 37, (.int .i64 (w64 (s40 + 1)))), (2, 8, (.int .i64 (w64 (s40 + 1))))] (by kernel_rfl) (fun _ => by kernel_rfl) ?_
              refine WO.nil ?_
              refine En.weaken (fr' := [(0, (.slice a_p0 p0.length c_p0)), (7, (.pointer (some ⟨b_r36, 0, none⟩))), (8, (.int .i64 (w64 (s40 + 1))))]) (En.round ⟨((w64 (s40 + 1)), r76), (Option.some.inj hr1).symm, I86, w_r76, rfl, ((((hl39.trans hl52).trans hl74).trans hl82).trans hl87), hS111, (h_r76.mono (hl82.trans hl87))⟩) (Sub.cons rfl (Sub.cons rfl (Sub.cons rfl Sub.nil)))
        · replace hr1 := cond_f hc hr1
          refine W.exit ?_
          refine En.nx_exit ?_
          refine En.rd_exit ?_
          have ht := hext37 _ (Option.some.inj hr1).symm
          subst t37
          refine En.in_hit ?_
          refine En.next ?_
          refine W.seq ?_
          refine W.region (l := [0, 1]) (by kernel_rfl) ?_
          obtain ⟨r127, hx_r122, hr⟩ := bind_some hr
          refine WO.call rfl (by kernel_rfl) rfl (f := 10) (args := #[]) (by kernel_rfl) (registrarlaw21_works_ok  hS44 hx_r122) ?_
          rintro _ w123 ⟨I124, rfl, hl125, hS126⟩
          refine ⟨_, rfl, trivial, ?_⟩
          refine WO.vals [(1, 6, (.bool r127))] (by kernel_rfl) (fun _ => by kernel_rfl) ?_
          refine WO.nil ?_
          refine En.next ?_
          refine W.ret ?_
          have hS128 := hS126.drop
          have hS129 := hS128.drop
          have he := Option.some.inj hr
          subst r
          exact En.ret1 rfl (.bool r127) rfl ⟨I124, rfl, (((((hl4.trans hl10).trans hl16).trans hl34).trans hl39).trans hl125), hS129⟩
def slices_IndexFunc_int (p0 : List Int) (p1 : Int → Option Bool) : Option Int := (forN (fun (i4 : Nat) => fun (_s : Unit) => (idx p0 (i4 : Int)).bind (fun (x11 : Int) => (p1 x11).bind (fun (r17 : Bool) => (bif r17 then some (.inr (i4 : Int)) else some (.inl ()))))) p0.length 0 ()).bind (fun (t : Unit ⊕ (Int)) => match t with | .inl _ => some (-1) | .inr s19 => some s19)
set_option maxHeartbeats 1000000 in
theorem slices_IndexFunc_int_ok {E w : World} {I : Mem} {Os : List Mem} {p0 : List Int} {p1 : Int → Option Bool} {a_p0 : Option Addr} {c_p0 : Nat} {g_p1 : FuncId} {k_p1 : List Value} (h_p0 : RSl 1 (RInt .i64) I a_p0 c_p0 p0) (h_p1 : ∀ {F : List Mem} {I' : Mem} {w : World} {u0 : Int}, I.Le I' → St E w I' (F ++ Os) → ∀ {r : Bool}, p1 u0 = some r → Calls P g_p1 (([(.int .i64 u0)] : List Value) ++ k_p1).toArray w (fun e w' => ∃ (I'' : Mem), e = .returned (.bool r) ∧ I'.Le I'' ∧ St E w' I'' (F ++ Os))) (hcall_p1 : Callable P g_p1) (hS : St E w I Os) {r : Int} (hr : slices_IndexFunc_int p0 p1 = some r) :
    Calls P 62 #[(.slice a_p0 p0.length c_p0), (.func (.func g_p1) #[] k_p1.toArray)] w (fun e w' => ∃ (I' : Mem), e = .returned (.int .i64 r) ∧ I.Le I' ∧ St E w' I' Os) := by
  refine calls_W (args := [(.slice a_p0 p0.length c_p0), (.func (.func g_p1) #[] k_p1.toArray)]) (fn := Try.f62) rfl rfl rfl ?_
  unfold slices_IndexFunc_int at hr
  refine W.seq ?_
  refine W.region (l := [0]) (by kernel_rfl) ?_
  refine WO.vals [(0, 4, (.int .i64 0))] (by kernel_rfl) (fun _ => by kernel_rfl) ?_
  refine WO.nil ?_
  refine En.next ?_
  refine W.seq ?_
  refine W.seq ?_
  refine W.region (l := [0, 1, 2]) (by kernel_rfl) ?_
  refine WO.vals [(0, 6, (.slice a_p0 p0.length c_p0)), (1, 7, (.int .i64 (p0.length : Int))), (2, 8, (.int .i64 0))] (by kernel_rfl) (fun _ => by kernel_rfl) ?_
  refine WO.nil ?_
  refine En.next ?_
  refine W.block ?_
  obtain ⟨t1, hloop5, hr⟩ := bind_some hr
  have hlt9 := (h_p0).len_lt
  refine W.weaken (fr' := [(0, (.slice a_p0 p0.length c_p0)), (1, (.func (.func g_p1) #[] k_p1.toArray)), (7, (.int .i64 (p0.length : Int))), (8, (.int .i64 ((0 : Nat) : Int)))]) (W.forN (m := p0.length) hloop5 (fun (i4 : Nat) => fun (_s : Unit) fr w => ∃ (I2 : Mem), fr = [(0, (.slice a_p0 p0.length c_p0)), (1, (.func (.func g_p1) #[] k_p1.toArray)), (7, (.int .i64 (p0.length : Int))), (8, (.int .i64 (i4 : Int)))] ∧ I.Le I2 ∧ St E w I2 Os) ⟨I, rfl, Mem.Le.refl _, hS⟩ ?roundt1 ?lastt1) (Sub.cons rfl (Sub.cons rfl (Sub.cons rfl (Sub.cons rfl Sub.nil))))
  case roundt1 =>
    rintro i4 _ _ w6 hi10 ⟨I2, rfl, hl3, hS7⟩ x8 hr1 hext1
    refine W.seq ?_
    refine W.region (l := [0]) (by kernel_rfl) ?_
    refine WO.vals [(0, 9, (.bool (decide ((i4 : Int) < (p0.length : Int)))))] (by kernel_rfl) (fun _ => by kernel_rfl) ?_
    refine WO.nil ?_
    refine En.next ?_
    refine W.seq ?_
    refine W.cond (b := (decide ((i4 : Int) < (p0.length : Int)))) rfl rfl (fun hc => ?_) (fun hc => ?_)
    rotate_left
    · exact absurd hc (by first | (simp; done) | (simp; omega))
    clear hc
    refine W.skip ?_
    refine En.next ?_
    refine W.seq ?_
    refine W.block ?_
    refine W.seq ?_
    refine W.region (l := [0, 1]) (by kernel_rfl) ?_
    refine WO.vals [(0, 10, (.int .i64 (i4 : Int))), (1, 5, (.int .i64 (i4 : Int)))] (by kernel_rfl) (fun _ => by kernel_rfl) ?_
    refine WO.nil ?_
    refine En.next ?_
    refine W.seq ?_
    refine W.region (l := [0, 1, 2, 3, 4, 5]) (by kernel_rfl) ?_
    refine WO.vals [(0, 11, (.func (.func g_p1) #[] k_p1.toArray)), (1, 12, (.slice a_p0 p0.length c_p0)), (2, 13, (.int .i64 (i4 : Int)))] (by kernel_rfl) (fun _ => by kernel_rfl) ?_
    obtain ⟨x11, hx_x11, hr1⟩ := bind_some hr1
    obtain ⟨h0_x11, h1_x11, hx_x11⟩ := idx_some hx_x11
    obtain ⟨ha_x11, cs_x11, hn_x11, hr_x11, hc_x11⟩ := ((RSl.mono h_p0 hl3)).el _ _ hx_x11
    obtain rfl := hr_x11
    refine WO.indexAddr (e := 3) (sz := 1) rfl (by kernel_rfl) (by kernel_rfl) (by kernel_rfl) rfl ha_x11 rfl h0_x11 h1_x11 ?_
    refine WO.load rfl (by kernel_rfl) (by kernel_rfl) rfl (v := (.int .i64 x11)) (fun w' hw' => hc_x11.cell0 (by kernel_rfl) ((rd_f hS7.im) w' hw')) ?_
    obtain ⟨r17, hx_r12, hr1⟩ := bind_some hr1
    refine WO.callv rfl (by kernel_rfl) rfl (g := g_p1) (kk := k_p1) (args := [(.int .i64 x11)]) rfl (by kernel_rfl) hcall_p1 (h_p1 (F := []) hl3 hS7  hx_r12) ?_
    rintro _ w13 ⟨I14, rfl, hl15, hS16⟩
    refine ⟨_, rfl, trivial, ?_⟩
    refine WO.nil ?_
    refine En.next ?_
    refine W.cond (b := r17) rfl rfl (fun hc => ?_) (fun hc => ?_)
    · replace hr1 := cond_t hc hr1
      refine W.seq ?_
      refine W.region (l := [0, 1]) (by kernel_rfl) ?_
      refine WO.vals [(0, 17, (.int .i64 (i4 : Int))), (1, 4, (.int .i64 (i4 : Int)))] (by kernel_rfl) (fun _ => by kernel_rfl) ?_
      refine WO.nil ?_
      refine En.next ?_
      refine W.ret ?_
      refine En.in_ret ?_
      refine En.nx_ret ?_
      refine En.rd_ret ?_
      have ht := hext1 _ (Option.some.inj hr1).symm
      subst t1
      refine En.in_ret ?_
      refine En.nx_ret ?_
      have he := Option.some.inj hr
      subst r
      exact En.ret1 rfl (.int .i64 (i4 : Int)) rfl ⟨I14, rfl, (hl3.trans hl15), hS16⟩
    · replace hr1 := cond_f hc hr1
      refine W.skip ?_
      refine En.in_normal ?_
      refine En.next ?_
      refine W.region (l := [0, 1]) (by kernel_rfl) ?_
      refine WO.incr (j := i4) rfl (by kernel_rfl) rfl (by omega) ?_
      refine WO.vals [(1, 8, (.int .i64 ((i4 + 1 : Nat) : Int)))] (by kernel_rfl) (fun _ => by kernel_rfl) ?_
      refine WO.nil ?_
      refine En.weaken (fr' := [(0, (.slice a_p0 p0.length c_p0)), (1, (.func (.func g_p1) #[] k_p1.toArray)), (7, (.int .i64 (p0.length : Int))), (8, (.int .i64 ((i4 + 1 : Nat) : Int)))]) (En.round ⟨(), (Option.some.inj hr1).symm, I14, rfl, (hl3.trans hl15), hS16⟩) (Sub.cons rfl (Sub.cons rfl (Sub.cons rfl (Sub.cons rfl Sub.nil))))
  case lastt1 =>
    rintro _ _ w20 ⟨I2, rfl, hl3, hS21⟩ he
    cases he
    refine W.seq ?_
    refine W.region (l := [0]) (by kernel_rfl) ?_
    refine WO.vals [(0, 9, (.bool (decide ((p0.length : Int) < (p0.length : Int)))))] (by kernel_rfl) (fun _ => by kernel_rfl) ?_
    refine WO.nil ?_
    refine En.next ?_
    refine W.seq ?_
    refine W.cond (b := (decide ((p0.length : Int) < (p0.length : Int)))) rfl rfl (fun hc => ?_) (fun hc => ?_)
    · exact absurd hc (by first | (simp; done) | (simp; omega))
    clear hc
    refine W.exit ?_
    refine En.nx_exit ?_
    refine En.rd_exit ?_
    refine En.in_hit ?_
    refine En.next ?_
    refine W.seq ?_
    refine W.region (l := [0]) (by kernel_rfl) ?_
    refine WO.vals [(0, 4, (.int .i64 (-1)))] (by kernel_rfl) (fun _ => by kernel_rfl) ?_
    refine WO.nil ?_
    refine En.next ?_
    refine W.ret ?_
    have he := Option.some.inj hr
    subst r
    exact En.ret1 rfl (.int .i64 (-1)) rfl ⟨I2, rfl, hl3, hS21⟩
def slices_ContainsFunc_int (p0 : List Int) (p1 : Int → Option Bool) : Option Bool := (slices_IndexFunc_int p0 p1).bind (fun (r6 : Int) => some (decide (r6 ≥ 0)))
set_option maxHeartbeats 1000000 in
theorem slices_ContainsFunc_int_ok {E w : World} {I : Mem} {Os : List Mem} {p0 : List Int} {p1 : Int → Option Bool} {a_p0 : Option Addr} {c_p0 : Nat} {g_p1 : FuncId} {k_p1 : List Value} (h_p0 : RSl 1 (RInt .i64) I a_p0 c_p0 p0) (h_p1 : ∀ {F : List Mem} {I' : Mem} {w : World} {u0 : Int}, I.Le I' → St E w I' (F ++ Os) → ∀ {r : Bool}, p1 u0 = some r → Calls P g_p1 (([(.int .i64 u0)] : List Value) ++ k_p1).toArray w (fun e w' => ∃ (I'' : Mem), e = .returned (.bool r) ∧ I'.Le I'' ∧ St E w' I'' (F ++ Os))) (hcall_p1 : Callable P g_p1) (hS : St E w I Os) {r : Bool} (hr : slices_ContainsFunc_int p0 p1 = some r) :
    Calls P 35 #[(.slice a_p0 p0.length c_p0), (.func (.func g_p1) #[] k_p1.toArray)] w (fun e w' => ∃ (I' : Mem), e = .returned (.bool r) ∧ I.Le I' ∧ St E w' I' Os) := by
  refine calls_W (args := [(.slice a_p0 p0.length c_p0), (.func (.func g_p1) #[] k_p1.toArray)]) (fn := Try.f35) rfl rfl rfl ?_
  unfold slices_ContainsFunc_int at hr
  refine W.seq ?_
  refine W.region (l := [0]) (by kernel_rfl) ?_
  refine WO.vals [(0, 4, (.bool false))] (by kernel_rfl) (fun _ => by kernel_rfl) ?_
  refine WO.nil ?_
  refine En.next ?_
  refine W.seq ?_
  refine W.region (l := [0, 1, 2, 3, 4]) (by kernel_rfl) ?_
  refine WO.vals [(0, 5, (.slice a_p0 p0.length c_p0)), (1, 6, (.func (.func g_p1) #[] k_p1.toArray))] (by kernel_rfl) (fun _ => by kernel_rfl) ?_
  obtain ⟨r6, hx_r1, hr⟩ := bind_some hr
  refine WO.call rfl (by kernel_rfl) rfl (f := 62) (args := #[(.slice a_p0 p0.length c_p0), (.func (.func g_p1) #[] k_p1.toArray)]) (by kernel_rfl) (slices_IndexFunc_int_ok h_p0 (fun {F Ic wc} {_} hlc hSc  {rc} hrc => h_p1 hlc hSc  hrc) hcall_p1 hS hx_r1) ?_
  rintro _ w2 ⟨I3, rfl, hl4, hS5⟩
  refine ⟨_, rfl, trivial, ?_⟩
  refine WO.vals [(3, 8, (.bool (decide (r6 ≥ 0)))), (4, 4, (.bool (decide (r6 ≥ 0))))] (by kernel_rfl) (fun _ => by kernel_rfl) ?_
  refine WO.nil ?_
  refine En.next ?_
  refine W.ret ?_
  have he := Option.some.inj hr
  subst r
  exact En.ret1 rfl (.bool (decide (r6 ≥ 0))) rfl ⟨I3, rfl, hl4, hS5⟩
def mdl_Locks_dead_nil  : Option Bool := some true
set_option maxHeartbeats 1000000 in
theorem mdl_Locks_dead_nil_ok {E w : World} {I : Mem} {Os : List Mem} (hS : St E w I Os) {r : Bool} (hr : mdl_Locks_dead_nil = some r) :
    Calls P 28 #[(.pointer none)] w (fun e w' => ∃ (I' : Mem), e = .returned (.bool r) ∧ I.Le I' ∧ St E w' I' Os) := by
  refine calls_W (args := [(.pointer none)]) (fn := Try.f28) rfl rfl rfl ?_
  unfold mdl_Locks_dead_nil at hr
  refine W.seq ?_
  refine W.region (l := [0]) (by kernel_rfl) ?_
  refine WO.vals [(0, 2, (.bool false))] (by kernel_rfl) (fun _ => by kernel_rfl) ?_
  refine WO.nil ?_
  refine En.next ?_
  refine W.seq ?_
  refine W.region (l := [0, 1, 2, 3, 4, 5, 6, 7, 8, 9]) (by kernel_rfl) ?_
  refine WO.vals [(0, 3, (.pointer none)), (1, 4, (.bool true)), (2, 5, (.bool true))] (by kernel_rfl) (fun _ => by kernel_rfl) ?_
  refine WO.pass rfl (by kernel_rfl) rfl ?_
  refine WO.pass rfl (by kernel_rfl) rfl ?_
  refine WO.pass rfl (by kernel_rfl) rfl ?_
  refine WO.pass rfl (by kernel_rfl) rfl ?_
  refine WO.pass rfl (by kernel_rfl) rfl ?_
  refine WO.vals [(8, 11, (.bool true)), (9, 2, (.bool true))] (by kernel_rfl) (fun _ => by kernel_rfl) ?_
  refine WO.nil ?_
  refine En.next ?_
  refine W.ret ?_
  have he := Option.some.inj hr
  subst r
  exact En.ret1 rfl (.bool true) rfl ⟨I, rfl, Mem.Le.refl _, hS⟩
def mdl_Locks_check_nil (p1 : Int) : Option Int := (mdl_Locks_dead_nil).bind (fun (r6 : Bool) => some 1)
set_option maxHeartbeats 1000000 in
theorem mdl_Locks_check_nil_ok {E w : World} {I : Mem} {Os : List Mem} {p1 : Int} (hS : St E w I Os) {r : Int} (hr : mdl_Locks_check_nil p1 = some r) :
    Calls P 37 #[(.pointer none), (.int .i64 p1)] w (fun e w' => ∃ (I' : Mem), e = .returned (.int .i64 r) ∧ I.Le I' ∧ St E w' I' Os) := by
  refine calls_W (args := [(.pointer none), (.int .i64 p1)]) (fn := Try.f37) rfl rfl rfl ?_
  unfold mdl_Locks_check_nil at hr
  refine W.seq ?_
  refine W.region (l := [0]) (by kernel_rfl) ?_
  refine WO.vals [(0, 4, (.int .i64 0))] (by kernel_rfl) (fun _ => by kernel_rfl) ?_
  refine WO.nil ?_
  refine En.next ?_
  refine W.seq ?_
  refine W.block ?_
  refine W.seq ?_
  refine W.region (l := [0, 1, 2]) (by kernel_rfl) ?_
  refine WO.vals [(0, 6, (.pointer none))] (by kernel_rfl) (fun _ => by kernel_rfl) ?_
  obtain ⟨r6, hx_r1, hr⟩ := bind_some hr
  obtain rfl : true = r6 := Option.some.inj hx_r1
  refine WO.call rfl (by kernel_rfl) rfl (f := 28) (args := #[(.pointer none)]) (by kernel_rfl) (mdl_Locks_dead_nil_ok  hS hx_r1) ?_
  rintro _ w2 ⟨I3, rfl, hl4, hS5⟩
  refine ⟨_, rfl, trivial, ?_⟩
  refine WO.vals [(2, 5, (.bool true))] (by kernel_rfl) (fun _ => by kernel_rfl) ?_
  refine WO.nil ?_
  refine En.next ?_
  refine W.cond (b := true) rfl rfl (fun hc => ?_) (fun hc => ?_)
  rotate_left
  · cases hc
  clear hc
  refine W.seq ?_
  refine W.region (l := [0]) (by kernel_rfl) ?_
  refine WO.vals [(0, 4, (.int .i64 1))] (by kernel_rfl) (fun _ => by kernel_rfl) ?_
  refine WO.nil ?_
  refine En.next ?_
  refine W.ret ?_
  refine En.in_ret ?_
  refine En.nx_ret ?_
  have he := Option.some.inj hr
  subst r
  exact En.ret1 rfl (.int .i64 1) rfl ⟨I3, rfl, hl4, hS5⟩
def mdl_Locks_Ask_nil (p1 : Int) (p2 : api_Need) : Option (Bool × Int) := (mdl_Locks_check_nil p1).bind (fun (r10 : Int) => some (false, 1))
set_option maxHeartbeats 1000000 in
theorem mdl_Locks_Ask_nil_ok {E w : World} {I : Mem} {Os : List Mem} {p1 : Int} {p2 : api_Need} (hS : St E w I Os) {r : Bool × Int} (hr : mdl_Locks_Ask_nil p1 p2 = some r) :
    Calls P 24 #[(.pointer none), (.int .i64 p1), (.agg (cs_api_Need p2).toArray)] w (fun e w' => ∃ (I' : Mem), e = .returned (.tuple #[(.bool r.1), (.int .i64 r.2)]) ∧ I.Le I' ∧ St E w' I' Os) := by
  refine calls_W (args := [(.pointer none), (.int .i64 p1), (.agg (cs_api_Need p2).toArray)]) (fn := Try.f24) rfl rfl rfl ?_
  unfold mdl_Locks_Ask_nil at hr
  refine W.seq ?_
  refine W.region (l := [0, 1, 2]) (by kernel_rfl) ?_
  refine WO.new hS rfl (by kernel_rfl) rfl (.cells (cs_api_Need p2).toArray 43 (0, 0)) (fun b => .pointer (some ⟨b, 0, none⟩)) (by kernel_rfl) (fun _ _ _ => trivial) ?_
  intro b1 w4 hS3
  refine WO.vals [(1, 6, (.bool false)), (2, 7, (.int .i64 0))] (by kernel_rfl) (fun _ => by kernel_rfl) ?_
  refine WO.nil ?_
  refine En.next ?_
  refine W.seq ?_
  refine W.seq ?_
  refine W.region (l := [0, 1, 2, 3]) (by kernel_rfl) ?_
  refine WO.vals [(0, 13, (.pointer none)), (1, 14, (.int .i64 p1))] (by kernel_rfl) (fun _ => by kernel_rfl) ?_
  obtain ⟨r10, hx_r5, hr⟩ := bind_some hr
  obtain rfl : 1 = r10 := Option.some.inj hx_r5
  refine WO.call rfl (by kernel_rfl) rfl (f := 37) (args := #[(.pointer none), (.int .i64 p1)]) (by kernel_rfl) (mdl_Locks_check_nil_ok  hS3 hx_r5) ?_
  rintro _ w6 ⟨I7, rfl, hl8, hS9⟩
  refine ⟨_, rfl, trivial, ?_⟩
  refine WO.vals [(3, 8, (.int .i64 1))] (by kernel_rfl) (fun _ => by kernel_rfl) ?_
  refine WO.nil ?_
  refine En.next ?_
  refine W.seq ?_
  refine W.region (l := [0, 1]) (by kernel_rfl) ?_
  refine WO.vals [(0, 16, (.int .i64 1)), (1, 17, (.bool true))] (by kernel_rfl) (fun _ => by kernel_rfl) ?_
  refine WO.nil ?_
  refine En.next ?_
  refine W.cond (b := true) rfl rfl (fun hc => ?_) (fun hc => ?_)
  rotate_left
  · cases hc
  clear hc
  refine W.seq ?_
  refine W.region (l := [0, 1, 2]) (by kernel_rfl) ?_
  refine WO.vals [(0, 18, (.int .i64 1)), (1, 6, (.bool false)), (2, 7, (.int .i64 1))] (by kernel_rfl) (fun _ => by kernel_rfl) ?_
  refine WO.nil ?_
  refine En.next ?_
  refine W.ret ?_
  refine En.nx_ret ?_
  have hS11 := hS9.drop
  have he := Option.some.inj hr
  subst r
  exact En.ret2 rfl (.bool false) (.int .i64 1) rfl rfl ⟨I7, rfl, hl8, hS11⟩
def mdl_Locks_Waits_nil (p1 : Int) : Option (api_Need × Bool) := (mdl_Locks_dead_nil).bind (fun (r10 : Bool) => some (z_api_Need, false))
set_option maxHeartbeats 1000000 in
theorem mdl_Locks_Waits_nil_ok {E w : World} {I : Mem} {Os : List Mem} {p1 : Int} (hS : St E w I Os) {r : api_Need × Bool} (hr : mdl_Locks_Waits_nil p1 = some r) :
    Calls P 20 #[(.pointer none), (.int .i64 p1)] w (fun e w' => ∃ (I' : Mem), e = .returned (.tuple #[(.agg (cs_api_Need r.1).toArray), (.bool r.2)]) ∧ I.Le I' ∧ St E w' I' Os) := by
  refine calls_W (args := [(.pointer none), (.int .i64 p1)]) (fn := Try.f20) rfl rfl rfl ?_
  unfold mdl_Locks_Waits_nil at hr
  refine W.seq ?_
  refine W.region (l := [0, 1]) (by kernel_rfl) ?_
  refine WO.new hS rfl (by kernel_rfl) rfl (.cells (cs_api_Need z_api_Need).toArray 43 (0, 0)) (fun b => .pointer (some ⟨b, 0, none⟩)) (by kernel_rfl) (fun _ _ _ => trivial) ?_
  intro b1 w4 hS3
  refine WO.vals [(1, 5, (.bool false))] (by kernel_rfl) (fun _ => by kernel_rfl) ?_
  refine WO.nil ?_
  refine En.next ?_
  refine W.seq ?_
  refine W.seq ?_
  refine W.region (l := [0, 1]) (by kernel_rfl) ?_
  refine WO.vals [(0, 9, (.pointer none))] (by kernel_rfl) (fun _ => by kernel_rfl) ?_
  obtain ⟨r10, hx_r5, hr⟩ := bind_some hr
  obtain rfl : true = r10 := Option.some.inj hx_r5
  refine WO.call rfl (by kernel_rfl) rfl (f := 28) (args := #[(.pointer none)]) (by kernel_rfl) (mdl_Locks_dead_nil_ok  hS3 hx_r5) ?_
  rintro _ w6 ⟨I7, rfl, hl8, hS9⟩
  refine ⟨_, rfl, trivial, ?_⟩
  refine WO.nil ?_
  refine En.next ?_
  refine W.cond (b := true) rfl rfl (fun hc => ?_) (fun hc => ?_)
  rotate_left
  · cases hc
  clear hc
  refine W.seq ?_
  refine W.region (l := [0, 1, 2]) (by kernel_rfl) ?_
  refine WO.vals [(0, 11, (.agg (cs_api_Need z_api_Need).toArray))] (by kernel_rfl) (fun _ => by kernel_rfl) ?_
  refine WO.storeBox hS9 rfl (by kernel_rfl) rfl 0 rfl rfl (by kernel_rfl) (by kernel_rfl) (by kernel_rfl) ((cs_api_Need z_api_Need).toArray) (by kernel_rfl) (fun _ _ => trivial) ?_
  intro w12 hS11
  refine WO.vals [(2, 5, (.bool false))] (by kernel_rfl) (fun _ => by kernel_rfl) ?_
  refine WO.nil ?_
  refine En.next ?_
  refine W.ret ?_
  refine En.nx_ret ?_
  have hS13 := hS11.drop
  have he := Option.some.inj hr
  subst r
  exact En.retc2 rfl (.agg (cs_api_Need z_api_Need).toArray) (.bool false) ⟨_, _, rfl, run_loadVarN (cs := (cs_api_Need z_api_Need)) (by kernel_rfl) (by kernel_rfl) (cells_one (hS11.rd (List.Mem.head _)) (by kernel_rfl))⟩ rfl ⟨I7, rfl, hl8, hS13⟩
def mdl_Locks_Free_nil (p1 : Int) (p2 : ByteArray) : Option Int := (mdl_Locks_check_nil p1).bind (fun (r6 : Int) => some 1)
set_option maxHeartbeats 1000000 in
theorem mdl_Locks_Free_nil_ok {E w : World} {I : Mem} {Os : List Mem} {p1 : Int} {p2 : ByteArray} (hS : St E w I Os) {r : Int} (hr : mdl_Locks_Free_nil p1 p2 = some r) :
    Calls P 25 #[(.pointer none), (.int .i64 p1), (.string p2)] w (fun e w' => ∃ (I' : Mem), e = .returned (.int .i64 r) ∧ I.Le I' ∧ St E w' I' Os) := by
  refine calls_W (args := [(.pointer none), (.int .i64 p1), (.string p2)]) (fn := Try.f25) rfl rfl rfl ?_
  unfold mdl_Locks_Free_nil at hr
  refine W.seq ?_
  refine W.region (l := [0]) (by kernel_rfl) ?_
  refine WO.vals [(0, 6, (.int .i64 0))] (by kernel_rfl) (fun _ => by kernel_rfl) ?_
  refine WO.nil ?_
  refine En.next ?_
  refine W.seq ?_
  refine W.seq ?_
  refine W.region (l := [0, 1, 2, 3]) (by kernel_rfl) ?_
  refine WO.vals [(0, 9, (.pointer none)), (1, 10, (.int .i64 p1))] (by kernel_rfl) (fun _ => by kernel_rfl) ?_
  obtain ⟨r6, hx_r1, hr⟩ := bind_some hr
  obtain rfl : 1 = r6 := Option.some.inj hx_r1
  refine WO.call rfl (by kernel_rfl) rfl (f := 37) (args := #[(.pointer none), (.int .i64 p1)]) (by kernel_rfl) (mdl_Locks_check_nil_ok  hS hx_r1) ?_
  rintro _ w2 ⟨I3, rfl, hl4, hS5⟩
  refine ⟨_, rfl, trivial, ?_⟩
  refine WO.vals [(3, 7, (.int .i64 1))] (by kernel_rfl) (fun _ => by kernel_rfl) ?_
  refine WO.nil ?_
  refine En.next ?_
  refine W.seq ?_
  refine W.region (l := [0, 1]) (by kernel_rfl) ?_
  refine WO.vals [(0, 12, (.int .i64 1)), (1, 13, (.bool true))] (by kernel_rfl) (fun _ => by kernel_rfl) ?_
  refine WO.nil ?_
  refine En.next ?_
  refine W.cond (b := true) rfl rfl (fun hc => ?_) (fun hc => ?_)
  rotate_left
  · cases hc
  clear hc
  refine W.seq ?_
  refine W.region (l := [0, 1]) (by kernel_rfl) ?_
  refine WO.vals [(0, 14, (.int .i64 1)), (1, 6, (.int .i64 1))] (by kernel_rfl) (fun _ => by kernel_rfl) ?_
  refine WO.nil ?_
  refine En.next ?_
  refine W.ret ?_
  refine En.nx_ret ?_
  have he := Option.some.inj hr
  subst r
  exact En.ret1 rfl (.int .i64 1) rfl ⟨I3, rfl, hl4, hS5⟩
def mdl_Locks_Leave_nil (p1 : Int) : Option Int := (mdl_Locks_check_nil p1).bind (fun (r6 : Int) => some 1)
set_option maxHeartbeats 1000000 in
theorem mdl_Locks_Leave_nil_ok {E w : World} {I : Mem} {Os : List Mem} {p1 : Int} (hS : St E w I Os) {r : Int} (hr : mdl_Locks_Leave_nil p1 = some r) :
    Calls P 21 #[(.pointer none), (.int .i64 p1)] w (fun e w' => ∃ (I' : Mem), e = .returned (.int .i64 r) ∧ I.Le I' ∧ St E w' I' Os) := by
  refine calls_W (args := [(.pointer none), (.int .i64 p1)]) (fn := Try.f21) rfl rfl rfl ?_
  unfold mdl_Locks_Leave_nil at hr
  refine W.seq ?_
  refine W.region (l := [0]) (by kernel_rfl) ?_
  refine WO.vals [(0, 4, (.int .i64 0))] (by kernel_rfl) (fun _ => by kernel_rfl) ?_
  refine WO.nil ?_
  refine En.next ?_
  refine W.seq ?_
  refine W.seq ?_
  refine W.region (l := [0, 1, 2, 3]) (by kernel_rfl) ?_
  refine WO.vals [(0, 9, (.pointer none)), (1, 10, (.int .i64 p1))] (by kernel_rfl) (fun _ => by kernel_rfl) ?_
  obtain ⟨r6, hx_r1, hr⟩ := bind_some hr
  obtain rfl : 1 = r6 := Option.some.inj hx_r1
  refine WO.call rfl (by kernel_rfl) rfl (f := 37) (args := #[(.pointer none), (.int .i64 p1)]) (by kernel_rfl) (mdl_Locks_check_nil_ok  hS hx_r1) ?_
  rintro _ w2 ⟨I3, rfl, hl4, hS5⟩
  refine ⟨_, rfl, trivial, ?_⟩
  refine WO.vals [(3, 5, (.int .i64 1))] (by kernel_rfl) (fun _ => by kernel_rfl) ?_
  refine WO.nil ?_
  refine En.next ?_
  refine W.seq ?_
  refine W.region (l := [0, 1]) (by kernel_rfl) ?_
  refine WO.vals [(0, 12, (.int .i64 1)), (1, 13, (.bool true))] (by kernel_rfl) (fun _ => by kernel_rfl) ?_
  refine WO.nil ?_
  refine En.next ?_
  refine W.cond (b := true) rfl rfl (fun hc => ?_) (fun hc => ?_)
  rotate_left
  · cases hc
  clear hc
  refine W.seq ?_
  refine W.region (l := [0, 1]) (by kernel_rfl) ?_
  refine WO.vals [(0, 14, (.int .i64 1)), (1, 4, (.int .i64 1))] (by kernel_rfl) (fun _ => by kernel_rfl) ?_
  refine WO.nil ?_
  refine En.next ?_
  refine W.ret ?_
  refine En.nx_ret ?_
  have he := Option.some.inj hr
  subst r
  exact En.ret1 rfl (.int .i64 1) rfl ⟨I3, rfl, hl4, hS5⟩
def mdl_Locks_Cycle_nil  : Option Bool := (mdl_Locks_dead_nil).bind (fun (r6 : Bool) => some false)
set_option maxHeartbeats 1000000 in
theorem mdl_Locks_Cycle_nil_ok {E w : World} {I : Mem} {Os : List Mem} (hS : St E w I Os) {r : Bool} (hr : mdl_Locks_Cycle_nil = some r) :
    Calls P 19 #[(.pointer none)] w (fun e w' => ∃ (I' : Mem), e = .returned (.bool r) ∧ I.Le I' ∧ St E w' I' Os) := by
  refine calls_W (args := [(.pointer none)]) (fn := Try.f19) rfl rfl rfl ?_
  unfold mdl_Locks_Cycle_nil at hr
  refine W.seq ?_
  refine W.region (l := [0]) (by kernel_rfl) ?_
  refine WO.vals [(0, 2, (.bool false))] (by kernel_rfl) (fun _ => by kernel_rfl) ?_
  refine WO.nil ?_
  refine En.next ?_
  refine W.seq ?_
  refine W.seq ?_
  refine W.region (l := [0, 1]) (by kernel_rfl) ?_
  refine WO.vals [(0, 7, (.pointer none))] (by kernel_rfl) (fun _ => by kernel_rfl) ?_
  obtain ⟨r6, hx_r1, hr⟩ := bind_some hr
  obtain rfl : true = r6 := Option.some.inj hx_r1
  refine WO.call rfl (by kernel_rfl) rfl (f := 28) (args := #[(.pointer none)]) (by kernel_rfl) (mdl_Locks_dead_nil_ok  hS hx_r1) ?_
  rintro _ w2 ⟨I3, rfl, hl4, hS5⟩
  refine ⟨_, rfl, trivial, ?_⟩
  refine WO.nil ?_
  refine En.next ?_
  refine W.cond (b := true) rfl rfl (fun hc => ?_) (fun hc => ?_)
  rotate_left
  · cases hc
  clear hc
  refine W.seq ?_
  refine W.region (l := [0]) (by kernel_rfl) ?_
  refine WO.vals [(0, 2, (.bool false))] (by kernel_rfl) (fun _ => by kernel_rfl) ?_
  refine WO.nil ?_
  refine En.next ?_
  refine W.ret ?_
  refine En.nx_ret ?_
  have he := Option.some.inj hr
  subst r
  exact En.ret1 rfl (.bool false) rfl ⟨I3, rfl, hl4, hS5⟩
def mdl_Locks_Holds_nil (p1 : Int) : Option (List api_Need) := (mdl_Locks_dead_nil).bind (fun (r6 : Bool) => some ([] : List api_Need))
set_option maxHeartbeats 1000000 in
theorem mdl_Locks_Holds_nil_ok {E w : World} {I : Mem} {Os : List Mem} {p1 : Int} (hS : St E w I Os) {r : (List api_Need)} (hr : mdl_Locks_Holds_nil p1 = some r) :
    Calls P 18 #[(.pointer none), (.int .i64 p1)] w (fun e w' => ∃ (I' : Mem) (ra0 : Option Addr) (rc0 : Nat), e = .returned (.slice ra0 r.length rc0) ∧ I.Le I' ∧ St E w' I' Os ∧ RSl 2 R_api_Need I' ra0 rc0 r) := by
  refine calls_W (args := [(.pointer none), (.int .i64 p1)]) (fn := Try.f18) rfl rfl rfl ?_
  unfold mdl_Locks_Holds_nil at hr
  refine W.seq ?_
  refine W.region (l := [0]) (by kernel_rfl) ?_
  refine WO.vals [(0, 4, (.slice none 0 0))] (by kernel_rfl) (fun _ => by kernel_rfl) ?_
  refine WO.nil ?_
  refine En.next ?_
  refine W.seq ?_
  refine W.seq ?_
  refine W.region (l := [0, 1]) (by kernel_rfl) ?_
  refine WO.vals [(0, 9, (.pointer none))] (by kernel_rfl) (fun _ => by kernel_rfl) ?_
  obtain ⟨r6, hx_r1, hr⟩ := bind_some hr
  obtain rfl : true = r6 := Option.some.inj hx_r1
  refine WO.call rfl (by kernel_rfl) rfl (f := 28) (args := #[(.pointer none)]) (by kernel_rfl) (mdl_Locks_dead_nil_ok  hS hx_r1) ?_
  rintro _ w2 ⟨I3, rfl, hl4, hS5⟩
  refine ⟨_, rfl, trivial, ?_⟩
  refine WO.nil ?_
  refine En.next ?_
  refine W.cond (b := true) rfl rfl (fun hc => ?_) (fun hc => ?_)
  rotate_left
  · cases hc
  clear hc
  refine W.seq ?_
  refine W.region (l := [0]) (by kernel_rfl) ?_
  refine WO.vals [(0, 4, (.slice none 0 0))] (by kernel_rfl) (fun _ => by kernel_rfl) ?_
  refine WO.nil ?_
  refine En.next ?_
  refine W.ret ?_
  refine En.nx_ret ?_
  have he := Option.some.inj hr
  subst r
  exact En.ret1 rfl (.slice none 0 0) rfl ⟨I3, none, 0, rfl, hl4, hS5, SlAt.nil⟩
def mdl_Locks_Blockers_nil (p1 : Int) : Option (List Int) := (mdl_Locks_Waits_nil p1).bind (fun ((r6, r7) : api_Need × Bool) => some ([] : List Int))
set_option maxHeartbeats 1000000 in
theorem mdl_Locks_Blockers_nil_ok {E w : World} {I : Mem} {Os : List Mem} {p1 : Int} (hS : St E w I Os) {r : (List Int)} (hr : mdl_Locks_Blockers_nil p1 = some r) :
    Calls P 26 #[(.pointer none), (.int .i64 p1)] w (fun e w' => ∃ (I' : Mem) (ra0 : Option Addr) (rc0 : Nat), e = .returned (.slice ra0 r.length rc0) ∧ I.Le I' ∧ St E w' I' Os ∧ RSl 1 (RInt .i64) I' ra0 rc0 r) := by
  refine calls_W (args := [(.pointer none), (.int .i64 p1)]) (fn := Try.f26) rfl rfl rfl ?_
  unfold mdl_Locks_Blockers_nil at hr
  refine W.seq ?_
  refine W.region (l := [0]) (by kernel_rfl) ?_
  refine WO.vals [(0, 4, (.slice none 0 0))] (by kernel_rfl) (fun _ => by kernel_rfl) ?_
  refine WO.nil ?_
  refine En.next ?_
  refine W.seq ?_
  refine W.region (l := [0, 1, 2, 3, 4, 5, 6, 7, 8]) (by kernel_rfl) ?_
  refine WO.vals [(0, 12, (.pointer none)), (1, 13, (.int .i64 p1))] (by kernel_rfl) (fun _ => by kernel_rfl) ?_
  obtain ⟨⟨r6, r7⟩, hx_r1, hr⟩ := bind_some hr
  obtain rfl : false = r7 := congrArg (fun t => t.2) (Option.some.inj (show some (_, false) = some (r6, r7) from hx_r1))
  refine WO.call rfl (by kernel_rfl) rfl (f := 20) (args := #[(.pointer none), (.int .i64 p1)]) (by kernel_rfl) (mdl_Locks_Waits_nil_ok  hS hx_r1) ?_
  rintro _ w2 ⟨I3, rfl, hl4, hS5⟩
  refine ⟨_, rfl, trivial, ?_⟩
  refine WO.vals [(3, 11, (.tuple #[(.agg (cs_api_Need r6).toArray), (.bool false)])), (4, 15, (.agg (cs_api_Need r6).toArray)), (5, 16, (.bool false))] (by kernel_rfl) (fun _ => by kernel_rfl) ?_
  refine WO.new hS5 rfl (by kernel_rfl) rfl (.cells (cs_api_Need z_api_Need).toArray 43 (0, 0)) (fun b => .pointer (some ⟨b, 0, none⟩)) (by kernel_rfl) (fun _ _ _ => trivial) ?_
  intro b8 w11 hS10
  refine WO.storeBox hS10 rfl (by kernel_rfl) rfl 0 rfl rfl (by kernel_rfl) (by kernel_rfl) (by kernel_rfl) ((cs_api_Need r6).toArray) (by kernel_rfl) (fun _ _ => trivial) ?_
  intro w13 hS12
  refine WO.vals [(8, 6, (.bool false))] (by kernel_rfl) (fun _ => by kernel_rfl) ?_
  refine WO.nil ?_
  refine En.next ?_
  refine W.seq ?_
  refine W.seq ?_
  refine W.region (l := [0, 1]) (by kernel_rfl) ?_
  refine WO.vals [(0, 17, (.bool false)), (1, 18, (.bool true))] (by kernel_rfl) (fun _ => by kernel_rfl) ?_
  refine WO.nil ?_
  refine En.next ?_
  refine W.cond (b := true) rfl rfl (fun hc => ?_) (fun hc => ?_)
  rotate_left
  · cases hc
  clear hc
  refine W.seq ?_
  refine W.region (l := [0]) (by kernel_rfl) ?_
  refine WO.vals [(0, 4, (.slice none 0 0))] (by kernel_rfl) (fun _ => by kernel_rfl) ?_
  refine WO.nil ?_
  refine En.next ?_
  refine W.ret ?_
  refine En.nx_ret ?_
  have hS14 := hS12.drop
  have he := Option.some.inj hr
  subst r
  exact En.ret1 rfl (.slice none 0 0) rfl ⟨I3, none, 0, rfl, hl4, hS14, SlAt.nil⟩
def mdl_Locks_Paths_nil  : Option (List ByteArray) := (mdl_Locks_dead_nil).bind (fun (r6 : Bool) => some ([] : List ByteArray))
set_option maxHeartbeats 1000000 in
theorem mdl_Locks_Paths_nil_ok {E w : World} {I : Mem} {Os : List Mem} (hS : St E w I Os) {r : (List ByteArray)} (hr : mdl_Locks_Paths_nil = some r) :
    Calls P 11 #[(.pointer none)] w (fun e w' => ∃ (I' : Mem) (ra0 : Option Addr) (rc0 : Nat), e = .returned (.slice ra0 r.length rc0) ∧ I.Le I' ∧ St E w' I' Os ∧ RSl 1 RStr I' ra0 rc0 r) := by
  refine calls_W (args := [(.pointer none)]) (fn := Try.f11) rfl rfl rfl ?_
  unfold mdl_Locks_Paths_nil at hr
  refine W.seq ?_
  refine W.region (l := [0]) (by kernel_rfl) ?_
  refine WO.vals [(0, 2, (.slice none 0 0))] (by kernel_rfl) (fun _ => by kernel_rfl) ?_
  refine WO.nil ?_
  refine En.next ?_
  refine W.seq ?_
  refine W.seq ?_
  refine W.region (l := [0, 1]) (by kernel_rfl) ?_
  refine WO.vals [(0, 3, (.pointer none))] (by kernel_rfl) (fun _ => by kernel_rfl) ?_
  obtain ⟨r6, hx_r1, hr⟩ := bind_some hr
  obtain rfl : true = r6 := Option.some.inj hx_r1
  refine WO.call rfl (by kernel_rfl) rfl (f := 28) (args := #[(.pointer none)]) (by kernel_rfl) (mdl_Locks_dead_nil_ok  hS hx_r1) ?_
  rintro _ w2 ⟨I3, rfl, hl4, hS5⟩
  refine ⟨_, rfl, trivial, ?_⟩
  refine WO.nil ?_
  refine En.next ?_
  refine W.cond (b := true) rfl rfl (fun hc => ?_) (fun hc => ?_)
  rotate_left
  · cases hc
  clear hc
  refine W.seq ?_
  refine W.region (l := [0]) (by kernel_rfl) ?_
  refine WO.vals [(0, 2, (.slice none 0 0))] (by kernel_rfl) (fun _ => by kernel_rfl) ?_
  refine WO.nil ?_
  refine En.next ?_
  refine W.ret ?_
  refine En.nx_ret ?_
  have he := Option.some.inj hr
  subst r
  exact En.ret1 rfl (.slice none 0 0) rfl ⟨I3, none, 0, rfl, hl4, hS5, SlAt.nil⟩
def mdl_Locks_Holders_nil (p1 : ByteArray) : Option (List Int) := (mdl_Locks_dead_nil).bind (fun (r6 : Bool) => some ([] : List Int))
set_option maxHeartbeats 1000000 in
theorem mdl_Locks_Holders_nil_ok {E w : World} {I : Mem} {Os : List Mem} {p1 : ByteArray} (hS : St E w I Os) {r : (List Int)} (hr : mdl_Locks_Holders_nil p1 = some r) :
    Calls P 27 #[(.pointer none), (.string p1)] w (fun e w' => ∃ (I' : Mem) (ra0 : Option Addr) (rc0 : Nat), e = .returned (.slice ra0 r.length rc0) ∧ I.Le I' ∧ St E w' I' Os ∧ RSl 1 (RInt .i64) I' ra0 rc0 r) := by
  refine calls_W (args := [(.pointer none), (.string p1)]) (fn := Try.f27) rfl rfl rfl ?_
  unfold mdl_Locks_Holders_nil at hr
  refine W.seq ?_
  refine W.region (l := [0]) (by kernel_rfl) ?_
  refine WO.vals [(0, 4, (.slice none 0 0))] (by kernel_rfl) (fun _ => by kernel_rfl) ?_
  refine WO.nil ?_
  refine En.next ?_
  refine W.seq ?_
  refine W.seq ?_
  refine W.region (l := [0, 1]) (by kernel_rfl) ?_
  refine WO.vals [(0, 5, (.pointer none))] (by kernel_rfl) (fun _ => by kernel_rfl) ?_
  obtain ⟨r6, hx_r1, hr⟩ := bind_some hr
  obtain rfl : true = r6 := Option.some.inj hx_r1
  refine WO.call rfl (by kernel_rfl) rfl (f := 28) (args := #[(.pointer none)]) (by kernel_rfl) (mdl_Locks_dead_nil_ok  hS hx_r1) ?_
  rintro _ w2 ⟨I3, rfl, hl4, hS5⟩
  refine ⟨_, rfl, trivial, ?_⟩
  refine WO.nil ?_
  refine En.next ?_
  refine W.cond (b := true) rfl rfl (fun hc => ?_) (fun hc => ?_)
  rotate_left
  · cases hc
  clear hc
  refine W.seq ?_
  refine W.region (l := [0]) (by kernel_rfl) ?_
  refine WO.vals [(0, 4, (.slice none 0 0))] (by kernel_rfl) (fun _ => by kernel_rfl) ?_
  refine WO.nil ?_
  refine En.next ?_
  refine W.ret ?_
  refine En.nx_ret ?_
  have he := Option.some.inj hr
  subst r
  exact En.ret1 rfl (.slice none 0 0) rfl ⟨I3, none, 0, rfl, hl4, hS5, SlAt.nil⟩
def mdl_Locks_Waiters_nil (p1 : ByteArray) : Option (List Int) := (mdl_Locks_dead_nil).bind (fun (r6 : Bool) => some ([] : List Int))
set_option maxHeartbeats 1000000 in
theorem mdl_Locks_Waiters_nil_ok {E w : World} {I : Mem} {Os : List Mem} {p1 : ByteArray} (hS : St E w I Os) {r : (List Int)} (hr : mdl_Locks_Waiters_nil p1 = some r) :
    Calls P 12 #[(.pointer none), (.string p1)] w (fun e w' => ∃ (I' : Mem) (ra0 : Option Addr) (rc0 : Nat), e = .returned (.slice ra0 r.length rc0) ∧ I.Le I' ∧ St E w' I' Os ∧ RSl 1 (RInt .i64) I' ra0 rc0 r) := by
  refine calls_W (args := [(.pointer none), (.string p1)]) (fn := Try.f12) rfl rfl rfl ?_
  unfold mdl_Locks_Waiters_nil at hr
  refine W.seq ?_
  refine W.region (l := [0]) (by kernel_rfl) ?_
  refine WO.vals [(0, 4, (.slice none 0 0))] (by kernel_rfl) (fun _ => by kernel_rfl) ?_
  refine WO.nil ?_
  refine En.next ?_
  refine W.seq ?_
  refine W.seq ?_
  refine W.region (l := [0, 1]) (by kernel_rfl) ?_
  refine WO.vals [(0, 8, (.pointer none))] (by kernel_rfl) (fun _ => by kernel_rfl) ?_
  obtain ⟨r6, hx_r1, hr⟩ := bind_some hr
  obtain rfl : true = r6 := Option.some.inj hx_r1
  refine WO.call rfl (by kernel_rfl) rfl (f := 28) (args := #[(.pointer none)]) (by kernel_rfl) (mdl_Locks_dead_nil_ok  hS hx_r1) ?_
  rintro _ w2 ⟨I3, rfl, hl4, hS5⟩
  refine ⟨_, rfl, trivial, ?_⟩
  refine WO.nil ?_
  refine En.next ?_
  refine W.cond (b := true) rfl rfl (fun hc => ?_) (fun hc => ?_)
  rotate_left
  · cases hc
  clear hc
  refine W.seq ?_
  refine W.region (l := [0]) (by kernel_rfl) ?_
  refine WO.vals [(0, 4, (.slice none 0 0))] (by kernel_rfl) (fun _ => by kernel_rfl) ?_
  refine WO.nil ?_
  refine En.next ?_
  refine W.ret ?_
  refine En.nx_ret ?_
  have he := Option.some.inj hr
  subst r
  exact En.ret1 rfl (.slice none 0 0) rfl ⟨I3, none, 0, rfl, hl4, hS5, SlAt.nil⟩
def mdl_Locks_dead_zero  : Option Bool := some true
set_option maxHeartbeats 1000000 in
theorem mdl_Locks_dead_zero_ok {E w : World} {I : Mem} {Os : List Mem} {b_p0 : Nat} (hS : St E w I ((Gv.one b_p0 (.cells #[(.map none)] 56 (0, 0))) :: Os)) {r : Bool} (hr : mdl_Locks_dead_zero = some r) :
    Calls P 28 #[(.pointer (some ⟨b_p0, 0, none⟩))] w (fun e w' => ∃ (I' : Mem), e = .returned (.bool r) ∧ I.Le I' ∧ St E w' I' ((Gv.one b_p0 (.cells #[(.map none)] 56 (0, 0))) :: Os)) := by
  refine calls_W (args := [(.pointer (some ⟨b_p0, 0, none⟩))]) (fn := Try.f28) rfl rfl rfl ?_
  unfold mdl_Locks_dead_zero at hr
  refine W.seq ?_
  refine W.region (l := [0]) (by kernel_rfl) ?_
  refine WO.vals [(0, 2, (.bool false))] (by kernel_rfl) (fun _ => by kernel_rfl) ?_
  refine WO.nil ?_
  refine En.next ?_
  refine W.seq ?_
  refine W.region (l := [0, 1, 2, 3, 4, 5, 6, 7, 8, 9]) (by kernel_rfl) ?_
  refine WO.vals [(0, 3, (.pointer (some ⟨b_p0, 0, none⟩))), (1, 4, (.bool false)), (2, 5, (.bool false)), (3, 6, (.pointer (some ⟨b_p0, 0, none⟩))), (4, 7, (.pointer (some ⟨b_p0, 0, none⟩))), (5, 8, (.pointer (some ⟨b_p0, 0, none⟩)))] (by kernel_rfl) (fun _ => by kernel_rfl) ?_
  refine WO.load rfl (by kernel_rfl) (by kernel_rfl) rfl (v := (.map none)) (fun w' hw' => cell_one ((rd_f (hS.rd (List.Mem.head _))) w' hw') (by kernel_rfl)) ?_
  refine WO.vals [(7, 10, (.bool true)), (8, 11, (.bool true)), (9, 2, (.bool true))] (by kernel_rfl) (fun _ => by kernel_rfl) ?_
  refine WO.nil ?_
  refine En.next ?_
  refine W.ret ?_
  have he := Option.some.inj hr
  subst r
  exact En.ret1 rfl (.bool true) rfl ⟨I, rfl, Mem.Le.refl _, hS⟩
def mdl_Locks_check_zero (p1 : Int) : Option Int := (mdl_Locks_dead_zero).bind (fun (r6 : Bool) => some 1)
set_option maxHeartbeats 1000000 in
theorem mdl_Locks_check_zero_ok {E w : World} {I : Mem} {Os : List Mem} {p1 : Int} {b_p0 : Nat} (hS : St E w I ((Gv.one b_p0 (.cells #[(.map none)] 56 (0, 0))) :: Os)) {r : Int} (hr : mdl_Locks_check_zero p1 = some r) :
    Calls P 37 #[(.pointer (some ⟨b_p0, 0, none⟩)), (.int .i64 p1)] w (fun e w' => ∃ (I' : Mem), e = .returned (.int .i64 r) ∧ I.Le I' ∧ St E w' I' ((Gv.one b_p0 (.cells #[(.map none)] 56 (0, 0))) :: Os)) := by
  refine calls_W (args := [(.pointer (some ⟨b_p0, 0, none⟩)), (.int .i64 p1)]) (fn := Try.f37) rfl rfl rfl ?_
  unfold mdl_Locks_check_zero at hr
  refine W.seq ?_
  refine W.region (l := [0]) (by kernel_rfl) ?_
  refine WO.vals [(0, 4, (.int .i64 0))] (by kernel_rfl) (fun _ => by kernel_rfl) ?_
  refine WO.nil ?_
  refine En.next ?_
  refine W.seq ?_
  refine W.block ?_
  refine W.seq ?_
  refine W.region (l := [0, 1, 2]) (by kernel_rfl) ?_
  refine WO.vals [(0, 6, (.pointer (some ⟨b_p0, 0, none⟩)))] (by kernel_rfl) (fun _ => by kernel_rfl) ?_
  obtain ⟨r6, hx_r1, hr⟩ := bind_some hr
  obtain rfl : true = r6 := Option.some.inj hx_r1
  refine WO.call rfl (by kernel_rfl) rfl (f := 28) (args := #[(.pointer (some ⟨b_p0, 0, none⟩))]) (by kernel_rfl) (mdl_Locks_dead_zero_ok  hS hx_r1) ?_
  rintro _ w2 ⟨I3, rfl, hl4, hS5⟩
  refine ⟨_, rfl, trivial, ?_⟩
  refine WO.vals [(2, 5, (.bool true))] (by kernel_rfl) (fun _ => by kernel_rfl) ?_
  refine WO.nil ?_
  refine En.next ?_
  refine W.cond (b := true) rfl rfl (fun hc => ?_) (fun hc => ?_)
  rotate_left
  · cases hc
  clear hc
  refine W.seq ?_
  refine W.region (l := [0]) (by kernel_rfl) ?_
  refine WO.vals [(0, 4, (.int .i64 1))] (by kernel_rfl) (fun _ => by kernel_rfl) ?_
  refine WO.nil ?_
  refine En.next ?_
  refine W.ret ?_
  refine En.in_ret ?_
  refine En.nx_ret ?_
  have he := Option.some.inj hr
  subst r
  exact En.ret1 rfl (.int .i64 1) rfl ⟨I3, rfl, hl4, hS5⟩
def mdl_Locks_Ask_zero (p1 : Int) (p2 : api_Need) : Option (Bool × Int) := (mdl_Locks_check_zero p1).bind (fun (r11 : Int) => some (false, 1))
set_option maxHeartbeats 1000000 in
theorem mdl_Locks_Ask_zero_ok {E w : World} {I : Mem} {Os : List Mem} {p1 : Int} {p2 : api_Need} {b_p0 : Nat} (hS : St E w I ((Gv.one b_p0 (.cells #[(.map none)] 56 (0, 0))) :: Os)) {r : Bool × Int} (hr : mdl_Locks_Ask_zero p1 p2 = some r) :
    Calls P 24 #[(.pointer (some ⟨b_p0, 0, none⟩)), (.int .i64 p1), (.agg (cs_api_Need p2).toArray)] w (fun e w' => ∃ (I' : Mem), e = .returned (.tuple #[(.bool r.1), (.int .i64 r.2)]) ∧ I.Le I' ∧ St E w' I' ((Gv.one b_p0 (.cells #[(.map none)] 56 (0, 0))) :: Os)) := by
  refine calls_W (args := [(.pointer (some ⟨b_p0, 0, none⟩)), (.int .i64 p1), (.agg (cs_api_Need p2).toArray)]) (fn := Try.f24) rfl rfl rfl ?_
  unfold mdl_Locks_Ask_zero at hr
  refine W.seq ?_
  refine W.region (l := [0, 1, 2]) (by kernel_rfl) ?_
  refine WO.new hS rfl (by kernel_rfl) rfl (.cells (cs_api_Need p2).toArray 43 (0, 0)) (fun b => .pointer (some ⟨b, 0, none⟩)) (by kernel_rfl) (fun _ _ _ => trivial) ?_
  intro b1 w4 hS3
  refine WO.vals [(1, 6, (.bool false)), (2, 7, (.int .i64 0))] (by kernel_rfl) (fun _ => by kernel_rfl) ?_
  refine WO.nil ?_
  refine En.next ?_
  refine W.seq ?_
  refine W.seq ?_
  refine W.region (l := [0, 1, 2, 3]) (by kernel_rfl) ?_
  refine WO.vals [(0, 13, (.pointer (some ⟨b_p0, 0, none⟩))), (1, 14, (.int .i64 p1))] (by kernel_rfl) (fun _ => by kernel_rfl) ?_
  have hS5 := hS3.front1
  obtain ⟨r11, hx_r6, hr⟩ := bind_some hr
  obtain rfl : 1 = r11 := Option.some.inj hx_r6
  refine WO.call rfl (by kernel_rfl) rfl (f := 37) (args := #[(.pointer (some ⟨b_p0, 0, none⟩)), (.int .i64 p1)]) (by kernel_rfl) (mdl_Locks_check_zero_ok  hS5 hx_r6) ?_
  rintro _ w7 ⟨I8, rfl, hl9, hS10⟩
  refine ⟨_, rfl, trivial, ?_⟩
  refine WO.vals [(3, 8, (.int .i64 1))] (by kernel_rfl) (fun _ => by kernel_rfl) ?_
  refine WO.nil ?_
  refine En.next ?_
  refine W.seq ?_
  refine W.region (l := [0, 1]) (by kernel_rfl) ?_
  refine WO.vals [(0, 16, (.int .i64 1)), (1, 17, (.bool true))] (by kernel_rfl) (fun _ => by kernel_rfl) ?_
  refine WO.nil ?_
  refine En.next ?_
  refine W.cond (b := true) rfl rfl (fun hc => ?_) (fun hc => ?_)
  rotate_left
  · cases hc
  clear hc
  refine W.seq ?_
  refine W.region (l := [0, 1, 2]) (by kernel_rfl) ?_
  refine WO.vals [(0, 18, (.int .i64 1)), (1, 6, (.bool false)), (2, 7, (.int .i64 1))] (by kernel_rfl) (fun _ => by kernel_rfl) ?_
  refine WO.nil ?_
  refine En.next ?_
  refine W.ret ?_
  refine En.nx_ret ?_
  have hS12 := hS10.front1
  have hS13 := hS12.drop
  have he := Option.some.inj hr
  subst r
  exact En.ret2 rfl (.bool false) (.int .i64 1) rfl rfl ⟨I8, rfl, hl9, hS13⟩
def mdl_Locks_Waits_zero (p1 : Int) : Option (api_Need × Bool) := (mdl_Locks_dead_zero).bind (fun (r11 : Bool) => some (z_api_Need, false))
set_option maxHeartbeats 1000000 in
theorem mdl_Locks_Waits_zero_ok {E w : World} {I : Mem} {Os : List Mem} {p1 : Int} {b_p0 : Nat} (hS : St E w I ((Gv.one b_p0 (.cells #[(.map none)] 56 (0, 0))) :: Os)) {r : api_Need × Bool} (hr : mdl_Locks_Waits_zero p1 = some r) :
    Calls P 20 #[(.pointer (some ⟨b_p0, 0, none⟩)), (.int .i64 p1)] w (fun e w' => ∃ (I' : Mem), e = .returned (.tuple #[(.agg (cs_api_Need r.1).toArray), (.bool r.2)]) ∧ I.Le I' ∧ St E w' I' ((Gv.one b_p0 (.cells #[(.map none)] 56 (0, 0))) :: Os)) := by
  refine calls_W (args := [(.pointer (some ⟨b_p0, 0, none⟩)), (.int .i64 p1)]) (fn := Try.f20) rfl rfl rfl ?_
  unfold mdl_Locks_Waits_zero at hr
  refine W.seq ?_
  refine W.region (l := [0, 1]) (by kernel_rfl) ?_
  refine WO.new hS rfl (by kernel_rfl) rfl (.cells (cs_api_Need z_api_Need).toArray 43 (0, 0)) (fun b => .pointer (some ⟨b, 0, none⟩)) (by kernel_rfl) (fun _ _ _ => trivial) ?_
  intro b1 w4 hS3
  refine WO.vals [(1, 5, (.bool false))] (by kernel_rfl) (fun _ => by kernel_rfl) ?_
  refine WO.nil ?_
  refine En.next ?_
  refine W.seq ?_
  refine W.seq ?_
  refine W.region (l := [0, 1]) (by kernel_rfl) ?_
  refine WO.vals [(0, 9, (.pointer (some ⟨b_p0, 0, none⟩)))] (by kernel_rfl) (fun _ => by kernel_rfl) ?_
  have hS5 := hS3.front1
  obtain ⟨r11, hx_r6, hr⟩ := bind_some hr
  obtain rfl : true = r11 := Option.some.inj hx_r6
  refine WO.call rfl (by kernel_rfl) rfl (f := 28) (args := #[(.pointer (some ⟨b_p0, 0, none⟩))]) (by kernel_rfl) (mdl_Locks_dead_zero_ok  hS5 hx_r6) ?_
  rintro _ w7 ⟨I8, rfl, hl9, hS10⟩
  refine ⟨_, rfl, trivial, ?_⟩
  refine WO.nil ?_
  refine En.next ?_
  refine W.cond (b := true) rfl rfl (fun hc => ?_) (fun hc => ?_)
  rotate_left
  · cases hc
  clear hc
  refine W.seq ?_
  refine W.region (l := [0, 1, 2]) (by kernel_rfl) ?_
  refine WO.vals [(0, 11, (.agg (cs_api_Need z_api_Need).toArray))] (by kernel_rfl) (fun _ => by kernel_rfl) ?_
  have hS12 := hS10.front1
  refine WO.storeBox hS12 rfl (by kernel_rfl) rfl 0 rfl rfl (by kernel_rfl) (by kernel_rfl) (by kernel_rfl) ((cs_api_Need z_api_Need).toArray) (by kernel_rfl) (fun _ _ => trivial) ?_
  intro w14 hS13
  refine WO.vals [(2, 5, (.bool false))] (by kernel_rfl) (fun _ => by kernel_rfl) ?_
  refine WO.nil ?_
  refine En.next ?_
  refine W.ret ?_
  refine En.nx_ret ?_
  have hS15 := hS13.drop
  have he := Option.some.inj hr
  subst r
  exact En.retc2 rfl (.agg (cs_api_Need z_api_Need).toArray) (.bool false) ⟨_, _, rfl, run_loadVarN (cs := (cs_api_Need z_api_Need)) (by kernel_rfl) (by kernel_rfl) (cells_one (hS13.rd (List.Mem.head _)) (by kernel_rfl))⟩ rfl ⟨I8, rfl, hl9, hS15⟩
def mdl_Locks_Free_zero (p1 : Int) (p2 : ByteArray) : Option Int := (mdl_Locks_check_zero p1).bind (fun (r6 : Int) => some 1)
set_option maxHeartbeats 1000000 in
theorem mdl_Locks_Free_zero_ok {E w : World} {I : Mem} {Os : List Mem} {p1 : Int} {p2 : ByteArray} {b_p0 : Nat} (hS : St E w I ((Gv.one b_p0 (.cells #[(.map none)] 56 (0, 0))) :: Os)) {r : Int} (hr : mdl_Locks_Free_zero p1 p2 = some r) :
    Calls P 25 #[(.pointer (some ⟨b_p0, 0, none⟩)), (.int .i64 p1), (.string p2)] w (fun e w' => ∃ (I' : Mem), e = .returned (.int .i64 r) ∧ I.Le I' ∧ St E w' I' ((Gv.one b_p0 (.cells #[(.map none)] 56 (0, 0))) :: Os)) := by
  refine calls_W (args := [(.pointer (some ⟨b_p0, 0, none⟩)), (.int .i64 p1), (.string p2)]) (fn := Try.f25) rfl rfl rfl ?_
  unfold mdl_Locks_Free_zero at hr
  refine W.seq ?_
  refine W.region (l := [0]) (by kernel_rfl) ?_
  refine WO.vals [(0, 6, (.int .i64 0))] (by kernel_rfl) (fun _ => by kernel_rfl) ?_
  refine WO.nil ?_
  refine En.next ?_
  refine W.seq ?_
  refine W.seq ?_
  refine W.region (l := [0, 1, 2, 3]) (by kernel_rfl) ?_
  refine WO.vals [(0, 9, (.pointer (some ⟨b_p0, 0, none⟩))), (1, 10, (.int .i64 p1))] (by kernel_rfl) (fun _ => by kernel_rfl) ?_
  obtain ⟨r6, hx_r1, hr⟩ := bind_some hr
  obtain rfl : 1 = r6 := Option.some.inj hx_r1
  refine WO.call rfl (by kernel_rfl) rfl (f := 37) (args := #[(.pointer (some ⟨b_p0, 0, none⟩)), (.int .i64 p1)]) (by kernel_rfl) (mdl_Locks_check_zero_ok  hS hx_r1) ?_
  rintro _ w2 ⟨I3, rfl, hl4, hS5⟩
  refine ⟨_, rfl, trivial, ?_⟩
  refine WO.vals [(3, 7, (.int .i64 1))] (by kernel_rfl) (fun _ => by kernel_rfl) ?_
  refine WO.nil ?_
  refine En.next ?_
  refine W.seq ?_
  refine W.region (l := [0, 1]) (by kernel_rfl) ?_
  refine WO.vals [(0, 12, (.int .i64 1)), (1, 13, (.bool true))] (by kernel_rfl) (fun _ => by kernel_rfl) ?_
  refine WO.nil ?_
  refine En.next ?_
  refine W.cond (b := true) rfl rfl (fun hc => ?_) (fun hc => ?_)
  rotate_left
  · cases hc
  clear hc
  refine W.seq ?_
  refine W.region (l := [0, 1]) (by kernel_rfl) ?_
  refine WO.vals [(0, 14, (.int .i64 1)), (1, 6, (.int .i64 1))] (by kernel_rfl) (fun _ => by kernel_rfl) ?_
  refine WO.nil ?_
  refine En.next ?_
  refine W.ret ?_
  refine En.nx_ret ?_
  have he := Option.some.inj hr
  subst r
  exact En.ret1 rfl (.int .i64 1) rfl ⟨I3, rfl, hl4, hS5⟩
def mdl_Locks_Leave_zero (p1 : Int) : Option Int := (mdl_Locks_check_zero p1).bind (fun (r6 : Int) => some 1)
set_option maxHeartbeats 1000000 in
theorem mdl_Locks_Leave_zero_ok {E w : World} {I : Mem} {Os : List Mem} {p1 : Int} {b_p0 : Nat} (hS : St E w I ((Gv.one b_p0 (.cells #[(.map none)] 56 (0, 0))) :: Os)) {r : Int} (hr : mdl_Locks_Leave_zero p1 = some r) :
    Calls P 21 #[(.pointer (some ⟨b_p0, 0, none⟩)), (.int .i64 p1)] w (fun e w' => ∃ (I' : Mem), e = .returned (.int .i64 r) ∧ I.Le I' ∧ St E w' I' ((Gv.one b_p0 (.cells #[(.map none)] 56 (0, 0))) :: Os)) := by
  refine calls_W (args := [(.pointer (some ⟨b_p0, 0, none⟩)), (.int .i64 p1)]) (fn := Try.f21) rfl rfl rfl ?_
  unfold mdl_Locks_Leave_zero at hr
  refine W.seq ?_
  refine W.region (l := [0]) (by kernel_rfl) ?_
  refine WO.vals [(0, 4, (.int .i64 0))] (by kernel_rfl) (fun _ => by kernel_rfl) ?_
  refine WO.nil ?_
  refine En.next ?_
  refine W.seq ?_
  refine W.seq ?_
  refine W.region (l := [0, 1, 2, 3]) (by kernel_rfl) ?_
  refine WO.vals [(0, 9, (.pointer (some ⟨b_p0, 0, none⟩))), (1, 10, (.int .i64 p1))] (by kernel_rfl) (fun _ => by kernel_rfl) ?_
  obtain ⟨r6, hx_r1, hr⟩ := bind_some hr
  obtain rfl : 1 = r6 := Option.some.inj hx_r1
  refine WO.call rfl (by kernel_rfl) rfl (f := 37) (args := #[(.pointer (some ⟨b_p0, 0, none⟩)), (.int .i64 p1)]) (by kernel_rfl) (mdl_Locks_check_zero_ok  hS hx_r1) ?_
  rintro _ w2 ⟨I3, rfl, hl4, hS5⟩
  refine ⟨_, rfl, trivial, ?_⟩
  refine WO.vals [(3, 5, (.int .i64 1))] (by kernel_rfl) (fun _ => by kernel_rfl) ?_
  refine WO.nil ?_
  refine En.next ?_
  refine W.seq ?_
  refine W.region (l := [0, 1]) (by kernel_rfl) ?_
  refine WO.vals [(0, 12, (.int .i64 1)), (1, 13, (.bool true))] (by kernel_rfl) (fun _ => by kernel_rfl) ?_
  refine WO.nil ?_
  refine En.next ?_
  refine W.cond (b := true) rfl rfl (fun hc => ?_) (fun hc => ?_)
  rotate_left
  · cases hc
  clear hc
  refine W.seq ?_
  refine W.region (l := [0, 1]) (by kernel_rfl) ?_
  refine WO.vals [(0, 14, (.int .i64 1)), (1, 4, (.int .i64 1))] (by kernel_rfl) (fun _ => by kernel_rfl) ?_
  refine WO.nil ?_
  refine En.next ?_
  refine W.ret ?_
  refine En.nx_ret ?_
  have he := Option.some.inj hr
  subst r
  exact En.ret1 rfl (.int .i64 1) rfl ⟨I3, rfl, hl4, hS5⟩
def mdl_Locks_Cycle_zero  : Option Bool := (mdl_Locks_dead_zero).bind (fun (r6 : Bool) => some false)
set_option maxHeartbeats 1000000 in
theorem mdl_Locks_Cycle_zero_ok {E w : World} {I : Mem} {Os : List Mem} {b_p0 : Nat} (hS : St E w I ((Gv.one b_p0 (.cells #[(.map none)] 56 (0, 0))) :: Os)) {r : Bool} (hr : mdl_Locks_Cycle_zero = some r) :
    Calls P 19 #[(.pointer (some ⟨b_p0, 0, none⟩))] w (fun e w' => ∃ (I' : Mem), e = .returned (.bool r) ∧ I.Le I' ∧ St E w' I' ((Gv.one b_p0 (.cells #[(.map none)] 56 (0, 0))) :: Os)) := by
  refine calls_W (args := [(.pointer (some ⟨b_p0, 0, none⟩))]) (fn := Try.f19) rfl rfl rfl ?_
  unfold mdl_Locks_Cycle_zero at hr
  refine W.seq ?_
  refine W.region (l := [0]) (by kernel_rfl) ?_
  refine WO.vals [(0, 2, (.bool false))] (by kernel_rfl) (fun _ => by kernel_rfl) ?_
  refine WO.nil ?_
  refine En.next ?_
  refine W.seq ?_
  refine W.seq ?_
  refine W.region (l := [0, 1]) (by kernel_rfl) ?_
  refine WO.vals [(0, 7, (.pointer (some ⟨b_p0, 0, none⟩)))] (by kernel_rfl) (fun _ => by kernel_rfl) ?_
  obtain ⟨r6, hx_r1, hr⟩ := bind_some hr
  obtain rfl : true = r6 := Option.some.inj hx_r1
  refine WO.call rfl (by kernel_rfl) rfl (f := 28) (args := #[(.pointer (some ⟨b_p0, 0, none⟩))]) (by kernel_rfl) (mdl_Locks_dead_zero_ok  hS hx_r1) ?_
  rintro _ w2 ⟨I3, rfl, hl4, hS5⟩
  refine ⟨_, rfl, trivial, ?_⟩
  refine WO.nil ?_
  refine En.next ?_
  refine W.cond (b := true) rfl rfl (fun hc => ?_) (fun hc => ?_)
  rotate_left
  · cases hc
  clear hc
  refine W.seq ?_
  refine W.region (l := [0]) (by kernel_rfl) ?_
  refine WO.vals [(0, 2, (.bool false))] (by kernel_rfl) (fun _ => by kernel_rfl) ?_
  refine WO.nil ?_
  refine En.next ?_
  refine W.ret ?_
  refine En.nx_ret ?_
  have he := Option.some.inj hr
  subst r
  exact En.ret1 rfl (.bool false) rfl ⟨I3, rfl, hl4, hS5⟩
def mdl_Locks_Holds_zero (p1 : Int) : Option (List api_Need) := (mdl_Locks_dead_zero).bind (fun (r6 : Bool) => some ([] : List api_Need))
set_option maxHeartbeats 1000000 in
theorem mdl_Locks_Holds_zero_ok {E w : World} {I : Mem} {Os : List Mem} {p1 : Int} {b_p0 : Nat} (hS : St E w I ((Gv.one b_p0 (.cells #[(.map none)] 56 (0, 0))) :: Os)) {r : (List api_Need)} (hr : mdl_Locks_Holds_zero p1 = some r) :
    Calls P 18 #[(.pointer (some ⟨b_p0, 0, none⟩)), (.int .i64 p1)] w (fun e w' => ∃ (I' : Mem) (ra0 : Option Addr) (rc0 : Nat), e = .returned (.slice ra0 r.length rc0) ∧ I.Le I' ∧ St E w' I' ((Gv.one b_p0 (.cells #[(.map none)] 56 (0, 0))) :: Os) ∧ RSl 2 R_api_Need I' ra0 rc0 r) := by
  refine calls_W (args := [(.pointer (some ⟨b_p0, 0, none⟩)), (.int .i64 p1)]) (fn := Try.f18) rfl rfl rfl ?_
  unfold mdl_Locks_Holds_zero at hr
  refine W.seq ?_
  refine W.region (l := [0]) (by kernel_rfl) ?_
  refine WO.vals [(0, 4, (.slice none 0 0))] (by kernel_rfl) (fun _ => by kernel_rfl) ?_
  refine WO.nil ?_
  refine En.next ?_
  refine W.seq ?_
  refine W.seq ?_
  refine W.region (l := [0, 1]) (by kernel_rfl) ?_
  refine WO.vals [(0, 9, (.pointer (some ⟨b_p0, 0, none⟩)))] (by kernel_rfl) (fun _ => by kernel_rfl) ?_
  obtain ⟨r6, hx_r1, hr⟩ := bind_some hr
  obtain rfl : true = r6 := Option.some.inj hx_r1
  refine WO.call rfl (by kernel_rfl) rfl (f := 28) (args := #[(.pointer (some ⟨b_p0, 0, none⟩))]) (by kernel_rfl) (mdl_Locks_dead_zero_ok  hS hx_r1) ?_
  rintro _ w2 ⟨I3, rfl, hl4, hS5⟩
  refine ⟨_, rfl, trivial, ?_⟩
  refine WO.nil ?_
  refine En.next ?_
  refine W.cond (b := true) rfl rfl (fun hc => ?_) (fun hc => ?_)
  rotate_left
  · cases hc
  clear hc
  refine W.seq ?_
  refine W.region (l := [0]) (by kernel_rfl) ?_
  refine WO.vals [(0, 4, (.slice none 0 0))] (by kernel_rfl) (fun _ => by kernel_rfl) ?_
  refine WO.nil ?_
  refine En.next ?_
  refine W.ret ?_
  refine En.nx_ret ?_
  have he := Option.some.inj hr
  subst r
  exact En.ret1 rfl (.slice none 0 0) rfl ⟨I3, none, 0, rfl, hl4, hS5, SlAt.nil⟩
def mdl_Locks_Blockers_zero (p1 : Int) : Option (List Int) := (mdl_Locks_Waits_zero p1).bind (fun ((r6, r7) : api_Need × Bool) => some ([] : List Int))
set_option maxHeartbeats 1000000 in
theorem mdl_Locks_Blockers_zero_ok {E w : World} {I : Mem} {Os : List Mem} {p1 : Int} {b_p0 : Nat} (hS : St E w I ((Gv.one b_p0 (.cells #[(.map none)] 56 (0, 0))) :: Os)) {r : (List Int)} (hr : mdl_Locks_Blockers_zero p1 = some r) :
    Calls P 26 #[(.pointer (some ⟨b_p0, 0, none⟩)), (.int .i64 p1)] w (fun e w' => ∃ (I' : Mem) (ra0 : Option Addr) (rc0 : Nat), e = .returned (.slice ra0 r.length rc0) ∧ I.Le I' ∧ St E w' I' ((Gv.one b_p0 (.cells #[(.map none)] 56 (0, 0))) :: Os) ∧ RSl 1 (RInt .i64) I' ra0 rc0 r) := by
  refine calls_W (args := [(.pointer (some ⟨b_p0, 0, none⟩)), (.int .i64 p1)]) (fn := Try.f26) rfl rfl rfl ?_
  unfold mdl_Locks_Blockers_zero at hr
  refine W.seq ?_
  refine W.region (l := [0]) (by kernel_rfl) ?_
  refine WO.vals [(0, 4, (.slice none 0 0))] (by kernel_rfl) (fun _ => by kernel_rfl) ?_
  refine WO.nil ?_
  refine En.next ?_
  refine W.seq ?_
  refine W.region (l := [0, 1, 2, 3, 4, 5, 6, 7, 8]) (by kernel_rfl) ?_
  refine WO.vals [(0, 12, (.pointer (some ⟨b_p0, 0, none⟩))), (1, 13, (.int .i64 p1))] (by kernel_rfl) (fun _ => by kernel_rfl) ?_
  obtain ⟨⟨r6, r7⟩, hx_r1, hr⟩ := bind_some hr
  obtain rfl : false = r7 := congrArg (fun t => t.2) (Option.some.inj (show some (_, false) = some (r6, r7) from hx_r1))
  refine WO.call rfl (by kernel_rfl) rfl (f := 20) (args := #[(.pointer (some ⟨b_p0, 0, none⟩)), (.int .i64 p1)]) (by kernel_rfl) (mdl_Locks_Waits_zero_ok  hS hx_r1) ?_
  rintro _ w2 ⟨I3, rfl, hl4, hS5⟩
  refine ⟨_, rfl, trivial, ?_⟩
  refine WO.vals [(3, 11, (.tuple #[(.agg (cs_api_Need r6).toArray), (.bool false)])), (4, 15, (.agg (cs_api_Need r6).toArray)), (5, 16, (.bool false))] (by kernel_rfl) (fun _ => by kernel_rfl) ?_
  refine WO.new hS5 rfl (by kernel_rfl) rfl (.cells (cs_api_Need z_api_Need).toArray 43 (0, 0)) (fun b => .pointer (some ⟨b, 0, none⟩)) (by kernel_rfl) (fun _ _ _ => trivial) ?_
  intro b8 w11 hS10
  refine WO.storeBox hS10 rfl (by kernel_rfl) rfl 0 rfl rfl (by kernel_rfl) (by kernel_rfl) (by kernel_rfl) ((cs_api_Need r6).toArray) (by kernel_rfl) (fun _ _ => trivial) ?_
  intro w13 hS12
  refine WO.vals [(8, 6, (.bool false))] (by kernel_rfl) (fun _ => by kernel_rfl) ?_
  refine WO.nil ?_
  refine En.next ?_
  refine W.seq ?_
  refine W.seq ?_
  refine W.region (l := [0, 1]) (by kernel_rfl) ?_
  refine WO.vals [(0, 17, (.bool false)), (1, 18, (.bool true))] (by kernel_rfl) (fun _ => by kernel_rfl) ?_
  refine WO.nil ?_
  refine En.next ?_
  refine W.cond (b := true) rfl rfl (fun hc => ?_) (fun hc => ?_)
  rotate_left
  · cases hc
  clear hc
  refine W.seq ?_
  refine W.region (l := [0]) (by kernel_rfl) ?_
  refine WO.vals [(0, 4, (.slice none 0 0))] (by kernel_rfl) (fun _ => by kernel_rfl) ?_
  refine WO.nil ?_
  refine En.next ?_
  refine W.ret ?_
  refine En.nx_ret ?_
  have hS14 := hS12.drop
  have he := Option.some.inj hr
  subst r
  exact En.ret1 rfl (.slice none 0 0) rfl ⟨I3, none, 0, rfl, hl4, hS14, SlAt.nil⟩
def mdl_Locks_Paths_zero  : Option (List ByteArray) := (mdl_Locks_dead_zero).bind (fun (r6 : Bool) => some ([] : List ByteArray))
set_option maxHeartbeats 1000000 in
theorem mdl_Locks_Paths_zero_ok {E w : World} {I : Mem} {Os : List Mem} {b_p0 : Nat} (hS : St E w I ((Gv.one b_p0 (.cells #[(.map none)] 56 (0, 0))) :: Os)) {r : (List ByteArray)} (hr : mdl_Locks_Paths_zero = some r) :
    Calls P 11 #[(.pointer (some ⟨b_p0, 0, none⟩))] w (fun e w' => ∃ (I' : Mem) (ra0 : Option Addr) (rc0 : Nat), e = .returned (.slice ra0 r.length rc0) ∧ I.Le I' ∧ St E w' I' ((Gv.one b_p0 (.cells #[(.map none)] 56 (0, 0))) :: Os) ∧ RSl 1 RStr I' ra0 rc0 r) := by
  refine calls_W (args := [(.pointer (some ⟨b_p0, 0, none⟩))]) (fn := Try.f11) rfl rfl rfl ?_
  unfold mdl_Locks_Paths_zero at hr
  refine W.seq ?_
  refine W.region (l := [0]) (by kernel_rfl) ?_
  refine WO.vals [(0, 2, (.slice none 0 0))] (by kernel_rfl) (fun _ => by kernel_rfl) ?_
  refine WO.nil ?_
  refine En.next ?_
  refine W.seq ?_
  refine W.seq ?_
  refine W.region (l := [0, 1]) (by kernel_rfl) ?_
  refine WO.vals [(0, 3, (.pointer (some ⟨b_p0, 0, none⟩)))] (by kernel_rfl) (fun _ => by kernel_rfl) ?_
  obtain ⟨r6, hx_r1, hr⟩ := bind_some hr
  obtain rfl : true = r6 := Option.some.inj hx_r1
  refine WO.call rfl (by kernel_rfl) rfl (f := 28) (args := #[(.pointer (some ⟨b_p0, 0, none⟩))]) (by kernel_rfl) (mdl_Locks_dead_zero_ok  hS hx_r1) ?_
  rintro _ w2 ⟨I3, rfl, hl4, hS5⟩
  refine ⟨_, rfl, trivial, ?_⟩
  refine WO.nil ?_
  refine En.next ?_
  refine W.cond (b := true) rfl rfl (fun hc => ?_) (fun hc => ?_)
  rotate_left
  · cases hc
  clear hc
  refine W.seq ?_
  refine W.region (l := [0]) (by kernel_rfl) ?_
  refine WO.vals [(0, 2, (.slice none 0 0))] (by kernel_rfl) (fun _ => by kernel_rfl) ?_
  refine WO.nil ?_
  refine En.next ?_
  refine W.ret ?_
  refine En.nx_ret ?_
  have he := Option.some.inj hr
  subst r
  exact En.ret1 rfl (.slice none 0 0) rfl ⟨I3, none, 0, rfl, hl4, hS5, SlAt.nil⟩
def mdl_Locks_Holders_zero (p1 : ByteArray) : Option (List Int) := (mdl_Locks_dead_zero).bind (fun (r6 : Bool) => some ([] : List Int))
set_option maxHeartbeats 1000000 in
theorem mdl_Locks_Holders_zero_ok {E w : World} {I : Mem} {Os : List Mem} {p1 : ByteArray} {b_p0 : Nat} (hS : St E w I ((Gv.one b_p0 (.cells #[(.map none)] 56 (0, 0))) :: Os)) {r : (List Int)} (hr : mdl_Locks_Holders_zero p1 = some r) :
    Calls P 27 #[(.pointer (some ⟨b_p0, 0, none⟩)), (.string p1)] w (fun e w' => ∃ (I' : Mem) (ra0 : Option Addr) (rc0 : Nat), e = .returned (.slice ra0 r.length rc0) ∧ I.Le I' ∧ St E w' I' ((Gv.one b_p0 (.cells #[(.map none)] 56 (0, 0))) :: Os) ∧ RSl 1 (RInt .i64) I' ra0 rc0 r) := by
  refine calls_W (args := [(.pointer (some ⟨b_p0, 0, none⟩)), (.string p1)]) (fn := Try.f27) rfl rfl rfl ?_
  unfold mdl_Locks_Holders_zero at hr
  refine W.seq ?_
  refine W.region (l := [0]) (by kernel_rfl) ?_
  refine WO.vals [(0, 4, (.slice none 0 0))] (by kernel_rfl) (fun _ => by kernel_rfl) ?_
  refine WO.nil ?_
  refine En.next ?_
  refine W.seq ?_
  refine W.seq ?_
  refine W.region (l := [0, 1]) (by kernel_rfl) ?_
  refine WO.vals [(0, 5, (.pointer (some ⟨b_p0, 0, none⟩)))] (by kernel_rfl) (fun _ => by kernel_rfl) ?_
  obtain ⟨r6, hx_r1, hr⟩ := bind_some hr
  obtain rfl : true = r6 := Option.some.inj hx_r1
  refine WO.call rfl (by kernel_rfl) rfl (f := 28) (args := #[(.pointer (some ⟨b_p0, 0, none⟩))]) (by kernel_rfl) (mdl_Locks_dead_zero_ok  hS hx_r1) ?_
  rintro _ w2 ⟨I3, rfl, hl4, hS5⟩
  refine ⟨_, rfl, trivial, ?_⟩
  refine WO.nil ?_
  refine En.next ?_
  refine W.cond (b := true) rfl rfl (fun hc => ?_) (fun hc => ?_)
  rotate_left
  · cases hc
  clear hc
  refine W.seq ?_
  refine W.region (l := [0]) (by kernel_rfl) ?_
  refine WO.vals [(0, 4, (.slice none 0 0))] (by kernel_rfl) (fun _ => by kernel_rfl) ?_
  refine WO.nil ?_
  refine En.next ?_
  refine W.ret ?_
  refine En.nx_ret ?_
  have he := Option.some.inj hr
  subst r
  exact En.ret1 rfl (.slice none 0 0) rfl ⟨I3, none, 0, rfl, hl4, hS5, SlAt.nil⟩
def mdl_Locks_Waiters_zero (p1 : ByteArray) : Option (List Int) := (mdl_Locks_dead_zero).bind (fun (r6 : Bool) => some ([] : List Int))
set_option maxHeartbeats 1000000 in
theorem mdl_Locks_Waiters_zero_ok {E w : World} {I : Mem} {Os : List Mem} {p1 : ByteArray} {b_p0 : Nat} (hS : St E w I ((Gv.one b_p0 (.cells #[(.map none)] 56 (0, 0))) :: Os)) {r : (List Int)} (hr : mdl_Locks_Waiters_zero p1 = some r) :
    Calls P 12 #[(.pointer (some ⟨b_p0, 0, none⟩)), (.string p1)] w (fun e w' => ∃ (I' : Mem) (ra0 : Option Addr) (rc0 : Nat), e = .returned (.slice ra0 r.length rc0) ∧ I.Le I' ∧ St E w' I' ((Gv.one b_p0 (.cells #[(.map none)] 56 (0, 0))) :: Os) ∧ RSl 1 (RInt .i64) I' ra0 rc0 r) := by
  refine calls_W (args := [(.pointer (some ⟨b_p0, 0, none⟩)), (.string p1)]) (fn := Try.f12) rfl rfl rfl ?_
  unfold mdl_Locks_Waiters_zero at hr
  refine W.seq ?_
  refine W.region (l := [0]) (by kernel_rfl) ?_
  refine WO.vals [(0, 4, (.slice none 0 0))] (by kernel_rfl) (fun _ => by kernel_rfl) ?_
  refine WO.nil ?_
  refine En.next ?_
  refine W.seq ?_
  refine W.seq ?_
  refine W.region (l := [0, 1]) (by kernel_rfl) ?_
  refine WO.vals [(0, 8, (.pointer (some ⟨b_p0, 0, none⟩)))] (by kernel_rfl) (fun _ => by kernel_rfl) ?_
  obtain ⟨r6, hx_r1, hr⟩ := bind_some hr
  obtain rfl : true = r6 := Option.some.inj hx_r1
  refine WO.call rfl (by kernel_rfl) rfl (f := 28) (args := #[(.pointer (some ⟨b_p0, 0, none⟩))]) (by kernel_rfl) (mdl_Locks_dead_zero_ok  hS hx_r1) ?_
  rintro _ w2 ⟨I3, rfl, hl4, hS5⟩
  refine ⟨_, rfl, trivial, ?_⟩
  refine WO.nil ?_
  refine En.next ?_
  refine W.cond (b := true) rfl rfl (fun hc => ?_) (fun hc => ?_)
  rotate_left
  · cases hc
  clear hc
  refine W.seq ?_
  refine W.region (l := [0]) (by kernel_rfl) ?_
  refine WO.vals [(0, 4, (.slice none 0 0))] (by kernel_rfl) (fun _ => by kernel_rfl) ?_
  refine WO.nil ?_
  refine En.next ?_
  refine W.ret ?_
  refine En.nx_ret ?_
  have he := Option.some.inj hr
  subst r
  exact En.ret1 rfl (.slice none 0 0) rfl ⟨I3, none, 0, rfl, hl4, hS5, SlAt.nil⟩
end Go.Proofs.Ytdmefifamlpbiaa
