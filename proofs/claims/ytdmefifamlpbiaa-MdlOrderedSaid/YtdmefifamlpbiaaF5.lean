/- What functions of the program come to, each by a plain one. Conditions: none. -/
import Derived.Test.YtdmefifamlpbiaaF4
set_option maxRecDepth 100000
namespace Go.Proofs.Ytdmefifamlpbiaa
open Go.Gv
noncomputable def registrarlaw21_together (p0 : mdl_Locks) (p1 : ByteArray) : Option Bool := (mdl_Locks_Holders p0 p1).bind (fun (r8 : List Int) => (forN (fun (i12 : Nat) => fun (_s : Unit) => (loopO (fun (s22 : Int) => (bif (decide (s22 < (i12 : Int))) then (idx r8 (i12 : Int)).bind (fun (x29 : Int) => (registrarlaw21_mode p0 x29 p1).bind (fun (r37 : Int) => (idx r8 s22).bind (fun (x38 : Int) => (registrarlaw21_mode p0 x38 p1).bind (fun (r46 : Int) => (mdl_Goes r37 r46).bind (fun (r52 : Bool) => (bif (!r52) then some (.inr (.inl false)) else some (.inl (w64 (s22 + 1))))))))) else some (.inr (.inr ())))) 0).bind (fun (t : Bool ⊕ Unit) => match t with | (.inl s54) => some (.inr s54) | (.inr ()) => some (.inl ()))) r8.length 0 ()).bind (fun (t : Unit ⊕ (Bool)) => match t with | .inl _ => (mdl_Locks_Waiters p0 p1).bind (fun (r67 : List Int) => (bif ((r67.length : Int) == 0) then some (decide ((r8.length : Int) > 0)) else (idx r67 0).bind (fun (x68 : Int) => (mdl_Locks_Waits p0 x68).bind (fun ((r76, r77) : api_Need × Bool) => (forE (fun (i88 : Nat) => fun (s87 : Bool) => ((bif s87 then some true else (idx r8 (i88 : Int)).bind (fun (x103 : Int) => (registrarlaw21_mode p0 x103 p1).bind (fun (r111 : Int) => (mdl_Goes r111 r76.Mode).bind (fun (r117 : Bool) => some (!r117)))))).bind (fun (j99 : Bool) => some j99)) r8.length 0 false).bind (fun (s87 : Bool) => some ((r77 && (sEq r76.Path p1)) && s87)))))) | .inr s56 => some s56))
set_option maxHeartbeats 1000000 in
theorem registrarlaw21_together_ok {E w : World} {I : Mem} {Os : List Mem} {p0 : mdl_Locks} {p1 : ByteArray} {b_p0 : Nat} {w_p0 : W_mdl_Locks} (h_p0 : ok_mdl_Locks I p0 w_p0) (hS : St E w I ((Gv.one b_p0 (.cells (cs_mdl_Locks p0 w_p0).toArray 56 (0, 0))) :: (w_p0.at_.C) :: Os)) {r : Bool} (hr : registrarlaw21_together p0 p1 = some r) :
    Calls P 17 #[(.pointer (some ⟨b_p0, 0, none⟩)), (.string p1)] w (fun e w' => ∃ (I' : Mem), e = .returned (.bool r) ∧ I.Le I' ∧ St E w' I' ((Gv.one b_p0 (.cells (cs_mdl_Locks p0 w_p0).toArray 56 (0, 0))) :: w_p0.at_.C :: Os)) := by
  refine calls_W (args := [(.pointer (some ⟨b_p0, 0, none⟩)), (.string p1)]) (fn := Try.f17) rfl rfl rfl ?_
  unfold registrarlaw21_together at hr
  refine W.seq ?_
  refine W.region (l := [0]) (by kernel_rfl) ?_
  refine WO.vals [(0, 4, (.bool false))] (by kernel_rfl) (fun _ => by kernel_rfl) ?_
  refine WO.nil ?_
  refine En.next ?_
  refine W.seq ?_
  refine W.region (l := [0, 1, 2, 3]) (by kernel_rfl) ?_
  refine WO.vals [(0, 13, (.pointer (some ⟨b_p0, 0, none⟩))), (1, 14, (.string p1))] (by kernel_rfl) (fun _ => by kernel_rfl) ?_
  have hS1 := hS.front1
  have hS2 := hS1.front1
  obtain ⟨r8, hx_r3, hr⟩ := bind_some hr
  refine WO.call rfl (by kernel_rfl) rfl (f := 27) (args := #[(.pointer (some ⟨b_p0, 0, none⟩)), (.string p1)]) (by kernel_rfl) (mdl_Locks_Holders_ok h_p0 hS2 hx_r3) ?_
  rintro _ w4 ⟨I5, a_r8, c_r8, rfl, hl6, hS7, h_r8⟩
  refine ⟨_, rfl, trivial, ?_⟩
  refine WO.vals [(3, 5, (.slice a_r8 r8.length c_r8))] (by kernel_rfl) (fun _ => by kernel_rfl) ?_
  refine WO.nil ?_
  refine En.next ?_
  refine W.seq ?_
  refine W.seq ?_
  refine W.region (l := [0]) (by kernel_rfl) ?_
  refine WO.vals [(0, 6, (.int .i64 0))] (by kernel_rfl) (fun _ => by kernel_rfl) ?_
  refine WO.nil ?_
  refine En.next ?_
  refine W.block ?_
  obtain ⟨t9, hloop13, hr⟩ := bind_some hr
  have hlt17 := (h_r8).len_lt
  refine W.weaken (fr' := [(0, (.pointer (some ⟨b_p0, 0, none⟩))), (1, (.string p1)), (5, (.slice a_r8 r8.length c_r8)), (6, (.int .i64 ((0 : Nat) : Int)))]) (W.forN (m := r8.length) hloop13 (fun (i12 : Nat) => fun (_s : Unit) fr w => ∃ (I10 : Mem), fr = [(0, (.pointer (some ⟨b_p0, 0, none⟩))), (1, (.string p1)), (5, (.slice a_r8 r8.length c_r8)), (6, (.int .i64 (i12 : Int)))] ∧ I5.Le I10 ∧ St E w I10 ((Gv.one b_p0 (.cells (cs_mdl_Locks p0 w_p0).toArray 56 (0, 0))) :: (w_p0.at_.C) :: Os)) ⟨I5, rfl, Mem.Le.refl _, hS7⟩ ?roundt9 ?lastt9) (Sub.cons rfl (Sub.cons rfl (Sub.cons rfl (Sub.cons rfl Sub.nil))))
  case roundt9 =>
    rintro i12 _ _ w14 hi18 ⟨I10, rfl, hl11, hS15⟩ x16 hr1 hext9
    refine W.seq ?_
    refine W.seq ?_
    refine W.region (l := [0, 1, 2, 3]) (by kernel_rfl) ?_
    refine WO.vals [(0, 16, (.int .i64 (i12 : Int))), (1, 17, (.slice a_r8 r8.length c_r8)), (2, 18, (.int .i64 (r8.length : Int))), (3, 19, (.bool (decide ((i12 : Int) < (r8.length : Int)))))] (by kernel_rfl) (fun _ => by kernel_rfl) ?_
    refine WO.nil ?_
    refine En.next ?_
    refine W.cond (b := (decide ((i12 : Int) < (r8.length : Int)))) rfl rfl (fun hc => ?_) (fun hc => ?_)
    rotate_left
    · exact absurd hc (by first | (simp; done) | (simp; omega))
    clear hc
    refine W.skip ?_
    refine En.next ?_
    refine W.seq ?_
    refine W.block ?_
    refine W.seq ?_
    refine W.region (l := [0]) (by kernel_rfl) ?_
    refine WO.vals [(0, 7, (.int .i64 0))] (by kernel_rfl) (fun _ => by kernel_rfl) ?_
    refine WO.nil ?_
    refine En.next ?_
    refine W.block ?_
    obtain ⟨t19, hloop23, hr1⟩ := bind_some hr1
    refine W.weaken (fr' := [(0, (.pointer (some ⟨b_p0, 0, none⟩))), (1, (.string p1)), (5, (.slice a_r8 r8.length c_r8)), (6, (.int .i64 (i12 : Int))), (7, (.int .i64 0))]) (W.loopO hloop23 (fun (s22 : Int) fr w => ∃ (I20 : Mem), fr = [(0, (.pointer (some ⟨b_p0, 0, none⟩))), (1, (.string p1)), (5, (.slice a_r8 r8.length c_r8)), (6, (.int .i64 (i12 : Int))), (7, (.int .i64 s22))] ∧ I10.Le I20 ∧ St E w I20 ((Gv.one b_p0 (.cells (cs_mdl_Locks p0 w_p0).toArray 56 (0, 0))) :: (w_p0.at_.C) :: Os)) ⟨I10, rfl, Mem.Le.refl _, hS15⟩ ?_) (Sub.cons rfl (Sub.cons rfl (Sub.cons rfl (Sub.cons rfl (Sub.cons rfl Sub.nil)))))
    rintro s22 _ w24 ⟨I20, rfl, hl21, hS25⟩ x26 hr2 hext19
    refine W.seq ?_
    refine W.seq ?_
    refine W.region (l := [0, 1, 2]) (by kernel_rfl) ?_
    refine WO.vals [(0, 22, (.int .i64 s22)), (1, 23, (.int .i64 (i12 : Int))), (2, 24, (.bool (decide (s22 < (i12 : Int)))))] (by kernel_rfl) (fun _ => by kernel_rfl) ?_
    refine WO.nil ?_
    refine En.next ?_
    refine W.cond (b := (decide (s22 < (i12 : Int)))) rfl rfl (fun hc => ?_) (fun hc => ?_)
    · replace hr2 := cond_t hc hr2
      refine W.skip ?_
      refine En.next ?_
      refine W.seq ?_
      refine W.block ?_
      refine W.seq ?_
      have hS27 := hS25.drew
      refine W.draw (l := [0, 1, 2, 3, 4, 5, 6, 7, 8, 9, 10, 11, 12, 13, 14, 15]) (by kernel_rfl) 13 (KR I20 []) qR (.back (by kernel_rfl)) (by kernel_rfl) (KR.nil hS27.im) ?_
      generalize World.drew _ = w28 at *
      refine WO.vals [(0, 27, (.pointer (some ⟨b_p0, 0, none⟩))), (1, 28, (.slice a_r8 r8.length c_r8)), (2, 29, (.int .i64 (i12 : Int)))] (by kernel_rfl) (fun _ => by kernel_rfl) ?_
      obtain ⟨x29, hx_x29, hr2⟩ := bind_some hr2
      obtain ⟨h0_x29, h1_x29, hx_x29⟩ := idx_some hx_x29
      obtain ⟨ha_x29, cs_x29, hn_x29, hr_x29, hc_x29⟩ := ((RSl.mono h_r8 (hl11.trans hl21))).el _ _ hx_x29
      obtain rfl := hr_x29
      refine WO.indexAddr (e := 3) (sz := 1) rfl (by kernel_rfl) (by kernel_rfl) (by kernel_rfl) rfl ha_x29 rfl h0_x29 h1_x29 ?_
      refine WO.load rfl (by kernel_rfl) (by kernel_rfl) rfl (v := (.int .i64 x29)) (fun w' hw' => hc_x29.cell0 (by kernel_rfl) ((rd_i hS27.im) w' hw')) ?_
      refine WO.vals [(5, 32, (.string p1))] (by kernel_rfl) (fun _ => by kernel_rfl) ?_
      have hS30 := hS27.front1
      have hS31 := hS30.front1
      obtain ⟨r37, hx_r32, hr2⟩ := bind_some hr2
      refine WO.call rfl (by kernel_rfl) rfl (f := 31) (args := #[(.pointer (some ⟨b_p0, 0, none⟩)), (.int .i64 x29), (.string p1)]) (by kernel_rfl) (registrarlaw21_mode_ok (h_p0.mono ((hl6.trans hl11).trans hl21)) hS31 hx_r32) ?_
      rintro _ w33 ⟨I34, rfl, hl35, hS36⟩
      refine ⟨_, rfl, (KR.nil (hS36.im.of_le hl35)), ?_⟩
      refine WO.vals [(7, 34, (.pointer (some ⟨b_p0, 0, none⟩))), (8, 35, (.slice a_r8 r8.length c_r8)), (9, 36, (.int .i64 s22))] (by kernel_rfl) (fun _ => by kernel_rfl) ?_
      obtain ⟨x38, hx_x38, hr2⟩ := bind_some hr2
      obtain ⟨h0_x38, h1_x38, hx_x38⟩ := idx_some hx_x38
      obtain ⟨ha_x38, cs_x38, hn_x38, hr_x38, hc_x38⟩ := ((RSl.mono h_r8 (hl11.trans hl21))).el _ _ hx_x38
      obtain rfl := hr_x38
      refine WO.indexAddr (e := 3) (sz := 1) rfl (by kernel_rfl) (by kernel_rfl) (by kernel_rfl) rfl ha_x38 rfl h0_x38 h1_x38 ?_
      refine WO.load rfl (by kernel_rfl) (by kernel_rfl) rfl (v := (.int .i64 x38)) (fun w' hw' => hc_x38.cell0 (by kernel_rfl) ((rd_i (hS36.im.of_le hl35)) w' hw')) ?_
      refine WO.vals [(12, 39, (.string p1))] (by kernel_rfl) (fun _ => by kernel_rfl) ?_
      refine WO.tail rfl ?_
      have hS39 := hS36.front1
      have hS40 := hS39.front1
      obtain ⟨r46, hx_r41, hr2⟩ := bind_some hr2
      refine WO.call rfl (by kernel_rfl) rfl (f := 31) (args := #[(.pointer (some ⟨b_p0, 0, none⟩)), (.int .i64 x38), (.string p1)]) (by kernel_rfl) (registrarlaw21_mode_ok (h_p0.mono (((hl6.trans hl11).trans hl21).trans hl35)) hS40 hx_r41) ?_
      rintro _ w42 ⟨I43, rfl, hl44, hS45⟩
      refine ⟨_, rfl, trivial, ?_⟩
      obtain ⟨r52, hx_r47, hr2⟩ := bind_some hr2
      refine WO.call rfl (by kernel_rfl) rfl (f := 15) (args := #[(.int .i64 r37), (.int .i64 r46)]) (by kernel_rfl) (mdl_Goes_ok  hS45 hx_r47) ?_
      rintro _ w48 ⟨I49, rfl, hl50, hS51⟩
      refine ⟨_, rfl, trivial, ?_⟩
      refine WO.vals [(15, 42, (.bool (!r52)))] (by kernel_rfl) (fun _ => by kernel_rfl) ?_
      refine WO.nil ?_
      refine En.next ?_
      refine W.cond (b := (!r52)) rfl rfl (fun hc => ?_) (fun hc => ?_)
      · replace hr2 := cond_t hc hr2
        refine W.seq ?_
        refine W.region (l := [0]) (by kernel_rfl) ?_
        refine WO.vals [(0, 4, (.bool false))] (by kernel_rfl) (fun _ => by kernel_rfl) ?_
        refine WO.nil ?_
        refine En.next ?_
        refine W.ret ?_
        refine En.in_ret ?_
        refine En.nx_ret ?_
        refine En.rd_ret ?_
        have ht := hext19 _ (Option.some.inj hr2).symm
        subst t19
        refine En.in_ret ?_
        refine En.in_ret ?_
        refine En.nx_ret ?_
        refine En.rd_ret ?_
        have ht := hext9 _ (Option.some.inj hr1).symm
        subst t9
        refine En.in_ret ?_
        refine En.nx_ret ?_
        have he := Option.some.inj hr
        subst r
        exact En.ret1 rfl (.bool false) rfl ⟨I49, rfl, (((((hl6.trans hl11).trans hl21).trans hl35).trans hl44).trans hl50), hS51⟩
      · replace hr2 := cond_f hc hr2
        refine W.skip ?_
        refine En.in_normal ?_
        refine En.next ?_
        refine W.region (l := [0, 1, 2]) (by kernel_rfl) ?_
        refine WO.vals [(0, 25, (.int .i64 s22)), (1, 26, (.int .i64 (w64 (s22 + 1)))), (2, 7, (.int .i64 (w64 (s22 + 1))))] (by kernel_rfl) (fun _ => by kernel_rfl) ?_
        refine WO.nil ?_
        refine En.weaken (fr' := [(0, (.pointer (some ⟨b_p0, 0, none⟩))), (1, (.string p1)), (5, (.slice a_r8 r8.length c_r8)), (6, (.int .i64 (i12 : Int))), (7, (.int .i64 (w64 (s22 + 1))))]) (En.round ⟨(w64 (s22 + 1)), (Option.some.inj hr2).symm, I49, rfl, (((hl21.trans hl35).trans hl44).trans hl50), hS51⟩) (Sub.cons rfl (Sub.cons rfl (Sub.cons rfl (Sub.cons rfl (Sub.cons rfl Sub.nil)))))
    · replace hr2 := cond_f hc hr2
      refine W.exit ?_
      refine En.nx_exit ?_
      refine En.rd_exit ?_
      have ht := hext19 _ (Option.some.inj hr2).symm
      subst t19
      refine En.in_hit ?_
      refine En.in_normal ?_
      refine En.next ?_
      refine W.region (l := [0, 1, 2]) (by kernel_rfl) ?_
      refine WO.vals [(0, 20, (.int .i64 (i12 : Int)))] (by kernel_rfl) (fun _ => by kernel_rfl) ?_
      refine WO.incr (j := i12) rfl (by kernel_rfl) rfl (by omega) ?_
      refine WO.vals [(2, 6, (.int .i64 ((i12 + 1 : Nat) : Int)))] (by kernel_rfl) (fun _ => by kernel_rfl) ?_
      refine WO.nil ?_
      refine En.weaken (fr' := [(0, (.pointer (some ⟨b_p0, 0, none⟩))), (1, (.string p1)), (5, (.slice a_r8 r8.length c_r8)), (6, (.int .i64 ((i12 + 1 : Nat) : Int)))]) (En.round ⟨(), (Option.some.inj hr1).symm, I20, rfl, (hl11.trans hl21), hS25⟩) (Sub.cons rfl (Sub.cons rfl (Sub.cons rfl (Sub.cons rfl Sub.nil))))
  case lastt9 =>
    rintro _ _ w58 ⟨I10, rfl, hl11, hS59⟩ he
    cases he
    refine W.seq ?_
    refine W.seq ?_
    refine W.region (l := [0, 1, 2, 3]) (by kernel_rfl) ?_
    refine WO.vals [(0, 16, (.int .i64 (r8.length : Int))), (1, 17, (.slice a_r8 r8.length c_r8)), (2, 18, (.int .i64 (r8.length : Int))), (3, 19, (.bool (decide ((r8.length : Int) < (r8.length : Int)))))] (by kernel_rfl) (fun _ => by kernel_rfl) ?_
    refine WO.nil ?_
    refine En.next ?_
    refine W.cond (b := (decide ((r8.length : Int) < (r8.length : Int)))) rfl rfl (fun hc => ?_) (fun hc => ?_)
    · exact absurd hc (by first | (simp; done) | (simp; omega))
    clear hc
    refine W.exit ?_
    refine En.nx_exit ?_
    refine En.rd_exit ?_
    refine En.in_hit ?_
    refine En.next ?_
    refine W.seq ?_
    refine W.region (l := [0, 1, 2, 3]) (by kernel_rfl) ?_
    refine WO.vals [(0, 43, (.pointer (some ⟨b_p0, 0, none⟩))), (1, 44, (.string p1))] (by kernel_rfl) (fun _ => by kernel_rfl) ?_
    have hS60 := hS59.front1
    have hS61 := hS60.front1
    obtain ⟨r67, hx_r62, hr⟩ := bind_some hr
    refine WO.call rfl (by kernel_rfl) rfl (f := 12) (args := #[(.pointer (some ⟨b_p0, 0, none⟩)), (.string p1)]) (by kernel_rfl) (mdl_Locks_Waiters_ok (h_p0.mono (hl6.trans hl11)) hS61 hx_r62) ?_
    rintro _ w63 ⟨I64, a_r67, c_r67, rfl, hl65, hS66, h_r67⟩
    refine ⟨_, rfl, trivial, ?_⟩
    refine WO.vals [(3, 8, (.slice a_r67 r67.length c_r67))] (by kernel_rfl) (fun _ => by kernel_rfl) ?_
    refine WO.nil ?_
    refine En.next ?_
    refine W.seq ?_
    refine W.seq ?_
    refine W.region (l := [0, 1, 2]) (by kernel_rfl) ?_
    refine WO.vals [(0, 46, (.slice a_r67 r67.length c_r67)), (1, 47, (.int .i64 (r67.length : Int))), (2, 48, (.bool ((r67.length : Int) == 0)))] (by kernel_rfl) (fun _ => by kernel_rfl) ?_
    refine WO.nil ?_
    refine En.next ?_
    refine W.cond (b := ((r67.length : Int) == 0)) rfl rfl (fun hc => ?_) (fun hc => ?_)
    · replace hr := cond_t hc hr
      refine W.seq ?_
      refine W.region (l := [0, 1, 2, 3]) (by kernel_rfl) ?_
      refine WO.vals [(0, 49, (.slice a_r8 r8.length c_r8)), (1, 50, (.int .i64 (r8.length : Int))), (2, 51, (.bool (decide ((r8.length : Int) > 0)))), (3, 4, (.bool (decide ((r8.length : Int) > 0))))] (by kernel_rfl) (fun _ => by kernel_rfl) ?_
      refine WO.nil ?_
      refine En.next ?_
      refine W.ret ?_
      refine En.nx_ret ?_
      have he := Option.some.inj hr
      subst r
      exact En.ret1 rfl (.bool (decide ((r8.length : Int) > 0))) rfl ⟨I64, rfl, ((hl6.trans hl11).trans hl65), hS66⟩
    · replace hr := cond_f hc hr
      refine W.skip ?_
      refine En.next ?_
      refine W.seq ?_
      refine W.region (l := [0, 1, 2, 3, 4, 5, 6, 7, 8, 9, 10]) (by kernel_rfl) ?_
      refine WO.vals [(0, 53, (.pointer (some ⟨b_p0, 0, none⟩))), (1, 54, (.slice a_r67 r67.length c_r67))] (by kernel_rfl) (fun _ => by kernel_rfl) ?_
      obtain ⟨x68, hx_x68, hr⟩ := bind_some hr
      obtain ⟨h0_x68, h1_x68, hx_x68⟩ := idx_some hx_x68
      obtain ⟨ha_x68, cs_x68, hn_x68, hr_x68, hc_x68⟩ := (h_r67).el _ _ hx_x68
      obtain rfl := hr_x68
      refine WO.indexAddr (e := 3) (sz := 1) rfl (by kernel_rfl) (by kernel_rfl) (by kernel_rfl) rfl ha_x68 rfl h0_x68 h1_x68 ?_
      refine WO.load rfl (by kernel_rfl) (by kernel_rfl) rfl (v := (.int .i64 x68)) (fun w' hw' => hc_x68.cell0 (by kernel_rfl) ((rd_f hS66.im) w' hw')) ?_
      have hS69 := hS66.front1
      have hS70 := hS69.front1
      obtain ⟨⟨r76, r77⟩, hx_r71, hr⟩ := bind_some hr
      refine WO.call rfl (by kernel_rfl) rfl (f := 20) (args := #[(.pointer (some ⟨b_p0, 0, none⟩)), (.int .i64 x68)]) (by kernel_rfl) (mdl_Locks_Waits_ok (h_p0.mono ((hl6.trans hl11).trans hl65)) hS70 hx_r71) ?_
      rintro _ w72 ⟨I73, rfl, hl74, hS75⟩
      refine ⟨_, rfl, trivial, ?_⟩
      refine WO.vals [(5, 52, (.tuple #[(.agg (cs_api_Need r76).toArray), (.bool r77)])), (6, 58, (.agg (cs_api_Need r76).toArray)), (7, 59, (.bool r77))] (by kernel_rfl) (fun _ => by kernel_rfl) ?_
      refine WO.new hS75 rfl (by kernel_rfl) rfl (.cells (cs_api_Need z_api_Need).toArray 43 (0, 0)) (fun b => .pointer (some ⟨b, 0, none⟩)) (by kernel_rfl) (fun _ _ _ => trivial) ?_
      intro b78 w81 hS80
      refine WO.storeBox hS80 rfl (by kernel_rfl) rfl 0 rfl rfl (by kernel_rfl) (by kernel_rfl) (by kernel_rfl) ((cs_api_Need r76).toArray) (by kernel_rfl) (fun _ _ => trivial) ?_
      intro w83 hS82
      refine WO.vals [(10, 10, (.bool r77))] (by kernel_rfl) (fun _ => by kernel_rfl) ?_
      refine WO.nil ?_
      refine En.next ?_
      refine W.seq ?_
      refine W.region (l := [0]) (by kernel_rfl) ?_
      refine WO.vals [(0, 11, (.bool false))] (by kernel_rfl) (fun _ => by kernel_rfl) ?_
      refine WO.nil ?_
      refine En.next ?_
      refine W.seq ?_
      refine W.seq ?_
      refine W.region (l := [0]) (by kernel_rfl) ?_
      refine WO.vals [(0, 12, (.int .i64 0))] (by kernel_rfl) (fun _ => by kernel_rfl) ?_
      refine WO.nil ?_
      refine En.next ?_
      refine W.block ?_
      obtain ⟨s87, hloop89, hr⟩ := bind_some hr
      have hS90 := hS82.front2
      have hS91 := hS90.front2
      have hlt95 := ((RSl.mono h_r8 ((hl11.trans hl65).trans hl74))).len_lt
      refine W.weaken (fr' := [(0, (.pointer (some ⟨b_p0, 0, none⟩))), (1, (.string p1)), (5, (.slice a_r8 r8.length c_r8)), (9, (.pointer (some ⟨b78, 0, none⟩))), (10, (.bool r77)), (11, (.bool false)), (12, (.int .i64 ((0 : Nat) : Int)))]) (W.forE (m := r8.length) hloop89 (fun (i88 : Nat) => fun (s87 : Bool) fr w => ∃ (I85 : Mem), fr = [(0, (.pointer (some ⟨b_p0, 0, none⟩))), (1, (.string p1)), (5, (.slice a_r8 r8.length c_r8)), (9, (.pointer (some ⟨b78, 0, none⟩))), (10, (.bool r77)), (11, (.bool s87)), (12, (.int .i64 (i88 : Int)))] ∧ I73.Le I85 ∧ St E w I85 ((Gv.one b_p0 (.cells (cs_mdl_Locks p0 w_p0).toArray 56 (0, 0))) :: (w_p0.at_.C) :: (Gv.one b78 (.cells (cs_api_Need r76).toArray 43 (0, 0))) :: Os)) ⟨I73, rfl, Mem.Le.refl _, hS91⟩ ?roundt84 ?lastt84) (Sub.cons rfl (Sub.cons rfl (Sub.cons rfl (Sub.cons rfl (Sub.cons rfl (Sub.cons rfl (Sub.cons rfl Sub.nil)))))))
      case roundt84 =>
        rintro i88 s87 _ w92 hi96 ⟨I85, rfl, hl86, hS93⟩ x94 hr1
        refine W.seq ?_
        refine W.seq ?_
        refine W.region (l := [0, 1, 2, 3]) (by kernel_rfl) ?_
        refine WO.vals [(0, 60, (.int .i64 (i88 : Int))), (1, 61, (.slice a_r8 r8.length c_r8)), (2, 62, (.int .i64 (r8.length : Int))), (3, 63, (.bool (decide ((i88 : Int) < (r8.length : Int)))))] (by kernel_rfl) (fun _ => by kernel_rfl) ?_
        refine WO.nil ?_
        refine En.next ?_
        refine W.cond (b := (decide ((i88 : Int) < (r8.length : Int)))) rfl rfl (fun hc => ?_) (fun hc => ?_)
        rotate_left
        · exact absurd hc (by first | (simp; done) | (simp; omega))
        clear hc
        refine W.skip ?_
        refine En.next ?_
        refine W.seq ?_
        refine W.block ?_
        have hS97 := hS93.drew
        refine W.draw (l := [0, 1, 2, 3, 4, 5, 6, 7, 8, 9, 10, 11, 12, 13, 14]) (by kernel_rfl) 14 (KR I85 [Gv.one b78 (.cells (cs_api_Need r76).toArray 43 (0, 0))]) qR (.back (by kernel_rfl)) (by kernel_rfl) (KR.cons (hS97.rd (List.Mem.tail _ (List.Mem.tail _ (List.Mem.head _)))) (KR.nil hS97.im)) ?_
        generalize World.drew _ = w98 at *
        refine WO.vals [(0, 66, (.bool s87)), (1, 67, (.bool s87))] (by kernel_rfl) (fun _ => by kernel_rfl) ?_
        obtain ⟨j99, hr2, hr1⟩ := bind_some hr1
        refine WO.join (l1 := [2, 3, 4, 5, 6, 7, 8, 9, 10, 11, 12, 13]) (l2 := [14]) (J := (fun fr w => ∃ (I101 : Mem), fr = [(0, (.pointer (some ⟨b_p0, 0, none⟩))), (1, (.string p1)), (5, (.slice a_r8 r8.length c_r8)), (9, (.pointer (some ⟨b78, 0, none⟩))), (10, (.bool r77)), (12, (.int .i64 (i88 : Int))), (79, (.bool j99))] ∧ I85.Le I101 ∧ St E w I101 ((Gv.one b_p0 (.cells (cs_mdl_Locks p0 w_p0).toArray 56 (0, 0))) :: (w_p0.at_.C) :: (Gv.one b78 (.cells (cs_api_Need r76).toArray 43 (0, 0))) :: Os))) ?restj99 ?waysj99
        case waysj99 =>
          refine WO.caseb s87 (fun hc => ?_) (fun hc => ?_)
          · replace hr2 := cond_t hc hr2
            refine WO.reslot 67 rfl (show Value.bool s87 = Value.bool true by rw [hc]) ?_
            refine WO.pass rfl (by kernel_rfl) rfl ?_
            refine WO.pass rfl (by kernel_rfl) rfl ?_
            refine WO.pass rfl (by kernel_rfl) rfl ?_
            refine WO.pass rfl (by kernel_rfl) rfl ?_
            refine WO.pass rfl (by kernel_rfl) rfl ?_
            refine WO.pass rfl (by kernel_rfl) rfl ?_
            refine WO.pass rfl (by kernel_rfl) rfl ?_
            refine WO.pass rfl (by kernel_rfl) rfl ?_
            refine WO.pass rfl (by kernel_rfl) rfl ?_
            refine WO.pass rfl (by kernel_rfl) rfl ?_
            refine WO.pass rfl (by kernel_rfl) rfl ?_
            refine WO.vals [(13, 79, (.bool true))] (by kernel_rfl) (fun _ => by kernel_rfl) ?_
            have he := Option.some.inj hr2
            subst j99
            refine WO.weaken (fr' := [(0, (.pointer (some ⟨b_p0, 0, none⟩))), (1, (.string p1)), (5, (.slice a_r8 r8.length c_r8)), (9, (.pointer (some ⟨b78, 0, none⟩))), (10, (.bool r77)), (12, (.int .i64 (i88 : Int))), (79, (.bool true))]) (WO.meet ⟨I85, rfl, Mem.Le.refl _, hS97⟩) (Sub.cons rfl (Sub.cons rfl (Sub.cons rfl (Sub.cons rfl (Sub.cons rfl (Sub.cons rfl (Sub.cons rfl Sub.nil)))))))
          · replace hr2 := cond_f hc hr2
            refine WO.reslot 67 rfl (show Value.bool s87 = Value.bool false by rw [hc]) ?_
            refine WO.vals [(2, 68, (.pointer (some ⟨b_p0, 0, none⟩))), (3, 69, (.slice a_r8 r8.length c_r8)), (4, 70, (.int .i64 (i88 : Int)))] (by kernel_rfl) (fun _ => by kernel_rfl) ?_
            obtain ⟨x103, hx_x103, hr2⟩ := bind_some hr2
            obtain ⟨h0_x103, h1_x103, hx_x103⟩ := idx_some hx_x103
            obtain ⟨ha_x103, cs_x103, hn_x103, hr_x103, hc_x103⟩ := ((RSl.mono h_r8 (((hl11.trans hl65).trans hl74).trans hl86))).el _ _ hx_x103
            obtain rfl := hr_x103
            refine WO.indexAddr (e := 3) (sz := 1) rfl (by kernel_rfl) (by kernel_rfl) (by kernel_rfl) rfl ha_x103 rfl h0_x103 h1_x103 ?_
            refine WO.load rfl (by kernel_rfl) (by kernel_rfl) rfl (v := (.int .i64 x103)) (fun w' hw' => hc_x103.cell0 (by kernel_rfl) ((rd_i hS97.im) w' hw')) ?_
            refine WO.vals [(7, 73, (.string p1))] (by kernel_rfl) (fun _ => by kernel_rfl) ?_
            have hS104 := hS97.front1
            have hS105 := hS104.front1
            obtain ⟨r111, hx_r106, hr2⟩ := bind_some hr2
            refine WO.call rfl (by kernel_rfl) rfl (f := 31) (args := #[(.pointer (some ⟨b_p0, 0, none⟩)), (.int .i64 x103), (.string p1)]) (by kernel_rfl) (registrarlaw21_mode_ok (h_p0.mono ((((hl6.trans hl11).trans hl65).trans hl74).trans hl86)) hS105 hx_r106) ?_
            rintro _ w107 ⟨I108, rfl, hl109, hS110⟩
            refine ⟨_, rfl, (KR.cons (hS110.rd (List.Mem.tail _ (List.Mem.tail _ (List.Mem.head _)))) (KR.nil (hS110.im.of_le hl109))), ?_⟩
            refine WO.vals [(9, 75, (.pointer (some ⟨b78, 1, none⟩)))] (by kernel_rfl) (fun _ => by kernel_rfl) ?_
            refine WO.load rfl (by kernel_rfl) (by kernel_rfl) rfl (v := (.int .i64 r76.Mode)) (fun w' hw' => cell_one ((rd_c (List.Mem.head _) (hS110.rd (List.Mem.tail _ (List.Mem.tail _ (List.Mem.head _))))) w' hw') (by kernel_rfl)) ?_
            obtain ⟨r117, hx_r112, hr2⟩ := bind_some hr2
            refine WO.call rfl (by kernel_rfl) rfl (f := 15) (args := #[(.int .i64 r111), (.int .i64 r76.Mode)]) (by kernel_rfl) (mdl_Goes_ok  hS110 hx_r112) ?_
            rintro _ w113 ⟨I114, rfl, hl115, hS116⟩
            refine ⟨_, rfl, (KR.cons (hS116.rd (List.Mem.tail _ (List.Mem.tail _ (List.Mem.head _)))) (KR.nil (hS116.im.of_le (hl109.trans hl115)))), ?_⟩
            refine WO.vals [(12, 78, (.bool (!r117))), (13, 79, (.bool (!r117)))] (by kernel_rfl) (fun _ => by kernel_rfl) ?_
            have he := Option.some.inj hr2
            subst j99
            refine WO.weaken (fr' := [(0, (.pointer (some ⟨b_p0, 0, none⟩))), (1, (.string p1)), (5, (.slice a_r8 r8.length c_r8)), (9, (.pointer (some ⟨b78, 0, none⟩))), (10, (.bool r77)), (12, (.int .i64 (i88 : Int))), (79, (.bool (!r117)))]) (WO.meet ⟨I114, rfl, (hl109.trans hl115), hS116⟩) (Sub.cons rfl (Sub.cons rfl (Sub.cons rfl (Sub.cons rfl (Sub.cons rfl (Sub.cons rfl (Sub.cons rfl Sub.nil)))))))
        case restj99 =>
          rintro _ w118 ⟨I101, rfl, hl102, hS119⟩
          refine WO.tail rfl ?_
          refine WO.vals [(14, 11, (.bool j99))] (by kernel_rfl) (fun _ => by kernel_rfl) ?_
          refine WO.nil ?_
          refine En.in_normal ?_
          refine En.next ?_
          refine W.region (l := [0, 1, 2]) (by kernel_rfl) ?_
          refine WO.vals [(0, 64, (.int .i64 (i88 : Int)))] (by kernel_rfl) (fun _ => by kernel_rfl) ?_
          refine WO.incr (j := i88) rfl (by kernel_rfl) rfl (by omega) ?_
          refine WO.vals [(2, 12, (.int .i64 ((i88 + 1 : Nat) : Int)))] (by kernel_rfl) (fun _ => by kernel_rfl) ?_
          refine WO.nil ?_
          have he := Option.some.inj hr1
          subst x94
          refine En.weaken (fr' := [(0, (.pointer (some ⟨b_p0, 0, none⟩))), (1, (.string p1)), (5, (.slice a_r8 r8.length c_r8)), (9, (.pointer (some ⟨b78, 0, none⟩))), (10, (.bool r77)), (11, (.bool j99)), (12, (.int .i64 ((i88 + 1 : Nat) : Int)))]) (En.round ⟨I101, rfl, (hl86.trans hl102), hS119⟩) (Sub.cons rfl (Sub.cons rfl (Sub.cons rfl (Sub.cons rfl (Sub.cons rfl (Sub.cons rfl (Sub.cons rfl Sub.nil)))))))
      case lastt84 =>
        rintro _ w120 ⟨I85, rfl, hl86, hS121⟩
        refine W.seq ?_
        refine W.seq ?_
        refine W.region (l := [0, 1, 2, 3]) (by kernel_rfl) ?_
        refine WO.vals [(0, 60, (.int .i64 (r8.length : Int))), (1, 61, (.slice a_r8 r8.length c_r8)), (2, 62, (.int .i64 (r8.length : Int))), (3, 63, (.bool (decide ((r8.length : Int) < (r8.length : Int)))))] (by kernel_rfl) (fun _ => by kernel_rfl) ?_
        refine WO.nil ?_
        refine En.next ?_
        refine W.cond (b := (decide ((r8.length : Int) < (r8.length : Int)))) rfl rfl (fun hc => ?_) (fun hc => ?_)
        · exact absurd hc (by first | (simp; done) | (simp; omega))
        clear hc
        refine W.exit ?_
        refine En.nx_exit ?_
        refine En.rd_exit ?_
        refine En.in_hit ?_
        refine En.next ?_
        refine W.seq ?_
        refine W.region (l := [0, 1, 2, 3, 4, 5, 6, 7, 8, 9, 10]) (by kernel_rfl) ?_
        refine WO.vals [(0, 80, (.bool r77)), (1, 81, (.bool r77))] (by kernel_rfl) (fun _ => by kernel_rfl) ?_
        refine WO.join (l1 := [2, 3, 4, 5, 6]) (l2 := [7, 8, 9, 10]) (J := fun frx wx => frx = [(86, (.bool (r77 && (sEq r76.Path p1)))), (11, (.bool s87))] ∧ w120 = wx) ?restm122 ?waysm122
        case waysm122 =>
          refine WO.caseb r77 (fun hc => ?_) (fun hc => ?_)
          · skip
            refine WO.reslot 81 rfl (show Value.bool r77 = Value.bool true by rw [hc]) ?_
            refine WO.vals [(2, 82, (.pointer (some ⟨b78, 0, none⟩)))] (by kernel_rfl) (fun _ => by kernel_rfl) ?_
            refine WO.load rfl (by kernel_rfl) (by kernel_rfl) rfl (v := (.string r76.Path)) (fun w' hw' => cell_one ((rd_f (hS121.rd (List.Mem.tail _ (List.Mem.tail _ (List.Mem.head _))))) w' hw') (by kernel_rfl)) ?_
            refine WO.vals [(4, 84, (.string p1)), (5, 85, (.bool (sEq r76.Path p1))), (6, 86, (.bool (sEq r76.Path p1)))] (by kernel_rfl) (fun _ => by kernel_rfl) ?_
            refine WO.weaken (fr' := [(86, (.bool (r77 && (sEq r76.Path p1)))), (11, (.bool s87))]) (WO.meet ⟨rfl, rfl⟩) (Sub.cons (by rw [hc]; rfl) (Sub.cons rfl Sub.nil))
          · skip
            refine WO.reslot 81 rfl (show Value.bool r77 = Value.bool false by rw [hc]) ?_
            refine WO.pass rfl (by kernel_rfl) rfl ?_
            refine WO.pass rfl (by kernel_rfl) rfl ?_
            refine WO.pass rfl (by kernel_rfl) rfl ?_
            refine WO.pass rfl (by kernel_rfl) rfl ?_
            refine WO.vals [(6, 86, (.bool false))] (by kernel_rfl) (fun _ => by kernel_rfl) ?_
            refine WO.weaken (fr' := [(86, (.bool (r77 && (sEq r76.Path p1)))), (11, (.bool s87))]) (WO.meet ⟨rfl, rfl⟩) (Sub.cons (by rw [hc]; rfl) (Sub.cons rfl Sub.nil))
        case restm122 =>
          rintro _ _ ⟨rfl, rfl⟩
          refine WO.vals [(7, 87, (.bool (r77 && (sEq r76.Path p1))))] (by kernel_rfl) (fun _ => by kernel_rfl) ?_
          refine WO.join (l1 := [8, 9]) (l2 := [10]) (J := fun frx wx => frx = [(89, (.bool ((r77 && (sEq r76.Path p1)) && s87)))] ∧ w120 = wx) ?restm124 ?waysm124
          case waysm124 =>
            refine WO.caseb (r77 && (sEq r76.Path p1)) (fun hc => ?_) (fun hc => ?_)
            · skip
              refine WO.reslot 87 rfl (show Value.bool (r77 && (sEq r76.Path p1)) = Value.bool true by rw [hc]) ?_
              refine WO.vals [(8, 88, (.bool s87)), (9, 89, (.bool s87))] (by kernel_rfl) (fun _ => by kernel_rfl) ?_
              refine WO.weaken (fr' := [(89, (.bool ((r77 && (sEq r76.Path p1)) && s87)))]) (WO.meet ⟨rfl, rfl⟩) (Sub.cons (by rw [hc]; rfl) Sub.nil)
            · skip
              refine WO.reslot 87 rfl (show Value.bool (r77 && (sEq r76.Path p1)) = Value.bool false by rw [hc]) ?_
              refine WO.pass rfl (by kernel_rfl) rfl ?_
              refine WO.vals [(9, 89, (.bool false))] (by kernel_rfl) (fun _ => by kernel_rfl) ?_
              refine WO.weaken (fr' := [(89, (.bool ((r77 && (sEq r76.Path p1)) && s87)))]) (WO.meet ⟨rfl, rfl⟩) (Sub.cons (by rw [hc]; rfl) Sub.nil)
          case restm124 =>
            rintro _ _ ⟨rfl, rfl⟩
            refine WO.vals [(10, 4, (.bool ((r77 && (sEq r76.Path p1)) && s87)))] (by kernel_rfl) (fun _ => by kernel_rfl) ?_
            refine WO.nil ?_
            refine En.next ?_
            refine W.ret ?_
            have hS126 := hS121.front2
            have hS127 := hS126.drop
            have he := Option.some.inj hr
            subst r
            exact En.ret1 rfl (.bool ((r77 && (sEq r76.Path p1)) && s87)) rfl ⟨I85, rfl, ((((hl6.trans hl11).trans hl65).trans hl74).trans hl86), hS127⟩
noncomputable def registrarlaw21_MdlGoes (p0 : List registrarlaw21_Act) (p1 : Int) (p2 : Int) : Option Bool := (mdl_Goes p1 p2).bind (fun (r6 : Bool) => (registrarref21_Goes p1 p2).bind (fun (r12 : Bool) => ((bif (!(r6 == r12)) then some true else (mdl_Goes p1 p2).bind (fun (r22 : Bool) => (mdl_Goes p2 p1).bind (fun (r28 : Bool) => some (!(r22 == r28)))))).bind (fun (j13 : Bool) => (bif j13 then some false else (mdl_New).bind (fun (r36 : mdl_Locks) => (loopO (fun (s : Int × mdl_Locks) => match s with | (s40, s41) => (bif ((decide (s40 < (p0.length : Int))) && (decide (s40 < 60))) then (idx p0 s40).bind (fun (x48 : registrarlaw21_Act) => (registrarlaw21_long x48).bind (fun (r54 : Bool) => (bif r54 then (registrarlaw21_works).bind (fun (r60 : Bool) => some (.inr (.inl (r60, s41)))) else (idx p0 s40).bind (fun (x68 : registrarlaw21_Act) => (registrarlaw21_act s41 x68).bind (fun (r76 : mdl_Locks) => (mdl_Locks_Paths r76).bind (fun (r84 : List ByteArray) => (forN (fun (i88 : Nat) => fun (_s : Unit) => (idx r84 (i88 : Int)).bind (fun (x95 : ByteArray) => (registrarlaw21_together r76 x95).bind (fun (r103 : Bool) => (bif (!r103) then some (.inr false) else some (.inl ()))))) r84.length 0 ()).bind (fun (t : Unit ⊕ (Bool)) => match t with | .inl _ => some (.inl ((w64 (s40 + 1)), r76)) | .inr s105 => some (.inr (.inl (s105, r76)))))))))) else some (.inr (.inr s41)))) (0, r36)).bind (fun (t : (Bool × mdl_Locks) ⊕ mdl_Locks) => match t with | (.inl (s62, s63)) => some s62 | (.inr s113) => (registrarlaw21_works).bind (fun (r119 : Bool) => some r119)))))))
set_option maxHeartbeats 1000000 in
theorem registrarlaw21_MdlGoes_ok {E w : World} {I : Mem} {Os : List Mem} {p0 : List registrarlaw21_Act} {p1 : Int} {p2 : Int} {a_p0 : Option Addr} {c_p0 : Nat} (h_p0 : RSl 4 R_registrarlaw21_Act I a_p0 c_p0 p0) (hS : St E w I Os) {r : Bool} (hr : registrarlaw21_MdlGoes p0 p1 p2 = some r) :
    Calls P 4 #[(.slice a_p0 p0.length c_p0), (.int .i64 p1), (.int .i64 p2)] w (fun e w' => ∃ (I' : Mem), e = .returned (.bool r) ∧ I.Le I' ∧ St E w' I' Os) := by
  refine calls_W (args := [(.slice a_p0 p0.length c_p0), (.int .i64 p1), (.int .i64 p2)]) (fn := Try.f4) rfl rfl rfl ?_
  unfold registrarlaw21_MdlGoes at hr
  refine W.seq ?_
  refine W.region (l := [0]) (by kernel_rfl) ?_
  refine WO.vals [(0, 6, (.bool false))] (by kernel_rfl) (fun _ => by kernel_rfl) ?_
  refine WO.nil ?_
  refine En.next ?_
  refine W.seq ?_
  refine W.seq ?_
  refine W.region (l := [0, 1, 2, 3, 4, 5, 6, 7, 8, 9, 10, 11, 12, 13, 14, 15]) (by kernel_rfl) ?_
  refine WO.vals [(0, 11, (.int .i64 p1)), (1, 12, (.int .i64 p2))] (by kernel_rfl) (fun _ => by kernel_rfl) ?_
  obtain ⟨r6, hx_r1, hr⟩ := bind_some hr
  refine WO.call rfl (by kernel_rfl) rfl (f := 15) (args := #[(.int .i64 p1), (.int .i64 p2)]) (by kernel_rfl) (mdl_Goes_ok  hS hx_r1) ?_
  rintro _ w2 ⟨I3, rfl, hl4, hS5⟩
  refine ⟨_, rfl, trivial, ?_⟩
  refine WO.vals [(3, 14, (.int .i64 p1)), (4, 15, (.int .i64 p2))] (by kernel_rfl) (fun _ => by kernel_rfl) ?_
  obtain ⟨r12, hx_r7, hr⟩ := bind_some hr
  refine WO.call rfl (by kernel_rfl) rfl (f := 16) (args := #[(.int .i64 p1), (.int .i64 p2)]) (by kernel_rfl) (registrarref21_Goes_ok  hS5 hx_r7) ?_
  rintro _ w8 ⟨I9, rfl, hl10, hS11⟩
  refine ⟨_, rfl, trivial, ?_⟩
  refine WO.vals [(6, 17, (.bool (!(r6 == r12)))), (7, 18, (.bool (!(r6 == r12))))] (by kernel_rfl) (fun _ => by kernel_rfl) ?_
  obtain ⟨j13, hr1, hr⟩ := bind_some hr
  refine WO.join (l1 := [8, 9, 10, 11, 12, 13, 14, 15]) (l2 := []) (J := (fun fr w => ∃ (I15 : Mem), fr = [(0, (.slice a_p0 p0.length c_p0)), (26, (.bool j13))] ∧ I9.Le I15 ∧ St E w I15 Os)) ?restj13 ?waysj13
  case waysj13 =>
    refine WO.caseb (!(r6 == r12)) (fun hc => ?_) (fun hc => ?_)
    · replace hr1 := cond_t hc hr1
      refine WO.reslot 18 rfl (show Value.bool (!(r6 == r12)) = Value.bool true by rw [hc]) ?_
      refine WO.pass rfl (by kernel_rfl) rfl ?_
      refine WO.pass rfl (by kernel_rfl) rfl ?_
      refine WO.pass rfl (by kernel_rfl) rfl ?_
      refine WO.pass rfl (by kernel_rfl) rfl ?_
      refine WO.pass rfl (by kernel_rfl) rfl ?_
      refine WO.pass rfl (by kernel_rfl) rfl ?_
      refine WO.pass rfl (by kernel_rfl) rfl ?_
      refine WO.vals [(15, 26, (.bool true))] (by kernel_rfl) (fun _ => by kernel_rfl) ?_
      have he := Option.some.inj hr1
      subst j13
      refine WO.weaken (fr' := [(0, (.slice a_p0 p0.length c_p0)), (26, (.bool true))]) (WO.meet ⟨I9, rfl, Mem.Le.refl _, hS11⟩) (Sub.cons rfl (Sub.cons rfl Sub.nil))
    · replace hr1 := cond_f hc hr1
      refine WO.reslot 18 rfl (show Value.bool (!(r6 == r12)) = Value.bool false by rw [hc]) ?_
      refine WO.vals [(8, 19, (.int .i64 p1)), (9, 20, (.int .i64 p2))] (by kernel_rfl) (fun _ => by kernel_rfl) ?_
      obtain ⟨r22, hx_r17, hr1⟩ := bind_some hr1
      refine WO.call rfl (by kernel_rfl) rfl (f := 15) (args := #[(.int .i64 p1), (.int .i64 p2)]) (by kernel_rfl) (mdl_Goes_ok  hS11 hx_r17) ?_
      rintro _ w18 ⟨I19, rfl, hl20, hS21⟩
      refine ⟨_, rfl, trivial, ?_⟩
      refine WO.vals [(11, 22, (.int .i64 p2)), (12, 23, (.int .i64 p1))] (by kernel_rfl) (fun _ => by kernel_rfl) ?_
      obtain ⟨r28, hx_r23, hr1⟩ := bind_some hr1
      refine WO.call rfl (by kernel_rfl) rfl (f := 15) (args := #[(.int .i64 p2), (.int .i64 p1)]) (by kernel_rfl) (mdl_Goes_ok  hS21 hx_r23) ?_
      rintro _ w24 ⟨I25, rfl, hl26, hS27⟩
      refine ⟨_, rfl, trivial, ?_⟩
      refine WO.vals [(14, 25, (.bool (!(r22 == r28)))), (15, 26, (.bool (!(r22 == r28))))] (by kernel_rfl) (fun _ => by kernel_rfl) ?_
      have he := Option.some.inj hr1
      subst j13
      refine WO.weaken (fr' := [(0, (.slice a_p0 p0.length c_p0)), (26, (.bool (!(r22 == r28))))]) (WO.meet ⟨I25, rfl, (hl20.trans hl26), hS27⟩) (Sub.cons rfl (Sub.cons rfl Sub.nil))
  case restj13 =>
    rintro _ w29 ⟨I15, rfl, hl16, hS30⟩
    refine WO.nil ?_
    refine En.next ?_
    refine W.cond (b := j13) rfl rfl (fun hc => ?_) (fun hc => ?_)
    · replace hr := cond_t hc hr
      refine W.seq ?_
      refine W.region (l := [0]) (by kernel_rfl) ?_
      refine WO.vals [(0, 6, (.bool false))] (by kernel_rfl) (fun _ => by kernel_rfl) ?_
      refine WO.nil ?_
      refine En.next ?_
      refine W.ret ?_
      refine En.nx_ret ?_
      have he := Option.some.inj hr
      subst r
      exact En.ret1 rfl (.bool false) rfl ⟨I15, rfl, ((hl4.trans hl10).trans hl16), hS30⟩
    · replace hr := cond_f hc hr
      refine W.skip ?_
      refine En.next ?_
      refine W.seq ?_
      refine W.region (l := [0, 1]) (by kernel_rfl) ?_
      obtain ⟨r36, hx_r31, hr⟩ := bind_some hr
      refine WO.call rfl (by kernel_rfl) rfl (f := 8) (args := #[]) (by kernel_rfl) (mdl_New_ok  hS30 hx_r31) ?_
      rintro _ w32 ⟨I33, b_r36, w_r36, rfl, hl34, hS35, h_r36⟩
      refine ⟨_, rfl, trivial, ?_⟩
      refine WO.vals [(1, 7, (.pointer (some ⟨b_r36, 0, none⟩)))] (by kernel_rfl) (fun _ => by kernel_rfl) ?_
      refine WO.nil ?_
      refine En.next ?_
      refine W.seq ?_
      refine W.seq ?_
      refine W.region (l := [0]) (by kernel_rfl) ?_
      refine WO.vals [(0, 8, (.int .i64 0))] (by kernel_rfl) (fun _ => by kernel_rfl) ?_
      refine WO.nil ?_
      refine En.next ?_
      refine W.block ?_
      obtain ⟨t37, hloop42, hr⟩ := bind_some hr
      refine W.weaken (fr' := [(0, (.slice a_p0 p0.length c_p0)), (7, (.pointer (some ⟨b_r36, 0, none⟩))), (8, (.int .i64 0))]) (W.loopO hloop42 (fun (s : Int × mdl_Locks) fr w => match s with | (s40, s41) => ∃ (I38 : Mem), ∃ (w_s41 : W_mdl_Locks), fr = [(0, (.slice a_p0 p0.length c_p0)), (7, (.pointer (some ⟨b_r36, 0, none⟩))), (8, (.int .i64 s40))] ∧ I33.Le I38 ∧ St E w I38 ((Gv.one b_r36 (.cells (cs_mdl_Locks s41 w_s41).toArray 56 (0, 0))) :: (w_s41.at_.C) :: Os) ∧ ok_mdl_Locks I38 s41 w_s41) ⟨I33, w_r36, rfl, Mem.Le.refl _, hS35, h_r36⟩ ?_) (Sub.cons rfl (Sub.cons rfl (Sub.cons rfl Sub.nil)))
      rintro ⟨s40, s41⟩ _ w43 ⟨I38, w_s41, rfl, hl39, hS44, h_s41⟩ x45 hr1 hext37
      refine W.seq ?_
      refine W.seq ?_
      refine W.region (l := [0, 1, 2, 3, 4, 5, 6, 7]) (by kernel_rfl) ?_
      refine WO.vals [(0, 28, (.int .i64 s40)), (1, 29, (.slice a_p0 p0.length c_p0)), (2, 30, (.int .i64 (p0.length : Int))), (3, 31, (.bool (decide (s40 < (p0.length : Int))))), (4, 32, (.bool (decide (s40 < (p0.length : Int)))))] (by kernel_rfl) (fun _ => by kernel_rfl) ?_
      refine WO.join (l1 := [5, 6, 7]) (l2 := []) (J := fun frx wx => frx = [(35, (.bool ((decide (s40 < (p0.length : Int))) && (decide (s40 < 60))))), (0, (.slice a_p0 p0.length c_p0)), (7, (.pointer (some ⟨b_r36, 0, none⟩))), (8, (.int .i64 s40))] ∧ w43 = wx) ?restm46 ?waysm46
      case waysm46 =>
        refine WO.caseb (decide (s40 < (p0.length : Int))) (fun hc => ?_) (fun hc => ?_)
        · skip
          refine WO.reslot 32 rfl (show Value.bool (decide (s40 < (p0.length : Int))) = Value.bool true by rw [hc]) ?_
          refine WO.vals [(5, 33, (.int .i64 s40)), (6, 34, (.bool (decide (s40 < 60)))), (7, 35, (.bool (decide (s40 < 60))))] (by kernel_rfl) (fun _ => by kernel_rfl) ?_
          refine WO.weaken (fr' := [(35, (.bool ((decide (s40 < (p0.length : Int))) && (decide (s40 < 60))))), (0, (.slice a_p0 p0.length c_p0)), (7, (.pointer (some ⟨b_r36, 0, none⟩))), (8, (.int .i64 s40))]) (WO.meet ⟨rfl, rfl⟩) (Sub.cons (by rw [hc]; rfl) (Sub.cons rfl (Sub.cons rfl (Sub.cons rfl Sub.nil))))
        · skip
          refine WO.reslot 32 rfl (show Value.bool (decide (s40 < (p0.length : Int))) = Value.bool false by rw [hc]) ?_
          refine WO.pass rfl (by kernel_rfl) rfl ?_
          refine WO.pass rfl (by kernel_rfl) rfl ?_
          refine WO.vals [(7, 35, (.bool false))] (by kernel_rfl) (fun _ => by kernel_rfl) ?_
          refine WO.weaken (fr' := [(35, (.bool ((decide (s40 < (p0.length : Int))) && (decide (s40 < 60))))), (0, (.slice a_p0 p0.length c_p0)), (7, (.pointer (some ⟨b_r36, 0, none⟩))), (8, (.int .i64 s40))]) (WO.meet ⟨rfl, rfl⟩) (Sub.cons (by rw [hc]; rfl) (Sub.cons rfl (Sub.cons rfl (Sub.cons rfl Sub.nil))))
      case restm46 =>
        rintro _ _ ⟨rfl, rfl⟩
        refine WO.nil ?_
        refine En.next ?_
        refine W.cond (b := ((decide (s40 < (p0.length : Int))) && (decide (s40 < 60)))) rfl rfl (fun hc => ?_) (fun hc => ?_)
        · replace hr1 := cond_t hc hr1
          refine W.skip ?_
          refine En.next ?_
          refine W.seq ?_
          refine W.block ?_
          refine W.seq ?_
          refine W.seq ?_
          refine W.region (l := [0, 1, 2, 3, 4]) (by kernel_rfl) ?_
          refine WO.vals [(0, 38, (.slice a_p0 p0.length c_p0)), (1, 39, (.int .i64 s40))] (by kernel_rfl) (fun _ => by kernel_rfl) ?_
          obtain ⟨x48, hx_x48, hr1⟩ := bind_some hr1
          obtain ⟨h0_x48, h1_x48, hx_x48⟩ := idx_some hx_x48
          obtain ⟨ha_x48, cs_x48, hn_x48, hr_x48, hc_x48⟩ := ((RSl.mono h_p0 ((((hl4.trans hl10).trans hl16).trans hl34).trans hl39))).el _ _ hx_x48
          obtain rfl := hr_x48
          refine WO.indexAddr (e := 27) (sz := 4) rfl (by kernel_rfl) (by kernel_rfl) (by kernel_rfl) rfl ha_x48 rfl h0_x48 h1_x48 ?_
          refine WO.loadN rfl (by kernel_rfl) (by kernel_rfl) rfl ((cs_registrarlaw21_Act x48)) (by kernel_rfl) (fun w' hw' => hc_x48.cells (k := 0) (by kernel_rfl) rfl ((rd_f hS44.im) w' hw')) ?_
          obtain ⟨r54, hx_r49, hr1⟩ := bind_some hr1
          refine WO.call rfl (by kernel_rfl) rfl (f := 9) (args := #[(.agg (cs_registrarlaw21_Act x48).toArray)]) (by kernel_rfl) (registrarlaw21_long_ok  hS44 hx_r49) ?_
          rintro _ w50 ⟨I51, rfl, hl52, hS53⟩
          refine ⟨_, rfl, trivial, ?_⟩
          refine WO.nil ?_
          refine En.next ?_
          refine W.cond (b := r54) rfl rfl (fun hc => ?_) (fun hc => ?_)
          · replace hr1 := cond_t hc hr1
            refine W.seq ?_
            refine W.region (l := [0, 1]) (by kernel_rfl) ?_
            obtain ⟨r60, hx_r55, hr1⟩ := bind_some hr1
            refine WO.call rfl (by kernel_rfl) rfl (f := 10) (args := #[]) (by kernel_rfl) (registrarlaw21_works_ok  hS53 hx_r55) ?_
            rintro _ w56 ⟨I57, rfl, hl58, hS59⟩
            refine ⟨_, rfl, trivial, ?_⟩
            refine WO.vals [(1, 6, (.bool r60))] (by kernel_rfl) (fun _ => by kernel_rfl) ?_
            refine WO.nil ?_
            refine En.next ?_
            refine W.ret ?_
            refine En.nx_ret ?_
            refine En.in_ret ?_
            refine En.nx_ret ?_
            refine En.rd_ret ?_
            have ht := hext37 _ (Option.some.inj hr1).symm
            subst t37
            refine En.in_ret ?_
            refine En.nx_ret ?_
            have hS66 := hS59.drop
            have hS67 := hS66.drop
            have he := Option.some.inj hr
            subst r
            exact En.ret1 rfl (.bool r60) rfl ⟨I57, rfl, ((((((hl4.trans hl10).trans hl16).trans hl34).trans hl39).trans hl52).trans hl58), hS67⟩
          · replace hr1 := cond_f hc hr1
            refine W.skip ?_
            refine En.next ?_
            refine W.seq ?_
            refine W.region (l := [0, 1, 2, 3, 4, 5]) (by kernel_rfl) ?_
            refine WO.vals [(0, 44, (.pointer (some ⟨b_r36, 0, none⟩))), (1, 45, (.slice a_p0 p0.length c_p0)), (2, 46, (.int .i64 s40))] (by kernel_rfl) (fun _ => by kernel_rfl) ?_
            obtain ⟨x68, hx_x68, hr1⟩ := bind_some hr1
            obtain ⟨h0_x68, h1_x68, hx_x68⟩ := idx_some hx_x68
            obtain ⟨ha_x68, cs_x68, hn_x68, hr_x68, hc_x68⟩ := ((RSl.mono h_p0 (((((hl4.trans hl10).trans hl16).trans hl34).trans hl39).trans hl52))).el _ _ hx_x68
            obtain rfl := hr_x68
            refine WO.indexAddr (e := 27) (sz := 4) rfl (by kernel_rfl) (by kernel_rfl) (by kernel_rfl) rfl ha_x68 rfl h0_x68 h1_x68 ?_
            refine WO.loadN rfl (by kernel_rfl) (by kernel_rfl) rfl ((cs_registrarlaw21_Act x68)) (by kernel_rfl) (fun w' hw' => hc_x68.cells (k := 0) (by kernel_rfl) rfl ((rd_f hS53.im) w' hw')) ?_
            have hS69 := hS53.front1
            have hS70 := hS69.front1
            obtain ⟨r76, hx_r71, hr1⟩ := bind_some hr1
            refine WO.call rfl (by kernel_rfl) rfl (f := 13) (args := #[(.pointer (some ⟨b_r36, 0, none⟩)), (.agg (cs_registrarlaw21_Act x68).toArray)]) (by kernel_rfl) (registrarlaw21_act_ok (h_s41.mono hl52) hS70 hx_r71) ?_
            rintro _ w72 ⟨I73, w_r76, rfl, hl74, hS75, h_r76⟩
            refine ⟨_, rfl, trivial, ?_⟩
            refine WO.nil ?_
            refine En.next ?_
            refine W.seq ?_
            refine W.region (l := [0, 1, 2]) (by kernel_rfl) ?_
            refine WO.vals [(0, 50, (.pointer (some ⟨b_r36, 0, none⟩)))] (by kernel_rfl) (fun _ => by kernel_rfl) ?_
            have hS77 := hS75.front1
            have hS78 := hS77.front1
            obtain ⟨r84, hx_r79, hr1⟩ := bind_some hr1
            refine WO.call rfl (by kernel_rfl) rfl (f := 11) (args := #[(.pointer (some ⟨b_r36, 0, none⟩))]) (by kernel_rfl) (mdl_Locks_Paths_ok h_r76 hS78 hx_r79) ?_
            rintro _ w80 ⟨I81, a_r84, c_r84, rfl, hl82, hS83, h_r84⟩
            refine ⟨_, rfl, trivial, ?_⟩
            refine WO.vals [(2, 9, (.slice a_r84 r84.length c_r84))] (by kernel_rfl) (fun _ => by kernel_rfl) ?_
            refine WO.nil ?_
            refine En.next ?_
            refine W.seq ?_
            refine W.region (l := [0]) (by kernel_rfl) ?_
            refine WO.vals [(0, 10, (.int .i64 0))] (by kernel_rfl) (fun _ => by kernel_rfl) ?_
            refine WO.nil ?_
            refine En.next ?_
            refine W.block ?_
            obtain ⟨t85, hloop89, hr1⟩ := bind_some hr1
            have hlt93 := (h_r84).len_lt
            refine W.weaken (fr' := [(0, (.slice a_p0 p0.length c_p0)), (7, (.pointer (some ⟨b_r36, 0, none⟩))), (8, (.int .i64 s40)), (9, (.slice a_r84 r84.length c_r84)), (10, (.int .i64 ((0 : Nat) : Int)))]) (W.forN (m := r84.length) hloop89 (fun (i88 : Nat) => fun (_s : Unit) fr w => ∃ (I86 : Mem), fr = [(0, (.slice a_p0 p0.length c_p0)), (7, (.pointer (some ⟨b_r36, 0, none⟩))), (8, (.int .i64 s40)), (9, (.slice a_r84 r84.length c_r84)), (10, (.int .i64 (i88 : Int)))] ∧ I81.Le I86 ∧ St E w I86 ((Gv.one b_r36 (.cells (cs_mdl_Locks r76 w_r76).toArray 56 (0, 0))) :: (w_r76.at_.C) :: Os)) ⟨I81, rfl, Mem.Le.refl _, hS83⟩ ?roundt85 ?lastt85) (Sub.cons rfl (Sub.cons rfl (Sub.cons rfl (Sub.cons rfl (Sub.cons rfl Sub.nil)))))
            case roundt85 =>
              rintro i88 _ _ w90 hi94 ⟨I86, rfl, hl87, hS91⟩ x92 hr2 hext85
              refine W.seq ?_
              refine W.seq ?_
              refine W.region (l := [0, 1, 2, 3]) (by kernel_rfl) ?_
              refine WO.vals [(0, 52, (.int .i64 (i88 : Int))), (1, 53, (.slice a_r84 r84.length c_r84)), (2, 54, (.int .i64 (r84.length : Int))), (3, 55, (.bool (decide ((i88 : Int) < (r84.length : Int)))))] (by kernel_rfl) (fun _ => by kernel_rfl) ?_
              refine WO.nil ?_
              refine En.next ?_
              refine W.cond (b := (decide ((i88 : Int) < (r84.length : Int)))) rfl rfl (fun hc => ?_) (fun hc => ?_)
              rotate_left
              · exact absurd hc (by first | (simp; done) | (simp; omega))
              clear hc
              refine W.skip ?_
              refine En.next ?_
              refine W.seq ?_
              refine W.block ?_
              refine W.seq ?_
              refine W.region (l := [0, 1, 2, 3, 4, 5, 6]) (by kernel_rfl) ?_
              refine WO.vals [(0, 58, (.pointer (some ⟨b_r36, 0, none⟩))), (1, 59, (.slice a_r84 r84.length c_r84)), (2, 60, (.int .i64 (i88 : Int)))] (by kernel_rfl) (fun _ => by kernel_rfl) ?_
              obtain ⟨x95, hx_x95, hr2⟩ := bind_some hr2
              obtain ⟨h0_x95, h1_x95, hx_x95⟩ := idx_some hx_x95
              obtain ⟨ha_x95, cs_x95, hn_x95, hr_x95, hc_x95⟩ := ((RSl.mono h_r84 hl87)).el _ _ hx_x95
              obtain rfl := hr_x95
              refine WO.indexAddr (e := 9) (sz := 1) rfl (by kernel_rfl) (by kernel_rfl) (by kernel_rfl) rfl ha_x95 rfl h0_x95 h1_x95 ?_
              refine WO.load rfl (by kernel_rfl) (by kernel_rfl) rfl (v := (.string x95)) (fun w' hw' => hc_x95.cell0 (by kernel_rfl) ((rd_f hS91.im) w' hw')) ?_
              have hS96 := hS91.front1
              have hS97 := hS96.front1
              obtain ⟨r103, hx_r98, hr2⟩ := bind_some hr2
              refine WO.call rfl (by kernel_rfl) rfl (f := 17) (args := #[(.pointer (some ⟨b_r36, 0, none⟩)), (.string x95)]) (by kernel_rfl) (registrarlaw21_together_ok (h_r76.mono (hl82.trans hl87)) hS97 hx_r98) ?_
              rintro _ w99 ⟨I100, rfl, hl101, hS102⟩
              refine ⟨_, rfl, trivial, ?_⟩
              refine WO.vals [(6, 64, (.bool (!r103)))] (by kernel_rfl) (fun _ => by kernel_rfl) ?_
              refine WO.nil ?_
              refine En.next ?_
              refine W.cond (b := (!r103)) rfl rfl (fun hc => ?_) (fun hc => ?_)
              · replace hr2 := cond_t hc hr2
                refine W.seq ?_
                refine W.region (l := [0]) (by kernel_rfl) ?_
                refine WO.vals [(0, 6, (.bool false))] (by kernel_rfl) (fun _ => by kernel_rfl) ?_
                refine WO.nil ?_
                refine En.next ?_
                refine W.ret ?_
                refine En.in_ret ?_
                refine En.nx_ret ?_
                refine En.rd_ret ?_
                have ht := hext85 _ (Option.some.inj hr2).symm
                subst t85
                refine En.in_ret ?_
                refine En.in_ret ?_
                refine En.nx_ret ?_
                refine En.rd_ret ?_
                have ht := hext37 _ (Option.some.inj hr1).symm
                subst t37
                refine En.in_ret ?_
                refine En.nx_ret ?_
                have hS108 := hS102.drop
                have hS109 := hS108.drop
                have he := Option.some.inj hr
                subst r
                exact En.ret1 rfl (.bool false) rfl ⟨I100, rfl, (((((((((hl4.trans hl10).trans hl16).trans hl34).trans hl39).trans hl52).trans hl74).trans hl82).trans hl87).trans hl101), hS109⟩
              · replace hr2 := cond_f hc hr2
                refine W.skip ?_
                refine En.in_normal ?_
                refine En.next ?_
                refine W.region (l := [0, 1, 2]) (by kernel_rfl) ?_
                refine WO.vals [(0, 56, (.int .i64 (i88 : Int)))] (by kernel_rfl) (fun _ => by kernel_rfl) ?_
                refine WO.incr (j := i88) rfl (by kernel_rfl) rfl (by omega) ?_
                refine WO.vals [(2, 10, (.int .i64 ((i88 + 1 : Nat) : Int)))] (by kernel_rfl) (fun _ => by kernel_rfl) ?_
                refine WO.nil ?_
                refine En.weaken (fr' := [(0, (.slice a_p0 p0.length c_p0)), (7, (.pointer (some ⟨b_r36, 0, none⟩))), (8, (.int .i64 s40)), (9, (.slice a_r84 r84.length c_r84)), (10, (.int .i64 ((i88 + 1 : Nat) : Int)))]) (En.round ⟨(), (Option.some.inj hr2).symm, I100, rfl, (hl87.trans hl101), hS102⟩) (Sub.cons rfl (Sub.cons rfl (Sub.cons rfl (Sub.cons rfl (Sub.cons rfl Sub.nil)))))
            case lastt85 =>
              rintro _ _ w110 ⟨I86, rfl, hl87, hS111⟩ he
              cases he
              refine W.seq ?_
              refine W.seq ?_
              refine W.region (l := [0, 1, 2, 3]) (by kernel_rfl) ?_
              refine WO.vals [(0, 52, (.int .i64 (r84.length : Int))), (1, 53, (.slice a_r84 r84.length c_r84)), (2, 54, (.int .i64 (r84.length : Int))), (3, 55, (.bool (decide ((r84.length : Int) < (r84.length : Int)))))] (by kernel_rfl) (fun _ => by kernel_rfl) ?_
              refine WO.nil ?_
              refine En.next ?_
              refine W.cond (b := (decide ((r84.length : Int) < (r84.length : Int)))) rfl rfl (fun hc => ?_) (fun hc => ?_)
              · exact absurd hc (by first | (simp; done) | (simp; omega))
              clear hc
              refine W.exit ?_
              refine En.nx_exit ?_
              refine En.rd_exit ?_
              refine En.in_hit ?_
              refine En.in_normal ?_
              refine En.next ?_
              refine W.region (l := [0, 1, 2]) (by kernel_rfl) ?_
              refine WO.vals [(0, 36, (.int .i64 s40)), (1, 37, (.int .i64 (w64 (s40 + 1)))), (2, 8, (.int .i64 (w64 (s40 + 1))))] (by kernel_rfl) (fun _ => by kernel_rfl) ?_
              refine WO.nil ?_
              refine En.weaken (fr' := [(0, (.slice a_p0 p0.length c_p0)), (7, (.pointer (some ⟨b_r36, 0, none⟩))), (8, (.int .i64 (w64 (s40 + 1))))]) (En.round ⟨((w64 (s40 + 1)), r76), (Option.some.inj hr1).symm, I86, w_r76, rfl, ((((hl39.trans hl52).trans hl74).trans hl82).trans hl87), hS111, (h_r76.mono (hl82.trans hl87))⟩) (Sub.cons rfl (Sub.cons rfl (Sub.cons rfl Sub.nil)))
        · replace hr1 := cond_f hc hr1
          refine W.exit ?_
          refine En.nx_exit ?_
          refine En.rd_exit ?_
          have ht := hext37 _ (Option.some.inj hr1).symm
          subst t37
          refine En.in_hit ?_
          refine En.next ?_
          refine W.seq ?_
          refine W.region (l := [0, 1]) (by kernel_rfl) ?_
          obtain ⟨r127, hx_r122, hr⟩ := bind_some hr
          refine WO.call rfl (by kernel_rfl) rfl (f := 10) (args := #[]) (by kernel_rfl) (registrarlaw21_works_ok  hS44 hx_r122) ?_
          rintro _ w123 ⟨I124, rfl, hl125, hS126⟩
          refine ⟨_, rfl, trivial, ?_⟩
          refine WO.vals [(1, 6, (.bool r127))] (by kernel_rfl) (fun _ => by kernel_rfl) ?_
          refine WO.nil ?_
          refine En.next ?_
          refine W.ret ?_
          have hS128 := hS126.drop
          have hS129 := hS128.drop
          have he := Option.some.inj hr
          subst r
          exact En.ret1 rfl (.bool r127) rfl ⟨I124, rfl, (((((hl4.trans hl10).trans hl16).trans hl34).trans hl39).trans hl125), hS129⟩
def slices_IndexFunc_int (p0 : List Int) (p1 : Int → Option Bool) : Option Int := (forN (fun (i4 : Nat) => fun (_s : Unit) => (idx p0 (i4 : Int)).bind (fun (x11 : Int) => (p1 x11).bind (fun (r17 : Bool) => (bif r17 then some (.inr (i4 : Int)) else some (.inl ()))))) p0.length 0 ()).bind (fun (t : Unit ⊕ (Int)) => match t with | .inl _ => some (-1) | .inr s19 => some s19)
set_option maxHeartbeats 1000000 in
theorem slices_IndexFunc_int_ok {E w : World} {I : Mem} {Os : List Mem} {p0 : List Int} {p1 : Int → Option Bool} {a_p0 : Option Addr} {c_p0 : Nat} {g_p1 : FuncId} {k_p1 : List Value} (h_p0 : RSl 1 (RInt .i64) I a_p0 c_p0 p0) (h_p1 : ∀ {F : List Mem} {I' : Mem} {w : World} {u0 : Int}, I.Le I' → St E w I' (F ++ Os) → ∀ {r : Bool}, p1 u0 = some r → Calls P g_p1 (([(.int .i64 u0)] : List Value) ++ k_p1).toArray w (fun e w' => ∃ (I'' : Mem), e = .returned (.bool r) ∧ I'.Le I'' ∧ St E w' I'' (F ++ Os))) (hcall_p1 : Callable P g_p1) (hS : St E w I Os) {r : Int} (hr : slices_IndexFunc_int p0 p1 = some r) :
    Calls P 62 #[(.slice a_p0 p0.length c_p0), (.func (.func g_p1) #[] k_p1.toArray)] w (fun e w' => ∃ (I' : Mem), e = .returned (.int .i64 r) ∧ I.Le I' ∧ St E w' I' Os) := by
  refine calls_W (args := [(.slice a_p0 p0.length c_p0), (.func (.func g_p1) #[] k_p1.toArray)]) (fn := Try.f62) rfl rfl rfl ?_
  unfold slices_IndexFunc_int at hr
  refine W.seq ?_
  refine W.region (l := [0]) (by kernel_rfl) ?_
  refine WO.vals [(0, 4, (.int .i64 0))] (by kernel_rfl) (fun _ => by kernel_rfl) ?_
  refine WO.nil ?_
  refine En.next ?_
  refine W.seq ?_
  refine W.seq ?_
  refine W.region (l := [0, 1, 2]) (by kernel_rfl) ?_
  refine WO.vals [(0, 6, (.slice a_p0 p0.length c_p0)), (1, 7, (.int .i64 (p0.length : Int))), (2, 8, (.int .i64 0))] (by kernel_rfl) (fun _ => by kernel_rfl) ?_
  refine WO.nil ?_
  refine En.next ?_
  refine W.block ?_
  obtain ⟨t1, hloop5, hr⟩ := bind_some hr
  have hlt9 := (h_p0).len_lt
  refine W.weaken (fr' := [(0, (.slice a_p0 p0.length c_p0)), (1, (.func (.func g_p1) #[] k_p1.toArray)), (7, (.int .i64 (p0.length : Int))), (8, (.int .i64 ((0 : Nat) : Int)))]) (W.forN (m := p0.length) hloop5 (fun (i4 : Nat) => fun (_s : Unit) fr w => ∃ (I2 : Mem), fr = [(0, (.slice a_p0 p0.length c_p0)), (1, (.func (.func g_p1) #[] k_p1.toArray)), (7, (.int .i64 (p0.length : Int))), (8, (.int .i64 (i4 : Int)))] ∧ I.Le I2 ∧ St E w I2 Os) ⟨I, rfl, Mem.Le.refl _, hS⟩ ?roundt1 ?lastt1) (Sub.cons rfl (Sub.cons rfl (Sub.cons rfl (Sub.cons rfl Sub.nil))))
  case roundt1 =>
    rintro i4 _ _ w6 hi10 ⟨I2, rfl, hl3, hS7⟩ x8 hr1 hext1
    refine W.seq ?_
    refine W.region (l := [0]) (by kernel_rfl) ?_
    refine WO.vals [(0, 9, (.bool (decide ((i4 : Int) < (p0.length : Int)))))] (by kernel_rfl) (fun _ => by kernel_rfl) ?_
    refine WO.nil ?_
    refine En.next ?_
    refine W.seq ?_
    refine W.cond (b := (decide ((i4 : Int) < (p0.length : Int)))) rfl rfl (fun hc => ?_) (fun hc => ?_)
    rotate_left
    · exact absurd hc (by first | (simp; done) | (simp; omega))
    clear hc
    refine W.skip ?_
    refine En.next ?_
    refine W.seq ?_
    refine W.block ?_
    refine W.seq ?_
    refine W.region (l := [0, 1]) (by kernel_rfl) ?_
    refine WO.vals [(0, 10, (.int .i64 (i4 : Int))), (1, 5, (.int .i64 (i4 : Int)))] (by kernel_rfl) (fun _ => by kernel_rfl) ?_
    refine WO.nil ?_
    refine En.next ?_
    refine W.seq ?_
    refine W.region (l := [0, 1, 2, 3, 4, 5]) (by kernel_rfl) ?_
    refine WO.vals [(0, 11, (.func (.func g_p1) #[] k_p1.toArray)), (1, 12, (.slice a_p0 p0.length c_p0)), (2, 13, (.int .i64 (i4 : Int)))] (by kernel_rfl) (fun _ => by kernel_rfl) ?_
    obtain ⟨x11, hx_x11, hr1⟩ := bind_some hr1
    obtain ⟨h0_x11, h1_x11, hx_x11⟩ := idx_some hx_x11
    obtain ⟨ha_x11, cs_x11, hn_x11, hr_x11, hc_x11⟩ := ((RSl.mono h_p0 hl3)).el _ _ hx_x11
    obtain rfl := hr_x11
    refine WO.indexAddr (e := 3) (sz := 1) rfl (by kernel_rfl) (by kernel_rfl) (by kernel_rfl) rfl ha_x11 rfl h0_x11 h1_x11 ?_
    refine WO.load rfl (by kernel_rfl) (by kernel_rfl) rfl (v := (.int .i64 x11)) (fun w' hw' => hc_x11.cell0 (by kernel_rfl) ((rd_f hS7.im) w' hw')) ?_
    obtain ⟨r17, hx_r12, hr1⟩ := bind_some hr1
    refine WO.callv rfl (by kernel_rfl) rfl (g := g_p1) (kk := k_p1) (args := [(.int .i64 x11)]) rfl (by kernel_rfl) hcall_p1 (h_p1 (F := []) hl3 hS7  hx_r12) ?_
    rintro _ w13 ⟨I14, rfl, hl15, hS16⟩
    refine ⟨_, rfl, trivial, ?_⟩
    refine WO.nil ?_
    refine En.next ?_
    refine W.cond (b := r17) rfl rfl (fun hc => ?_) (fun hc => ?_)
    · replace hr1 := cond_t hc hr1
      refine W.seq ?_
      refine W.region (l := [0, 1]) (by kernel_rfl) ?_
      refine WO.vals [(0, 17, (.int .i64 (i4 : Int))), (1, 4, (.int .i64 (i4 : Int)))] (by kernel_rfl) (fun _ => by kernel_rfl) ?_
      refine WO.nil ?_
      refine En.next ?_
      refine W.ret ?_
      refine En.in_ret ?_
      refine En.nx_ret ?_
      refine En.rd_ret ?_
      have ht := hext1 _ (Option.some.inj hr1).symm
      subst t1
      refine En.in_ret ?_
      refine En.nx_ret ?_
      have he := Option.some.inj hr
      subst r
      exact En.ret1 rfl (.int .i64 (i4 : Int)) rfl ⟨I14, rfl, (hl3.trans hl15), hS16⟩
    · replace hr1 := cond_f hc hr1
      refine W.skip ?_
      refine En.in_normal ?_
      refine En.next ?_
      refine W.region (l := [0, 1]) (by kernel_rfl) ?_
      refine WO.incr (j := i4) rfl (by kernel_rfl) rfl (by omega) ?_
      refine WO.vals [(1, 8, (.int .i64 ((i4 + 1 : Nat) : Int)))] (by kernel_rfl) (fun _ => by kernel_rfl) ?_
      refine WO.nil ?_
      refine En.weaken (fr' := [(0, (.slice a_p0 p0.length c_p0)), (1, (.func (.func g_p1) #[] k_p1.toArray)), (7, (.int .i64 (p0.length : Int))), (8, (.int .i64 ((i4 + 1 : Nat) : Int)))]) (En.round ⟨(), (Option.some.inj hr1).symm, I14, rfl, (hl3.trans hl15), hS16⟩) (Sub.cons rfl (Sub.cons rfl (Sub.cons rfl (Sub.cons rfl Sub.nil))))
  case lastt1 =>
    rintro _ _ w20 ⟨I2, rfl, hl3, hS21⟩ he
    cases he
    refine W.seq ?_
    refine W.region (l := [0]) (by kernel_rfl) ?_
    refine WO.vals [(0, 9, (.bool (decide ((p0.length : Int) < (p0.length : Int)))))] (by kernel_rfl) (fun _ => by kernel_rfl) ?_
    refine WO.nil ?_
    refine En.next ?_
    refine W.seq ?_
    refine W.cond (b := (decide ((p0.length : Int) < (p0.length : Int)))) rfl rfl (fun hc => ?_) (fun hc => ?_)
    · exact absurd hc (by first | (simp; done) | (simp; omega))
    clear hc
    refine W.exit ?_
    refine En.nx_exit ?_
    refine En.rd_exit ?_
    refine En.in_hit ?_
    refine En.next ?_
    refine W.seq ?_
    refine W.region (l := [0]) (by kernel_rfl) ?_
    refine WO.vals [(0, 4, (.int .i64 (-1)))] (by kernel_rfl) (fun _ => by kernel_rfl) ?_
    refine WO.nil ?_
    refine En.next ?_
    refine W.ret ?_
    have he := Option.some.inj hr
    subst r
    exact En.ret1 rfl (.int .i64 (-1)) rfl ⟨I2, rfl, hl3, hS21⟩
def slices_ContainsFunc_int (p0 : List Int) (p1 : Int → Option Bool) : Option Bool := (slices_IndexFunc_int p0 p1).bind (fun (r6 : Int) => some (decide (r6 ≥ 0)))
set_option maxHeartbeats 1000000 in
theorem slices_ContainsFunc_int_ok {E w : World} {I : Mem} {Os : List Mem} {p0 : List Int} {p1 : Int → Option Bool} {a_p0 : Option Addr} {c_p0 : Nat} {g_p1 : FuncId} {k_p1 : List Value} (h_p0 : RSl 1 (RInt .i64) I a_p0 c_p0 p0) (h_p1 : ∀ {F : List Mem} {I' : Mem} {w : World} {u0 : Int}, I.Le I' → St E w I' (F ++ Os) → ∀ {r : Bool}, p1 u0 = some r → Calls P g_p1 (([(.int .i64 u0)] : List Value) ++ k_p1).toArray w (fun e w' => ∃ (I'' : Mem), e = .returned (.bool r) ∧ I'.Le I'' ∧ St E w' I'' (F ++ Os))) (hcall_p1 : Callable P g_p1) (hS : St E w I Os) {r : Bool} (hr : slices_ContainsFunc_int p0 p1 = some r) :
    Calls P 35 #[(.slice a_p0 p0.length c_p0), (.func (.func g_p1) #[] k_p1.toArray)] w (fun e w' => ∃ (I' : Mem), e = .returned (.bool r) ∧ I.Le I' ∧ St E w' I' Os) := by
  refine calls_W (args := [(.slice a_p0 p0.length c_p0), (.func (.func g_p1) #[] k_p1.toArray)]) (fn := Try.f35) rfl rfl rfl ?_
  unfold slices_ContainsFunc_int at hr
  refine W.seq ?_
  refine W.region (l := [0]) (by kernel_rfl) ?_
  refine WO.vals [(0, 4, (.bool false))] (by kernel_rfl) (fun _ => by kernel_rfl) ?_
  refine WO.nil ?_
  refine En.next ?_
  refine W.seq ?_
  refine W.region (l := [0, 1, 2, 3, 4]) (by kernel_rfl) ?_
  refine WO.vals [(0, 5, (.slice a_p0 p0.length c_p0)), (1, 6, (.func (.func g_p1) #[] k_p1.toArray))] (by kernel_rfl) (fun _ => by kernel_rfl) ?_
  obtain ⟨r6, hx_r1, hr⟩ := bind_some hr
  refine WO.call rfl (by kernel_rfl) rfl (f := 62) (args := #[(.slice a_p0 p0.length c_p0), (.func (.func g_p1) #[] k_p1.toArray)]) (by kernel_rfl) (slices_IndexFunc_int_ok h_p0 (fun {F Ic wc} {_} hlc hSc  {rc} hrc => h_p1 hlc hSc  hrc) hcall_p1 hS hx_r1) ?_
  rintro _ w2 ⟨I3, rfl, hl4, hS5⟩
  refine ⟨_, rfl, trivial, ?_⟩
  refine WO.vals [(3, 8, (.bool (decide (r6 ≥ 0)))), (4, 4, (.bool (decide (r6 ≥ 0))))] (by kernel_rfl) (fun _ => by kernel_rfl) ?_
  refine WO.nil ?_
  refine En.next ?_
  refine W.ret ?_
  have he := Option.some.inj hr
  subst r
  exact En.ret1 rfl (.bool (decide (r6 ≥ 0))) rfl ⟨I3, rfl, hl4, hS5⟩
/-! ### Cycle -/
abbrev KV := List (Int × List Int)
def vsl (I : Mem) (v : Value) (x : List Int) : Prop := ∃ (a : Option Addr) (c : Nat), v = .slice a x.length c ∧ RSl 1 (RInt .i64) I a c x
instance : VMono vsl := ⟨fun hl ⟨a, c, e, h⟩ => ⟨a, c, e, RSl.mono h hl⟩⟩
abbrev EI : Int → Value := Value.int .i64
def hasB (l : KV) (x : Int) : Bool := decide ((((mget iEq l x).getD []).length : Int) > 0)
theorem contains_eq (xs : List Int) (f : Int → Option Bool) (q : Int → Bool) (hf : ∀ x, f x = some (q x)) : slices_ContainsFunc_int xs f = some (xs.any q) := by
  have hi : slices_IndexFunc_int xs f = some (match xs.findIdx? q with | some j => (j : Int) | none => -1) := by
    unfold slices_IndexFunc_int
    rw [forN_find q (fun j => (j : Int))]
    · cases xs.findIdx? q <;> rfl
    · intro j x hx
      simp only [idx_nat, hx, Option.bind_some, hf]
      cases q x <;> rfl
  unfold slices_ContainsFunc_int
  rw [hi]
  simp only [Option.bind_some, Option.some.injEq]
  rcases find_cases q xs with ⟨h, e⟩ | ⟨A, x, B, h1, h2, h3, h4⟩
  · rw [e]
    have : xs.any q = false := List.any_eq_false.2 fun x hx => by rw [h x hx]; simp
    rw [this]
    rfl
  · rw [h4]
    have : xs.any q = true := List.any_eq_true.2 ⟨x, by rw [h1]; simp, h2⟩
    rw [this]
    simp
/-- What deleting those who wait for nobody that is left may leave. -/
inductive Red (l : KV) : KV → Prop
  | refl : Red l l
  | step {c : KV} {k : Int} {b : List Int} : Red l c → (k, b) ∈ c → b.any (hasB c) = false → Red l (mdel iEq c k)
def Pass (l c : KV) : Prop := Red l c ∧ (c.length < l.length ∨ c = l ∧ ∀ p ∈ l, p.2.any (hasB l) = true)
theorem ieq : KEq iEq := fun _ _ => iEq_iff
theorem mdel_lt {ν : Type} {l : List (Int × ν)} {k : Int} (h : k ∈ l.map (·.1)) : (mdel iEq l k).length < l.length := by
  induction l with
  | nil => cases h
  | cons p r ih =>
    obtain ⟨a, u⟩ := p
    rw [mdel_cons]
    cases he : iEq k a with
    | true => simp
    | false =>
      have hn : k ≠ a := fun e => by rw [(ieq k a).2 e] at he; cases he
      simp only [List.map_cons, List.mem_cons] at h
      have := ih (h.resolve_left hn)
      simp only [cond_false, List.length_cons]
      omega
theorem Red.le {l c : KV} (h : Red l c) : c.length ≤ l.length := by
  induction h with
  | refl => exact Nat.le_refl _
  | @step c k b _ hm _ ih =>
    have : (mdel iEq c k).length < c.length := mdel_lt (List.mem_map.2 ⟨(k, b), hm, rfl⟩)
    omega
theorem Red.trans {l c d : KV} (h : Red l c) (h2 : Red c d) : Red l d := by
  induction h2 with
  | refl => exact h
  | step _ hm hb ih => exact .step ih hm hb
open Classical in
/-- Do some wait for one another? -/
noncomputable def cycB (l : KV) : Bool := decide (∃ S : List Int, S ≠ [] ∧ ∀ k ∈ S, ∃ b, (k, b) ∈ l ∧ ∃ x ∈ b, x ∈ S)
theorem mget_mem_i {ν : Type} {l : List (Int × ν)} (hn : (l.map (·.1)).Nodup) {k : Int} {v : ν} (hm : (k, v) ∈ l) : mget iEq l k = some v := by
  induction l with
  | nil => cases hm
  | cons p r ih =>
    obtain ⟨a, u⟩ := p
    rw [mget_cons]
    simp only [List.map_cons, List.nodup_cons] at hn
    rcases List.mem_cons.1 hm with e | e
    · injection e with e1 e2
      subst e1 e2
      rw [ieq.refl]
      rfl
    · have hne : k ≠ a := fun e2 => hn.1 (e2 ▸ List.mem_map.2 ⟨(k, v), e, rfl⟩)
      rw [ieq.ne hne]
      exact ih hn.2 e
theorem hasB_iff {l : KV} (hn : (l.map (·.1)).Nodup) (hv : ∀ p ∈ l, p.2 ≠ []) {x : Int} : hasB l x = true ↔ x ∈ l.map (·.1) := by
  unfold hasB
  constructor
  · intro h
    refine Classical.byContradiction fun hx => ?_
    rw [mget_none ieq hx] at h
    simp at h
  · intro h
    obtain ⟨⟨k, b⟩, hm, rfl⟩ := List.mem_map.1 h
    rw [mget_mem_i hn hm]
    have := hv _ hm
    simp only at this
    cases b with
    | nil => exact absurd rfl this
    | cons y r => simp
theorem Red.inv {l c : KV} (h : Red l c) (hn : (l.map (·.1)).Nodup) : c.Sublist l ∧ (c.map (·.1)).Nodup := by
  induction h with
  | refl => exact ⟨List.Sublist.refl _, hn⟩
  | step _ _ _ ih => exact ⟨(mdel_sub _ _).trans ih.1, mdel_nodup ih.2 _⟩
theorem Red.keep {l c : KV} (h : Red l c) (hn : (l.map (·.1)).Nodup) (hv : ∀ p ∈ l, p.2 ≠ []) {S : List Int} (hS : ∀ k ∈ S, ∃ b, (k, b) ∈ l ∧ ∃ x ∈ b, x ∈ S) : ∀ k ∈ S, k ∈ c.map (·.1) := by
  induction h with
  | refl => intro k hk; obtain ⟨b, hb, _⟩ := hS k hk; exact List.mem_map.2 ⟨_, hb, rfl⟩
  | @step c' k' b' hr hm hb ih =>
    intro k hk
    obtain ⟨h1, h2⟩ := hr.inv hn
    refine (mdel_mem ieq h2 k' k).2 ⟨?_, ih k hk⟩
    rintro rfl
    obtain ⟨b, hb2, x, hx, hxS⟩ := hS k hk
    have e : b = b' := by
      have e1 := mget_mem_i hn hb2
      have e2 := mget_mem_i hn (h1.subset hm)
      rw [e1] at e2
      exact Option.some.inj e2
    subst e
    have hxb := (hasB_iff h2 (fun p hp => hv p (h1.subset hp))).2 (ih x hxS)
    have := List.any_eq_false.1 hb x hx
    exact this hxb
theorem cyc_end {l c : KV} (h : Red l c) (hn : (l.map (·.1)).Nodup) (hv : ∀ p ∈ l, p.2 ≠ []) (hc : ∀ p ∈ c, p.2.any (hasB c) = true) : decide ((c.length : Int) > 0) = cycB l := by
  obtain ⟨h1, h2⟩ := h.inv hn
  unfold cycB
  rw [decide_eq_decide]
  constructor
  · intro hl
    refine ⟨c.map (·.1), fun e => ?_, fun k hk => ?_⟩
    · have := congrArg List.length e
      simp at this
      rw [this] at hl
      simp at hl
    · obtain ⟨⟨k', b⟩, hm, rfl⟩ := List.mem_map.1 hk
      obtain ⟨x, hx, hxb⟩ := List.any_eq_true.1 (hc _ hm)
      exact ⟨b, h1.subset hm, x, hx, (hasB_iff h2 (fun p hp => hv p (h1.subset hp))).1 hxb⟩
  · rintro ⟨S, hS1, hS2⟩
    obtain ⟨k, S', rfl⟩ := List.exists_cons_of_ne_nil hS1
    have := h.keep hn hv hS2 k (List.mem_cons_self ..)
    cases c with
    | nil => cases this
    | cons p r => simp
/-! ### Cycle: the walk -/
section
variable {E w : World} {I C : Mem} {Os : List Mem} {kb m : Nat} {cur : KV}
set_option maxHeartbeats 1000000 in
theorem mdl_cyc36_ok {q0 : Int} (hm1 : Gv.one kb (.cells #[.map (some m)] 75 (0, 0)) ∈ Os) (hC : C ∈ Os) (hM : OwnMap EI vsl I C m cur) (hS : St E w I Os) :
    Calls P 36 #[(.int .i64 q0), (.pointer (some ⟨kb, 0, none⟩))] w (fun e w' => ∃ (I' : Mem), e = .returned (.bool (hasB cur q0)) ∧ I.Le I' ∧ St E w' I' Os) := by
  refine calls_W (args := [(.int .i64 q0), (.pointer (some ⟨kb, 0, none⟩))]) (fn := Try.f36) rfl rfl rfl ?_
  refine W.seq ?_
  refine W.region (l := [0]) (by kernel_rfl) ?_
  refine WO.vals [(0, 3, (.bool false))] (by kernel_rfl) (fun _ => by kernel_rfl) ?_
  refine WO.nil ?_
  refine En.next ?_
  refine W.seq ?_
  refine W.region (l := [0, 1, 2, 3, 4, 5]) (by kernel_rfl) ?_
  refine WO.load rfl (by kernel_rfl) (by kernel_rfl) rfl (v := (.map (some m))) (fun w' hw' => cell_one ((rd_f (hS.rd hm1)) w' hw') (by kernel_rfl)) ?_
  refine WO.vals [(1, 5, (.int .i64 q0))] (by kernel_rfl) (fun _ => by kernel_rfl) ?_
  obtain ⟨v, hv, hq⟩ := OwnMap.lookup hM (t := 75) (kt := 3) (et := 32) (by kernel_rfl) (keyLaw_int (kt := 3) (by kernel_rfl)) q0 (zv := (.slice none 0 0)) (z0 := ([] : List Int)) (by kernel_rfl) ⟨none, 0, rfl, SlAt.nil⟩
  obtain ⟨a, c, rfl, _⟩ := hv
  refine WO.lookup rfl (by kernel_rfl) rfl rfl hq (rd_f (hS.rd hC)) (.slice a ((mget iEq cur q0).getD []).length c) rfl ?_
  refine WO.vals [(3, 7, (.int .i64 (((mget iEq cur q0).getD []).length : Int))), (4, 8, (.bool (hasB cur q0))), (5, 3, (.bool (hasB cur q0)))] (by kernel_rfl) (fun _ => by kernel_rfl) ?_
  refine WO.nil ?_
  refine En.next ?_
  refine W.ret ?_
  exact En.ret1 rfl (.bool (hasB cur q0)) rfl ⟨I, rfl, Mem.Le.refl _, hS⟩
set_option maxHeartbeats 1000000 in
theorem mdl_cyc34_ok {q0 : Int} {b : List Int} {a : Option Addr} {c : Nat} (hm1 : Gv.one kb (.cells #[.map (some m)] 75 (0, 0)) ∈ Os) (hC : C ∈ Os) (hM : OwnMap EI vsl I C m cur) (hb : RSl 1 (RInt .i64) I a c b) (hS : St E w I Os) :
    Calls P 34 #[(.int .i64 q0), (.slice a b.length c), (.pointer (some ⟨kb, 0, none⟩))] w (fun e w' => ∃ (I' : Mem), e = .returned (.bool (!(b.any (hasB cur)))) ∧ I.Le I' ∧ St E w' I' Os) := by
  refine calls_W (args := [(.int .i64 q0), (.slice a b.length c), (.pointer (some ⟨kb, 0, none⟩))]) (fn := Try.f34) rfl rfl rfl ?_
  refine W.seq ?_
  refine W.region (l := [0]) (by kernel_rfl) ?_
  refine WO.vals [(0, 5, (.bool false))] (by kernel_rfl) (fun _ => by kernel_rfl) ?_
  refine WO.nil ?_
  refine En.next ?_
  refine W.seq ?_
  refine W.region (l := [0, 1, 2, 3, 4]) (by kernel_rfl) ?_
  refine WO.vals [(0, 6, (.slice a b.length c)), (1, 7, (.func (.func 36) #[] #[(.pointer (some ⟨kb, 0, none⟩))]))] (by kernel_rfl) (fun _ => by kernel_rfl) ?_
  refine WO.call rfl (by kernel_rfl) rfl (f := 35) (args := #[(.slice a b.length c), (.func (.func 36) #[] #[(.pointer (some ⟨kb, 0, none⟩))])]) (by kernel_rfl) (slices_ContainsFunc_int_ok (p1 := fun x => some (hasB cur x)) (k_p1 := [(.pointer (some ⟨kb, 0, none⟩))]) hb (fun {F Ic wc} {u0} hlc hSc {rc} hrc => by obtain rfl := Option.some.inj hrc; exact mdl_cyc36_ok (List.mem_append_right _ hm1) (List.mem_append_right _ hC) (OwnMap.mono hM hlc) hSc) (fun _ _ => by kernel_rfl) hS (contains_eq b _ (hasB cur) (fun _ => rfl))) ?_
  rintro _ w1 ⟨I1, rfl, hl1, hS1⟩
  refine ⟨_, rfl, trivial, ?_⟩
  refine WO.vals [(3, 9, (.bool (!(b.any (hasB cur))))), (4, 5, (.bool (!(b.any (hasB cur)))))] (by kernel_rfl) (fun _ => by kernel_rfl) ?_
  refine WO.nil ?_
  refine En.next ?_
  refine W.ret ?_
  exact En.ret1 rfl (.bool (!(b.any (hasB cur)))) rfl ⟨I1, rfl, hl1, hS1⟩
set_option maxHeartbeats 1000000 in
theorem mdl_cyc33_ok (hM : OwnMap EI vsl I C m cur) (hS : St E w I (Gv.one kb (.cells #[.map (some m)] 75 (0, 0)) :: C :: Os)) :
    Calls P 33 #[(.map (some m)), (.func (.func 34) #[] #[(.pointer (some ⟨kb, 0, none⟩))])] w (fun e w' => ∃ (I' C' : Mem) (cur' : KV), e = .returned (.tuple #[]) ∧ I.Le I' ∧ St E w' I' (Gv.one kb (.cells #[.map (some m)] 75 (0, 0)) :: C' :: Os) ∧ OwnMap EI vsl I' C' m cur' ∧ Pass cur cur') := by
  refine calls_W (args := [(.map (some m)), (.func (.func 34) #[] #[(.pointer (some ⟨kb, 0, none⟩))])]) (fn := Try.f33) rfl rfl rfl ?_
  refine W.seq ?_
  refine W.region (l := [0, 1]) (by kernel_rfl) ?_
  refine WO.vals [(0, 6, (.map (some m)))] (by kernel_rfl) (fun _ => by kernel_rfl) ?_
  have hS1 := hS.front1
  refine WO.rangeMap hM hS1 (t := 75) (kt := 3) (et := 32) (by kernel_rfl) rfl (by kernel_rfl) rfl rfl (fun _ _ _ => trivial) ?_
  intro ib w2 D2 hS2 hit2
  refine WO.nil ?_
  refine En.next ?_
  refine W.block ?_
  refine W.weaken (fr' := [(0, (.map (some m))), (1, (.func (.func 34) #[] #[(.pointer (some ⟨kb, 0, none⟩))])), (7, (.pointer (some ⟨ib, 0, none⟩)))]) (W.loopG (fun k fr w => ∃ (I' D' C' : Mem) (cur' rem vis : KV) (last : Option (Value × Value)), fr = [(0, (.map (some m))), (1, (.func (.func 34) #[] #[(.pointer (some ⟨kb, 0, none⟩))])), (7, (.pointer (some ⟨ib, 0, none⟩)))] ∧ k = rem.length ∧ I.Le I' ∧ St E w I' (D' :: C' :: Gv.one kb (.cells #[.map (some m)] 75 (0, 0)) :: Os) ∧ IterSt EI vsl I' C' m cur' D' ib rem last ∧ Red cur cur' ∧ (cur'.length < cur.length ∨ cur' = cur ∧ (vis ++ rem).Perm cur ∧ ∀ p ∈ vis, p.2.any (hasB cur) = true)) ⟨I, D2, C, cur, cur, [], none, rfl, rfl, Mem.Le.refl _, hS2, hit2, .refl, .inr ⟨rfl, List.Perm.refl _, by simp⟩⟩ ?_) (Sub.cons rfl (Sub.cons rfl (Sub.cons rfl Sub.nil)))
  rintro _ _ w3 ⟨I3, D3, C3, cur3, rem3, vis3, last3, rfl, rfl, hl3, hS3, hit3, hred3, hcase3⟩
  refine W.seq ?_
  refine W.region (l := [0, 1]) (by kernel_rfl) ?_
  refine WO.next hit3 hS3 rfl (by kernel_rfl) rfl rfl (fun _ _ _ => trivial) (fun he => ?_) ?_
  · refine WO.vals [(1, 9, (.bool false))] (by kernel_rfl) (fun _ => by kernel_rfl) ?_
    refine WO.nil ?_
    refine En.next ?_
    refine W.seq ?_
    refine W.cond (b := false) rfl rfl (fun hc => ?_) (fun hc => ?_)
    · cases hc
    clear hc
    refine W.exit ?_
    refine En.nx_exit ?_
    refine En.rd_exit ?_
    refine En.in_hit ?_
    refine En.toRet ?_
    subst he
    refine En.ret0 rfl ⟨I3, C3, cur3, rfl, hl3, hS3.drop.front1, hit3.own, hred3, ?_⟩
    rcases hcase3 with h | ⟨h1, h2, h3⟩
    · exact .inl h
    · refine .inr ⟨h1, fun p hp => h3 p ?_⟩
      rw [List.append_nil] at h2
      exact h2.mem_iff.2 hp
  · intro k x rem4 v w4 D4 hp4 hv4 hS4 hit4
    obtain ⟨a, c, rfl, hx⟩ := hv4
    refine WO.vals [(1, 9, (.bool true))] (by kernel_rfl) (fun _ => by kernel_rfl) ?_
    refine WO.nil ?_
    refine En.next ?_
    refine W.seq ?_
    refine W.cond (b := true) rfl rfl (fun hc => ?_) (fun hc => ?_)
    rotate_left
    · cases hc
    clear hc
    refine W.skip ?_
    refine En.next ?_
    refine W.block ?_
    refine W.seq ?_
    refine W.region (l := [0, 1, 2, 3, 4]) (by kernel_rfl) ?_
    refine WO.entry hit4 hS4 rfl (by kernel_rfl) rfl rfl trivial ?_
    refine WO.vals [(1, 11, (.int .i64 k)), (2, 12, (.slice a x.length c)), (3, 4, (.int .i64 k)), (4, 5, (.slice a x.length c))] (by kernel_rfl) (fun _ => by kernel_rfl) ?_
    refine WO.nil ?_
    refine En.next ?_
    refine W.seq ?_
    refine W.region (l := [0, 1, 2, 3]) (by kernel_rfl) ?_
    refine WO.vals [(0, 13, (.func (.func 34) #[] #[(.pointer (some ⟨kb, 0, none⟩))])), (1, 14, (.int .i64 k)), (2, 15, (.slice a x.length c))] (by kernel_rfl) (fun _ => by kernel_rfl) ?_
    refine WO.callv rfl (by kernel_rfl) rfl (g := 34) (kk := [(.pointer (some ⟨kb, 0, none⟩))]) (args := [(.int .i64 k), (.slice a x.length c)]) rfl (by kernel_rfl) (fun _ _ => by kernel_rfl) (mdl_cyc34_ok (List.Mem.tail _ (List.Mem.tail _ (List.Mem.head _))) (List.Mem.tail _ (List.Mem.head _)) hit4.own hx hS4) ?_
    rintro _ w5 ⟨I5, rfl, hl5, hS5⟩
    refine ⟨_, rfl, trivial, ?_⟩
    refine WO.nil ?_
    refine En.next ?_
    have hlen4 := hp4.length_eq
    simp only [List.length_cons] at hlen4
    have hkx : (k, x) ∈ cur3 := hit3.rem_mem (hp4.mem_iff.2 (List.mem_cons_self ..))
    refine W.cond (b := (!(x.any (hasB cur3)))) rfl rfl (fun hc => ?_) (fun hc => ?_)
    · have hx0 : x.any (hasB cur3) = false := by simpa using hc
      refine W.region (l := [0, 1, 2]) (by kernel_rfl) ?_
      refine WO.vals [(0, 17, (.map (some m))), (1, 18, (.int .i64 k))] (by kernel_rfl) (fun _ => by kernel_rfl) ?_
      have hS6 := hS5.front1
      refine WO.deleteIt (IterSt.mono hit4 hl5) hS6 (t := 75) (kt := 3) (et := 32) (by kernel_rfl) (keyLaw_int (kt := 3) (by kernel_rfl)) rfl (by kernel_rfl) rfl rfl k rfl (fun _ _ _ => trivial) ?_
      intro w7 C7 rem7 hS7 hr7 hit7
      refine WO.nil ?_
      refine En.in_normal ?_
      have hlt : (mdel iEq cur3 k).length < cur3.length := mdel_lt (List.mem_map.2 ⟨(k, x), hkx, rfl⟩)
      have hle := hred3.le
      refine En.weaken (fr' := [(0, (.map (some m))), (1, (.func (.func 34) #[] #[(.pointer (some ⟨kb, 0, none⟩))])), (7, (.pointer (some ⟨ib, 0, none⟩)))]) (En.round ⟨rem7.length, by omega, I5, D4, C7, mdel iEq cur3 k, rem7, [], none, rfl, rfl, hl3.trans hl5, hS7.front1, hit7, .step hred3 hkx hx0, .inl (by omega)⟩) (Sub.cons rfl (Sub.cons rfl (Sub.cons rfl Sub.nil)))
    · have hx0 : x.any (hasB cur3) = true := by simpa using hc
      refine W.skip ?_
      refine En.in_normal ?_
      refine En.weaken (fr' := [(0, (.map (some m))), (1, (.func (.func 34) #[] #[(.pointer (some ⟨kb, 0, none⟩))])), (7, (.pointer (some ⟨ib, 0, none⟩)))]) (En.round ⟨rem4.length, by omega, I5, D4, C3, cur3, rem4, vis3 ++ [(k, x)], _, rfl, rfl, hl3.trans hl5, hS5, IterSt.mono hit4 hl5, hred3, ?_⟩) (Sub.cons rfl (Sub.cons rfl (Sub.cons rfl Sub.nil)))
      rcases hcase3 with h | ⟨h1, h2, h3⟩
      · exact .inl h
      · refine .inr ⟨h1, ?_, fun p hp => ?_⟩
        · rw [List.append_assoc, List.singleton_append]
          exact (List.Perm.append_left vis3 hp4.symm).trans h2
        · rw [List.mem_append, List.mem_singleton] at hp
          rcases hp with hp | rfl
          · exact h3 p hp
          · rw [← h1]; exact hx0
end
noncomputable def mdl_left (p0 : mdl_Locks) : Option KV := loopO (fun (s : Int × KV) => match s with | (s4, s3) => (bif (decide (s4 ≤ 8)) then (mdl_Locks_Blockers p0 s4).bind (fun (r : List Int) => (bif (decide ((r.length : Int) > 0)) then some (.inl (w64 (s4 + 1), mset iEq s3 s4 r)) else some (.inl (w64 (s4 + 1), s3)))) else some (.inr s3))) (1, [])
noncomputable def mdl_Locks_Cycle (p0 : mdl_Locks) : Option Bool := (mdl_Locks_dead p0).bind (fun (r8 : Bool) => (mdl_left p0).bind (fun (l : KV) => if (l.map (·.1)).Nodup ∧ ∀ p ∈ l, p.2 ≠ [] then some (cycB l) else none))
set_option maxHeartbeats 1000000 in
theorem mdl_Locks_Cycle_ok {E w : World} {I : Mem} {Os : List Mem} {p0 : mdl_Locks} {b_p0 : Nat} {w_p0 : W_mdl_Locks} (h_p0 : ok_mdl_Locks I p0 w_p0) (hS : St E w I ((Gv.one b_p0 (.cells (cs_mdl_Locks p0 w_p0).toArray 56 (0, 0))) :: (w_p0.at_.C) :: Os)) {r : Bool} (hr : mdl_Locks_Cycle p0 = some r) :
    Calls P 19 #[(.pointer (some ⟨b_p0, 0, none⟩))] w (fun e w' => ∃ (I' : Mem), e = .returned (.bool r) ∧ I.Le I' ∧ St E w' I' ((Gv.one b_p0 (.cells (cs_mdl_Locks p0 w_p0).toArray 56 (0, 0))) :: w_p0.at_.C :: Os)) := by
  refine calls_W (args := [(.pointer (some ⟨b_p0, 0, none⟩))]) (fn := Try.f19) rfl rfl rfl ?_
  unfold mdl_Locks_Cycle at hr
  refine W.seq ?_
  refine W.region (l := [0]) (by kernel_rfl) ?_
  refine WO.vals [(0, 2, (.bool false))] (by kernel_rfl) (fun _ => by kernel_rfl) ?_
  refine WO.nil ?_
  refine En.next ?_
  refine W.seq ?_
  refine W.seq ?_
  refine W.region (l := [0, 1]) (by kernel_rfl) ?_
  refine WO.vals [(0, 7, (.pointer (some ⟨b_p0, 0, none⟩)))] (by kernel_rfl) (fun _ => by kernel_rfl) ?_
  obtain ⟨r12, hx_r7, hr⟩ := bind_some hr
  obtain rfl : false = r12 := Option.some.inj hx_r7
  refine WO.call rfl (by kernel_rfl) rfl (f := 28) (args := #[(.pointer (some ⟨b_p0, 0, none⟩))]) (by kernel_rfl) (mdl_Locks_dead_ok h_p0 hS hx_r7) ?_
  rintro _ w1 ⟨I1, rfl, hl1, hS1⟩
  refine ⟨_, rfl, trivial, ?_⟩
  refine WO.nil ?_
  refine En.next ?_
  refine W.cond (b := false) rfl rfl (fun hc => ?_) (fun hc => ?_)
  · cases hc
  clear hc
  refine W.skip ?_
  refine En.next ?_
  refine W.seq ?_
  refine W.region (l := [0, 1, 2]) (by kernel_rfl) ?_
  refine WO.new hS1 rfl (by kernel_rfl) rfl (.map #[] 0) (fun b => .map (some b)) (by kernel_rfl) (fun _ _ _ => trivial) ?_
  intro bm w2 hS2
  refine WO.new hS2 rfl (by kernel_rfl) rfl (.cells #[.map none] 75 (0, 0)) (fun b => .pointer (some ⟨b, 0, none⟩)) (by kernel_rfl) (fun _ _ _ => trivial) ?_
  intro kb w3 hS3
  refine WO.storeBox hS3 rfl (by kernel_rfl) rfl 0 rfl rfl (by kernel_rfl) (by kernel_rfl) (by kernel_rfl) (#[.map (some bm)]) (by kernel_rfl) (fun _ _ => trivial) ?_
  intro w4 hS4
  refine WO.nil ?_
  refine En.next ?_
  obtain ⟨l, hl, hr⟩ := bind_some hr
  unfold mdl_left at hl
  refine W.seq ?_
  refine W.seq ?_
  refine W.region (l := [0]) (by kernel_rfl) ?_
  refine WO.vals [(0, 4, (.int .i64 1))] (by kernel_rfl) (fun _ => by kernel_rfl) ?_
  refine WO.nil ?_
  refine En.next ?_
  refine W.block ?_
  refine W.weaken (fr' := [(0, (.pointer (some ⟨b_p0, 0, none⟩))), (3, (.pointer (some ⟨kb, 0, none⟩))), (4, (.int .i64 1))]) (W.loopO hl (fun (s : Int × KV) fr w => match s with | (s4, s3) => ∃ (I' C' : Mem), fr = [(0, (.pointer (some ⟨b_p0, 0, none⟩))), (3, (.pointer (some ⟨kb, 0, none⟩))), (4, (.int .i64 s4))] ∧ I.Le I' ∧ St E w I' (Gv.one kb (.cells #[.map (some bm)] 75 (0, 0)) :: C' :: (Gv.one b_p0 (.cells (cs_mdl_Locks p0 w_p0).toArray 56 (0, 0))) :: (w_p0.at_.C) :: Os) ∧ OwnMap EI vsl I' C' bm s3) ⟨I1, _, rfl, hl1, hS4, OwnMap.nil (enc := EI) (val := vsl) (I := I1) (m := bm)⟩ ?_) (Sub.cons rfl (Sub.cons rfl (Sub.cons rfl Sub.nil)))
  rintro ⟨s4, s3⟩ _ w5 ⟨I5, C5, rfl, hl5, hS5, hM5⟩ x hx hext
  refine W.seq ?_
  refine W.seq ?_
  refine W.region (l := [0, 1]) (by kernel_rfl) ?_
  refine WO.vals [(0, 10, (.int .i64 s4)), (1, 11, (.bool (decide (s4 ≤ 8))))] (by kernel_rfl) (fun _ => by kernel_rfl) ?_
  refine WO.nil ?_
  refine En.next ?_
  refine W.cond (b := (decide (s4 ≤ 8))) rfl rfl (fun hc => ?_) (fun hc => ?_)
  · replace hx := cond_t hc hx
    refine W.skip ?_
    refine En.next ?_
    refine W.seq ?_
    refine W.block ?_
    refine W.seq ?_
    refine W.region (l := [0, 1, 2, 3]) (by kernel_rfl) ?_
    refine WO.vals [(0, 14, (.pointer (some ⟨b_p0, 0, none⟩))), (1, 15, (.int .i64 s4))] (by kernel_rfl) (fun _ => by kernel_rfl) ?_
    obtain ⟨b, hb, hx⟩ := bind_some hx
    have hS6 := hS5.front2.front3.front1
    refine WO.call rfl (by kernel_rfl) rfl (f := 26) (args := #[(.pointer (some ⟨b_p0, 0, none⟩)), (.int .i64 s4)]) (by kernel_rfl) (mdl_Locks_Blockers_ok (ok_mdl_Locks.mono h_p0 hl5) hS6 hb) ?_
    rintro _ w7 ⟨I7, a, c, rfl, hl7, hS7, hb7⟩
    refine ⟨_, rfl, trivial, ?_⟩
    refine WO.vals [(3, 5, (.slice a b.length c))] (by kernel_rfl) (fun _ => by kernel_rfl) ?_
    refine WO.nil ?_
    refine En.next ?_
    refine W.seq ?_
    refine W.region (l := [0, 1, 2]) (by kernel_rfl) ?_
    refine WO.vals [(0, 17, (.slice a b.length c)), (1, 18, (.int .i64 (b.length : Int))), (2, 19, (.bool (decide ((b.length : Int) > 0))))] (by kernel_rfl) (fun _ => by kernel_rfl) ?_
    refine WO.nil ?_
    refine En.next ?_
    have hS8 := hS7.front2.front3.front1
    refine W.cond (b := (decide ((b.length : Int) > 0))) rfl rfl (fun hc => ?_) (fun hc => ?_)
    · replace hx := cond_t hc hx
      refine W.region (l := [0, 1, 2, 3]) (by kernel_rfl) ?_
      refine WO.load rfl (by kernel_rfl) (by kernel_rfl) rfl (v := (.map (some bm))) (fun w' hw' => cell_one ((rd_f (hS8.rd (List.Mem.head _))) w' hw') (by kernel_rfl)) ?_
      refine WO.vals [(1, 21, (.int .i64 s4)), (2, 22, (.slice a b.length c))] (by kernel_rfl) (fun _ => by kernel_rfl) ?_
      refine WO.update (hM5.mono hl7) hS8.front1 (t := 75) (kt := 3) (et := 32) (by kernel_rfl) (keyLaw_int (kt := 3) (by kernel_rfl)) rfl (by kernel_rfl) rfl (.inl rfl) rfl s4 rfl rfl (xv := b) ⟨a, c, rfl, hb7⟩ (fun _ _ _ => trivial) ?_
      intro w9 C9 hS9 hM9
      refine WO.nil ?_
      refine En.in_normal ?_
      refine En.next ?_
      refine W.region (l := [0, 1, 2]) (by kernel_rfl) ?_
      refine WO.vals [(0, 12, (.int .i64 s4)), (1, 13, (.int .i64 (w64 (s4 + 1)))), (2, 4, (.int .i64 (w64 (s4 + 1))))] (by kernel_rfl) (fun _ => by kernel_rfl) ?_
      refine WO.nil ?_
      refine En.weaken (fr' := [(0, (.pointer (some ⟨b_p0, 0, none⟩))), (3, (.pointer (some ⟨kb, 0, none⟩))), (4, (.int .i64 (w64 (s4 + 1))))]) (En.round ⟨_, (Option.some.inj hx).symm, I7, C9, rfl, hl5.trans hl7, hS9.front1, hM9⟩) (Sub.cons rfl (Sub.cons rfl (Sub.cons rfl Sub.nil)))
    · replace hx := cond_f hc hx
      refine W.skip ?_
      refine En.in_normal ?_
      refine En.next ?_
      refine W.region (l := [0, 1, 2]) (by kernel_rfl) ?_
      refine WO.vals [(0, 12, (.int .i64 s4)), (1, 13, (.int .i64 (w64 (s4 + 1)))), (2, 4, (.int .i64 (w64 (s4 + 1))))] (by kernel_rfl) (fun _ => by kernel_rfl) ?_
      refine WO.nil ?_
      refine En.weaken (fr' := [(0, (.pointer (some ⟨b_p0, 0, none⟩))), (3, (.pointer (some ⟨kb, 0, none⟩))), (4, (.int .i64 (w64 (s4 + 1))))]) (En.round ⟨_, (Option.some.inj hx).symm, I7, C5, rfl, hl5.trans hl7, hS8, hM5.mono hl7⟩) (Sub.cons rfl (Sub.cons rfl (Sub.cons rfl Sub.nil)))
  replace hx := cond_f hc hx
  refine W.exit ?_
  refine En.nx_exit ?_
  refine En.rd_exit ?_
  refine En.in_hit ?_
  refine En.next ?_
  have hl := hext _ (Option.some.inj hx).symm
  subst l
  have hnv : (s3.map (·.1)).Nodup ∧ ∀ p ∈ s3, p.2 ≠ [] := by
    refine Classical.byContradiction fun hn => ?_
    rw [if_neg hn] at hr
    cases hr
  rw [if_pos hnv] at hr
  have he := Option.some.inj hr
  subst r
  refine W.block ?_
  refine W.weaken (fr' := [(0, (.pointer (some ⟨b_p0, 0, none⟩))), (3, (.pointer (some ⟨kb, 0, none⟩)))]) (W.loopG (fun k fr w => ∃ (I' C' : Mem) (cur : KV), fr = [(0, (.pointer (some ⟨b_p0, 0, none⟩))), (3, (.pointer (some ⟨kb, 0, none⟩)))] ∧ k = cur.length ∧ I.Le I' ∧ St E w I' (Gv.one kb (.cells #[.map (some bm)] 75 (0, 0)) :: C' :: (Gv.one b_p0 (.cells (cs_mdl_Locks p0 w_p0).toArray 56 (0, 0))) :: (w_p0.at_.C) :: Os) ∧ OwnMap EI vsl I' C' bm cur ∧ Red s3 cur) ⟨I5, C5, s3, rfl, rfl, hl5, hS5, hM5, .refl⟩ ?_) (Sub.cons rfl (Sub.cons rfl Sub.nil))
  rintro _ _ w6 ⟨I6, C6, cur, rfl, rfl, hl6, hS6, hM6, hred⟩
  refine W.block ?_
  refine W.seq ?_
  refine W.region (l := [0, 1, 2]) (by kernel_rfl) ?_
  refine WO.load rfl (by kernel_rfl) (by kernel_rfl) rfl (v := (.map (some bm))) (fun w' hw' => cell_one ((rd_f (hS6.rd (List.Mem.head _))) w' hw') (by kernel_rfl)) ?_
  refine WO.lenMap hM6 (t := 75) (kt := 3) (et := 32) (by kernel_rfl) rfl (by kernel_rfl) rfl (rd_f (hS6.rd (List.Mem.tail _ (List.Mem.head _)))) ?_
  refine WO.vals [(2, 6, (.int .i64 (cur.length : Int)))] (by kernel_rfl) (fun _ => by kernel_rfl) ?_
  refine WO.nil ?_
  refine En.next ?_
  refine W.seq ?_
  refine W.region (l := [0, 1, 2]) (by kernel_rfl) ?_
  refine WO.load rfl (by kernel_rfl) (by kernel_rfl) rfl (v := (.map (some bm))) (fun w' hw' => cell_one ((rd_f (hS6.rd (List.Mem.head _))) w' hw') (by kernel_rfl)) ?_
  refine WO.vals [(1, 26, (.func (.func 34) #[] #[(.pointer (some ⟨kb, 0, none⟩))]))] (by kernel_rfl) (fun _ => by kernel_rfl) ?_
  refine WO.call rfl (by kernel_rfl) rfl (f := 33) (args := #[(.map (some bm)), (.func (.func 34) #[] #[(.pointer (some ⟨kb, 0, none⟩))])]) (by kernel_rfl) (mdl_cyc33_ok hM6 hS6) ?_
  rintro _ w7 ⟨I7, C7, cur7, rfl, hl7, hS7, hM7, hpass⟩
  refine ⟨_, rfl, trivial, ?_⟩
  refine WO.nil ?_
  refine En.next ?_
  refine W.seq ?_
  refine W.region (l := [0, 1, 2, 3]) (by kernel_rfl) ?_
  refine WO.load rfl (by kernel_rfl) (by kernel_rfl) rfl (v := (.map (some bm))) (fun w' hw' => cell_one ((rd_f (hS7.rd (List.Mem.head _))) w' hw') (by kernel_rfl)) ?_
  refine WO.lenMap hM7 (t := 75) (kt := 3) (et := 32) (by kernel_rfl) rfl (by kernel_rfl) rfl (rd_f (hS7.rd (List.Mem.tail _ (List.Mem.head _)))) ?_
  refine WO.vals [(2, 30, (.int .i64 (cur.length : Int))), (3, 31, (.bool ((cur7.length : Int) == (cur.length : Int))))] (by kernel_rfl) (fun _ => by kernel_rfl) ?_
  refine WO.nil ?_
  refine En.next ?_
  refine W.cond (b := ((cur7.length : Int) == (cur.length : Int))) rfl rfl (fun hc => ?_) (fun hc => ?_)
  · have hlen : cur7.length = cur.length := by have := eq_of_beq hc; omega
    have hpass2 := hpass.2.resolve_left (by omega)
    have hfin := cyc_end hred hnv.1 hnv.2 hpass2.2
    refine W.seq ?_
    refine W.region (l := [0, 1, 2]) (by kernel_rfl) ?_
    refine WO.vals [(0, 32, (.int .i64 (cur.length : Int))), (1, 33, (.bool (decide ((cur.length : Int) > 0)))), (2, 2, (.bool (decide ((cur.length : Int) > 0))))] (by kernel_rfl) (fun _ => by kernel_rfl) ?_
    refine WO.nil ?_
    refine En.next ?_
    refine W.ret ?_
    refine En.in_ret ?_
    refine En.rd_ret ?_
    refine En.in_ret ?_
    have hS8 := hS7.drop.drop
    exact En.ret1 rfl (.bool (decide ((cur.length : Int) > 0))) rfl ⟨I7, by rw [hfin], hl6.trans hl7, hS8⟩
  · have hlen : cur7.length < cur.length := by
      rcases hpass.2 with h | ⟨h, _⟩
      · exact h
      · subst h
        simp at hc
    refine W.skip ?_
    refine En.in_normal ?_
    refine En.weaken (fr' := [(0, (.pointer (some ⟨b_p0, 0, none⟩))), (3, (.pointer (some ⟨kb, 0, none⟩)))]) (En.round ⟨cur7.length, hlen, I7, C7, cur7, rfl, rfl, hl6.trans hl7, hS7, hM7, hred.trans hpass.1⟩) (Sub.cons rfl (Sub.cons rfl Sub.nil))

def mdl_Locks_dead_nil  : Option Bool := some true
set_option maxHeartbeats 1000000 in
theorem mdl_Locks_dead_nil_ok {E w : World} {I : Mem} {Os : List Mem} (hS : St E w I Os) {r : Bool} (hr : mdl_Locks_dead_nil = some r) :
    Calls P 28 #[(.pointer none)] w (fun e w' => ∃ (I' : Mem), e = .returned (.bool r) ∧ I.Le I' ∧ St E w' I' Os) := by
  refine calls_W (args := [(.pointer none)]) (fn := Try.f28) rfl rfl rfl ?_
  unfold mdl_Locks_dead_nil at hr
  refine W.seq ?_
  refine W.region (l := [0]) (by kernel_rfl) ?_
  refine WO.vals [(0, 2, (.bool false))] (by kernel_rfl) (fun _ => by kernel_rfl) ?_
  refine WO.nil ?_
  refine En.next ?_
  refine W.seq ?_
  refine W.region (l := [0, 1, 2, 3, 4, 5, 6, 7, 8, 9]) (by kernel_rfl) ?_
  refine WO.vals [(0, 3, (.pointer none)), (1, 4, (.bool true)), (2, 5, (.bool true))] (by kernel_rfl) (fun _ => by kernel_rfl) ?_
  refine WO.pass rfl (by kernel_rfl) rfl ?_
  refine WO.pass rfl (by kernel_rfl) rfl ?_
  refine WO.pass rfl (by kernel_rfl) rfl ?_
  refine WO.pass rfl (by kernel_rfl) rfl ?_
  refine WO.pass rfl (by kernel_rfl) rfl ?_
  refine WO.vals [(8, 11, (.bool true)), (9, 2, (.bool true))] (by kernel_rfl) (fun _ => by kernel_rfl) ?_
  refine WO.nil ?_
  refine En.next ?_
  refine W.ret ?_
  have he := Option.some.inj hr
  subst r
  exact En.ret1 rfl (.bool true) rfl ⟨I, rfl, Mem.Le.refl _, hS⟩
def mdl_Locks_check_nil (p1 : Int) : Option Int := (mdl_Locks_dead_nil).bind (fun (r6 : Bool) => some 1)
set_option maxHeartbeats 1000000 in
theorem mdl_Locks_check_nil_ok {E w : World} {I : Mem} {Os : List Mem} {p1 : Int} (hS : St E w I Os) {r : Int} (hr : mdl_Locks_check_nil p1 = some r) :
    Calls P 37 #[(.pointer none), (.int .i64 p1)] w (fun e w' => ∃ (I' : Mem), e = .returned (.int .i64 r) ∧ I.Le I' ∧ St E w' I' Os) := by
  refine calls_W (args := [(.pointer none), (.int .i64 p1)]) (fn := Try.f37) rfl rfl rfl ?_
  unfold mdl_Locks_check_nil at hr
  refine W.seq ?_
  refine W.region (l := [0]) (by kernel_rfl) ?_
  refine WO.vals [(0, 4, (.int .i64 0))] (by kernel_rfl) (fun _ => by kernel_rfl) ?_
  refine WO.nil ?_
  refine En.next ?_
  refine W.seq ?_
  refine W.block ?_
  refine W.seq ?_
  refine W.region (l := [0, 1, 2]) (by kernel_rfl) ?_
  refine WO.vals [(0, 6, (.pointer none))] (by kernel_rfl) (fun _ => by kernel_rfl) ?_
  obtain ⟨r6, hx_r1, hr⟩ := bind_some hr
  obtain rfl : true = r6 := Option.some.inj hx_r1
  refine WO.call rfl (by kernel_rfl) rfl (f := 28) (args := #[(.pointer none)]) (by kernel_rfl) (mdl_Locks_dead_nil_ok  hS hx_r1) ?_
  rintro _ w2 ⟨I3, rfl, hl4, hS5⟩
  refine ⟨_, rfl, trivial, ?_⟩
  refine WO.vals [(2, 5, (.bool true))] (by kernel_rfl) (fun _ => by kernel_rfl) ?_
  refine WO.nil ?_
  refine En.next ?_
  refine W.cond (b := true) rfl rfl (fun hc => ?_) (fun hc => ?_)
  rotate_left
  · cases hc
  clear hc
  refine W.seq ?_
  refine W.region (l := [0]) (by kernel_rfl) ?_
  refine WO.vals [(0, 4, (.int .i64 1))] (by kernel_rfl) (fun _ => by kernel_rfl) ?_
  refine WO.nil ?_
  refine En.next ?_
  refine W.ret ?_
  refine En.in_ret ?_
  refine En.nx_ret ?_
  have he := Option.some.inj hr
  subst r
  exact En.ret1 rfl (.int .i64 1) rfl ⟨I3, rfl, hl4, hS5⟩
def mdl_Locks_Ask_nil (p1 : Int) (p2 : api_Need) : Option (Bool × Int) := (mdl_Locks_check_nil p1).bind (fun (r10 : Int) => some (false, 1))
set_option maxHeartbeats 1000000 in
theorem mdl_Locks_Ask_nil_ok {E w : World} {I : Mem} {Os : List Mem} {p1 : Int} {p2 : api_Need} (hS : St E w I Os) {r : Bool × Int} (hr : mdl_Locks_Ask_nil p1 p2 = some r) :
    Calls P 24 #[(.pointer none), (.int .i64 p1), (.agg (cs_api_Need p2).toArray)] w (fun e w' => ∃ (I' : Mem), e = .returned (.tuple #[(.bool r.1), (.int .i64 r.2)]) ∧ I.Le I' ∧ St E w' I' Os) := by
  refine calls_W (args := [(.pointer none), (.int .i64 p1), (.agg (cs_api_Need p2).toArray)]) (fn := Try.f24) rfl rfl rfl ?_
  unfold mdl_Locks_Ask_nil at hr
  refine W.seq ?_
  refine W.region (l := [0, 1, 2]) (by kernel_rfl) ?_
  refine WO.new hS rfl (by kernel_rfl) rfl (.cells (cs_api_Need p2).toArray 43 (0, 0)) (fun b => .pointer (some ⟨b, 0, none⟩)) (by kernel_rfl) (fun _ _ _ => trivial) ?_
  intro b1 w4 hS3
  refine WO.vals [(1, 6, (.bool false)), (2, 7, (.int .i64 0))] (by kernel_rfl) (fun _ => by kernel_rfl) ?_
  refine WO.nil ?_
  refine En.next ?_
  refine W.seq ?_
  refine W.seq ?_
  refine W.region (l := [0, 1, 2, 3]) (by kernel_rfl) ?_
  refine WO.vals [(0, 13, (.pointer none)), (1, 14, (.int .i64 p1))] (by kernel_rfl) (fun _ => by kernel_rfl) ?_
  obtain ⟨r10, hx_r5, hr⟩ := bind_some hr
  obtain rfl : 1 = r10 := Option.some.inj hx_r5
  refine WO.call rfl (by kernel_rfl) rfl (f := 37) (args := #[(.pointer none), (.int .i64 p1)]) (by kernel_rfl) (mdl_Locks_check_nil_ok  hS3 hx_r5) ?_
  rintro _ w6 ⟨I7, rfl, hl8, hS9⟩
  refine ⟨_, rfl, trivial, ?_⟩
  refine WO.vals [(3, 8, (.int .i64 1))] (by kernel_rfl) (fun _ => by kernel_rfl) ?_
  refine WO.nil ?_
  refine En.next ?_
  refine W.seq ?_
  refine W.region (l := [0, 1]) (by kernel_rfl) ?_
  refine WO.vals [(0, 16, (.int .i64 1)), (1, 17, (.bool true))] (by kernel_rfl) (fun _ => by kernel_rfl) ?_
  refine WO.nil ?_
  refine En.next ?_
  refine W.cond (b := true) rfl rfl (fun hc => ?_) (fun hc => ?_)
  rotate_left
  · cases hc
  clear hc
  refine W.seq ?_
  refine W.region (l := [0, 1, 2]) (by kernel_rfl) ?_
  refine WO.vals [(0, 18, (.int .i64 1)), (1, 6, (.bool false)), (2, 7, (.int .i64 1))] (by kernel_rfl) (fun _ => by kernel_rfl) ?_
  refine WO.nil ?_
  refine En.next ?_
  refine W.ret ?_
  refine En.nx_ret ?_
  have hS11 := hS9.drop
  have he := Option.some.inj hr
  subst r
  exact En.ret2 rfl (.bool false) (.int .i64 1) rfl rfl ⟨I7, rfl, hl8, hS11⟩
def mdl_Locks_Waits_nil (p1 : Int) : Option (api_Need × Bool) := (mdl_Locks_dead_nil).bind (fun (r10 : Bool) => some (z_api_Need, false))
set_option maxHeartbeats 1000000 in
theorem mdl_Locks_Waits_nil_ok {E w : World} {I : Mem} {Os : List Mem} {p1 : Int} (hS : St E w I Os) {r : api_Need × Bool} (hr : mdl_Locks_Waits_nil p1 = some r) :
    Calls P 20 #[(.pointer none), (.int .i64 p1)] w (fun e w' => ∃ (I' : Mem), e = .returned (.tuple #[(.agg (cs_api_Need r.1).toArray), (.bool r.2)]) ∧ I.Le I' ∧ St E w' I' Os) := by
  refine calls_W (args := [(.pointer none), (.int .i64 p1)]) (fn := Try.f20) rfl rfl rfl ?_
  unfold mdl_Locks_Waits_nil at hr
  refine W.seq ?_
  refine W.region (l := [0, 1]) (by kernel_rfl) ?_
  refine WO.new hS rfl (by kernel_rfl) rfl (.cells (cs_api_Need z_api_Need).toArray 43 (0, 0)) (fun b => .pointer (some ⟨b, 0, none⟩)) (by kernel_rfl) (fun _ _ _ => trivial) ?_
  intro b1 w4 hS3
  refine WO.vals [(1, 5, (.bool false))] (by kernel_rfl) (fun _ => by kernel_rfl) ?_
  refine WO.nil ?_
  refine En.next ?_
  refine W.seq ?_
  refine W.seq ?_
  refine W.region (l := [0, 1]) (by kernel_rfl) ?_
  refine WO.vals [(0, 9, (.pointer none))] (by kernel_rfl) (fun _ => by kernel_rfl) ?_
  obtain ⟨r10, hx_r5, hr⟩ := bind_some hr
  obtain rfl : true = r10 := Option.some.inj hx_r5
  refine WO.call rfl (by kernel_rfl) rfl (f := 28) (args := #[(.pointer none)]) (by kernel_rfl) (mdl_Locks_dead_nil_ok  hS3 hx_r5) ?_
  rintro _ w6 ⟨I7, rfl, hl8, hS9⟩
  refine ⟨_, rfl, trivial, ?_⟩
  refine WO.nil ?_
  refine En.next ?_
  refine W.cond (b := true) rfl rfl (fun hc => ?_) (fun hc => ?_)
  rotate_left
  · cases hc
  clear hc
  refine W.seq ?_
  refine W.region (l := [0, 1, 2]) (by kernel_rfl) ?_
  refine WO.vals [(0, 11, (.agg (cs_api_Need z_api_Need).toArray))] (by kernel_rfl) (fun _ => by kernel_rfl) ?_
  refine WO.storeBox hS9 rfl (by kernel_rfl) rfl 0 rfl rfl (by kernel_rfl) (by kernel_rfl) (by kernel_rfl) ((cs_api_Need z_api_Need).toArray) (by kernel_rfl) (fun _ _ => trivial) ?_
  intro w12 hS11
  refine WO.vals [(2, 5, (.bool false))] (by kernel_rfl) (fun _ => by kernel_rfl) ?_
  refine WO.nil ?_
  refine En.next ?_
  refine W.ret ?_
  refine En.nx_ret ?_
  have hS13 := hS11.drop
  have he := Option.some.inj hr
  subst r
  exact En.retc2 rfl (.agg (cs_api_Need z_api_Need).toArray) (.bool false) ⟨_, _, rfl, run_loadVarN (cs := (cs_api_Need z_api_Need)) (by kernel_rfl) (by kernel_rfl) (cells_one (hS11.rd (List.Mem.head _)) (by kernel_rfl))⟩ rfl ⟨I7, rfl, hl8, hS13⟩
def mdl_Locks_Free_nil (p1 : Int) (p2 : ByteArray) : Option Int := (mdl_Locks_check_nil p1).bind (fun (r6 : Int) => some 1)
set_option maxHeartbeats 1000000 in
theorem mdl_Locks_Free_nil_ok {E w : World} {I : Mem} {Os : List Mem} {p1 : Int} {p2 : ByteArray} (hS : St E w I Os) {r : Int} (hr : mdl_Locks_Free_nil p1 p2 = some r) :
    Calls P 25 #[(.pointer none), (.int .i64 p1), (.string p2)] w (fun e w' => ∃ (I' : Mem), e = .returned (.int .i64 r) ∧ I.Le I' ∧ St E w' I' Os) := by
  refine calls_W (args := [(.pointer none), (.int .i64 p1), (.string p2)]) (fn := Try.f25) rfl rfl rfl ?_
  unfold mdl_Locks_Free_nil at hr
  refine W.seq ?_
  refine W.region (l := [0]) (by kernel_rfl) ?_
  refine WO.vals [(0, 6, (.int .i64 0))] (by kernel_rfl) (fun _ => by kernel_rfl) ?_
  refine WO.nil ?_
  refine En.next ?_
  refine W.seq ?_
  refine W.seq ?_
  refine W.region (l := [0, 1, 2, 3]) (by kernel_rfl) ?_
  refine WO.vals [(0, 9, (.pointer none)), (1, 10, (.int .i64 p1))] (by kernel_rfl) (fun _ => by kernel_rfl) ?_
  obtain ⟨r6, hx_r1, hr⟩ := bind_some hr
  obtain rfl : 1 = r6 := Option.some.inj hx_r1
  refine WO.call rfl (by kernel_rfl) rfl (f := 37) (args := #[(.pointer none), (.int .i64 p1)]) (by kernel_rfl) (mdl_Locks_check_nil_ok  hS hx_r1) ?_
  rintro _ w2 ⟨I3, rfl, hl4, hS5⟩
  refine ⟨_, rfl, trivial, ?_⟩
  refine WO.vals [(3, 7, (.int .i64 1))] (by kernel_rfl) (fun _ => by kernel_rfl) ?_
  refine WO.nil ?_
  refine En.next ?_
  refine W.seq ?_
  refine W.region (l := [0, 1]) (by kernel_rfl) ?_
  refine WO.vals [(0, 12, (.int .i64 1)), (1, 13, (.bool true))] (by kernel_rfl) (fun _ => by kernel_rfl) ?_
  refine WO.nil ?_
  refine En.next ?_
  refine W.cond (b := true) rfl rfl (fun hc => ?_) (fun hc => ?_)
  rotate_left
  · cases hc
  clear hc
  refine W.seq ?_
  refine W.region (l := [0, 1]) (by kernel_rfl) ?_
  refine WO.vals [(0, 14, (.int .i64 1)), (1, 6, (.int .i64 1))] (by kernel_rfl) (fun _ => by kernel_rfl) ?_
  refine WO.nil ?_
  refine En.next ?_
  refine W.ret ?_
  refine En.nx_ret ?_
  have he := Option.some.inj hr
  subst r
  exact En.ret1 rfl (.int .i64 1) rfl ⟨I3, rfl, hl4, hS5⟩
def mdl_Locks_Leave_nil (p1 : Int) : Option Int := (mdl_Locks_check_nil p1).bind (fun (r6 : Int) => some 1)
set_option maxHeartbeats 1000000 in
theorem mdl_Locks_Leave_nil_ok {E w : World} {I : Mem} {Os : List Mem} {p1 : Int} (hS : St E w I Os) {r : Int} (hr : mdl_Locks_Leave_nil p1 = some r) :
    Calls P 21 #[(.pointer none), (.int .i64 p1)] w (fun e w' => ∃ (I' : Mem), e = .returned (.int .i64 r) ∧ I.Le I' ∧ St E w' I' Os) := by
  refine calls_W (args := [(.pointer none), (.int .i64 p1)]) (fn := Try.f21) rfl rfl rfl ?_
  unfold mdl_Locks_Leave_nil at hr
  refine W.seq ?_
  refine W.region (l := [0]) (by kernel_rfl) ?_
  refine WO.vals [(0, 4, (.int .i64 0))] (by kernel_rfl) (fun _ => by kernel_rfl) ?_
  refine WO.nil ?_
  refine En.next ?_
  refine W.seq ?_
  refine W.seq ?_
  refine W.region (l := [0, 1, 2, 3]) (by kernel_rfl) ?_
  refine WO.vals [(0, 9, (.pointer none)), (1, 10, (.int .i64 p1))] (by kernel_rfl) (fun _ => by kernel_rfl) ?_
  obtain ⟨r6, hx_r1, hr⟩ := bind_some hr
  obtain rfl : 1 = r6 := Option.some.inj hx_r1
  refine WO.call rfl (by kernel_rfl) rfl (f := 37) (args := #[(.pointer none), (.int .i64 p1)]) (by kernel_rfl) (mdl_Locks_check_nil_ok  hS hx_r1) ?_
  rintro _ w2 ⟨I3, rfl, hl4, hS5⟩
  refine ⟨_, rfl, trivial, ?_⟩
  refine WO.vals [(3, 5, (.int .i64 1))] (by kernel_rfl) (fun _ => by kernel_rfl) ?_
  refine WO.nil ?_
  refine En.next ?_
  refine W.seq ?_
  refine W.region (l := [0, 1]) (by kernel_rfl) ?_
  refine WO.vals [(0, 12, (.int .i64 1)), (1, 13, (.bool true))] (by kernel_rfl) (fun _ => by kernel_rfl) ?_
  refine WO.nil ?_
  refine En.next ?_
  refine W.cond (b := true) rfl rfl (fun hc => ?_) (fun hc => ?_)
  rotate_left
  · cases hc
  clear hc
  refine W.seq ?_
  refine W.region (l := [0, 1]) (by kernel_rfl) ?_
  refine WO.vals [(0, 14, (.int .i64 1)), (1, 4, (.int .i64 1))] (by kernel_rfl) (fun _ => by kernel_rfl) ?_
  refine WO.nil ?_
  refine En.next ?_
  refine W.ret ?_
  refine En.nx_ret ?_
  have he := Option.some.inj hr
  subst r
  exact En.ret1 rfl (.int .i64 1) rfl ⟨I3, rfl, hl4, hS5⟩
def mdl_Locks_Cycle_nil  : Option Bool := (mdl_Locks_dead_nil).bind (fun (r6 : Bool) => some false)
set_option maxHeartbeats 1000000 in
theorem mdl_Locks_Cycle_nil_ok {E w : World} {I : Mem} {Os : List Mem} (hS : St E w I Os) {r : Bool} (hr : mdl_Locks_Cycle_nil = some r) :
    Calls P 19 #[(.pointer none)] w (fun e w' => ∃ (I' : Mem), e = .returned (.bool r) ∧ I.Le I' ∧ St E w' I' Os) := by
  refine calls_W (args := [(.pointer none)]) (fn := Try.f19) rfl rfl rfl ?_
  unfold mdl_Locks_Cycle_nil at hr
  refine W.seq ?_
  refine W.region (l := [0]) (by kernel_rfl) ?_
  refine WO.vals [(0, 2, (.bool false))] (by kernel_rfl) (fun _ => by kernel_rfl) ?_
  refine WO.nil ?_
  refine En.next ?_
  refine W.seq ?_
  refine W.seq ?_
  refine W.region (l := [0, 1]) (by kernel_rfl) ?_
  refine WO.vals [(0, 7, (.pointer none))] (by kernel_rfl) (fun _ => by kernel_rfl) ?_
  obtain ⟨r6, hx_r1, hr⟩ := bind_some hr
  obtain rfl : true = r6 := Option.some.inj hx_r1
  refine WO.call rfl (by kernel_rfl) rfl (f := 28) (args := #[(.pointer none)]) (by kernel_rfl) (mdl_Locks_dead_nil_ok  hS hx_r1) ?_
  rintro _ w2 ⟨I3, rfl, hl4, hS5⟩
  refine ⟨_, rfl, trivial, ?_⟩
  refine WO.nil ?_
  refine En.next ?_
  refine W.cond (b := true) rfl rfl (fun hc => ?_) (fun hc => ?_)
  rotate_left
  · cases hc
  clear hc
  refine W.seq ?_
  refine W.region (l := [0]) (by kernel_rfl) ?_
  refine WO.vals [(0, 2, (.bool false))] (by kernel_rfl) (fun _ => by kernel_rfl) ?_
  refine WO.nil ?_
  refine En.next ?_
  refine W.ret ?_
  refine En.nx_ret ?_
  have he := Option.some.inj hr
  subst r
  exact En.ret1 rfl (.bool false) rfl ⟨I3, rfl, hl4, hS5⟩
def mdl_Locks_Holds_nil (p1 : Int) : Option (List api_Need) := (mdl_Locks_dead_nil).bind (fun (r6 : Bool) => some ([] : List api_Need))
set_option maxHeartbeats 1000000 in
theorem mdl_Locks_Holds_nil_ok {E w : World} {I : Mem} {Os : List Mem} {p1 : Int} (hS : St E w I Os) {r : (List api_Need)} (hr : mdl_Locks_Holds_nil p1 = some r) :
    Calls P 18 #[(.pointer none), (.int .i64 p1)] w (fun e w' => ∃ (I' : Mem) (ra0 : Option Addr) (rc0 : Nat), e = .returned (.slice ra0 r.length rc0) ∧ I.Le I' ∧ St E w' I' Os ∧ RSl 2 R_api_Need I' ra0 rc0 r) := by
  refine calls_W (args := [(.pointer none), (.int .i64 p1)]) (fn := Try.f18) rfl rfl rfl ?_
  unfold mdl_Locks_Holds_nil at hr
  refine W.seq ?_
  refine W.region (l := [0]) (by kernel_rfl) ?_
  refine WO.vals [(0, 4, (.slice none 0 0))] (by kernel_rfl) (fun _ => by kernel_rfl) ?_
  refine WO.nil ?_
  refine En.next ?_
  refine W.seq ?_
  refine W.seq ?_
  refine W.region (l := [0, 1]) (by kernel_rfl) ?_
  refine WO.vals [(0, 9, (.pointer none))] (by kernel_rfl) (fun _ => by kernel_rfl) ?_
  obtain ⟨r6, hx_r1, hr⟩ := bind_some hr
  obtain rfl : true = r6 := Option.some.inj hx_r1
  refine WO.call rfl (by kernel_rfl) rfl (f := 28) (args := #[(.pointer none)]) (by kernel_rfl) (mdl_Locks_dead_nil_ok  hS hx_r1) ?_
  rintro _ w2 ⟨I3, rfl, hl4, hS5⟩
  refine ⟨_, rfl, trivial, ?_⟩
  refine WO.nil ?_
  refine En.next ?_
  refine W.cond (b := true) rfl rfl (fun hc => ?_) (fun hc => ?_)
  rotate_left
  · cases hc
  clear hc
  refine W.seq ?_
  refine W.region (l := [0]) (by kernel_rfl) ?_
  refine WO.vals [(0, 4, (.slice none 0 0))] (by kernel_rfl) (fun _ => by kernel_rfl) ?_
  refine WO.nil ?_
  refine En.next ?_
  refine W.ret ?_
  refine En.nx_ret ?_
  have he := Option.some.inj hr
  subst r
  exact En.ret1 rfl (.slice none 0 0) rfl ⟨I3, none, 0, rfl, hl4, hS5, SlAt.nil⟩
def mdl_Locks_Blockers_nil (p1 : Int) : Option (List Int) := (mdl_Locks_Waits_nil p1).bind (fun ((r6, r7) : api_Need × Bool) => some ([] : List Int))
set_option maxHeartbeats 1000000 in
theorem mdl_Locks_Blockers_nil_ok {E w : World} {I : Mem} {Os : List Mem} {p1 : Int} (hS : St E w I Os) {r : (List Int)} (hr : mdl_Locks_Blockers_nil p1 = some r) :
    Calls P 26 #[(.pointer none), (.int .i64 p1)] w (fun e w' => ∃ (I' : Mem) (ra0 : Option Addr) (rc0 : Nat), e = .returned (.slice ra0 r.length rc0) ∧ I.Le I' ∧ St E w' I' Os ∧ RSl 1 (RInt .i64) I' ra0 rc0 r) := by
  refine calls_W (args := [(.pointer none), (.int .i64 p1)]) (fn := Try.f26) rfl rfl rfl ?_
  unfold mdl_Locks_Blockers_nil at hr
  refine W.seq ?_
  refine W.region (l := [0]) (by kernel_rfl) ?_
  refine WO.vals [(0, 4, (.slice none 0 0))] (by kernel_rfl) (fun _ => by kernel_rfl) ?_
  refine WO.nil ?_
  refine En.next ?_
  refine W.seq ?_
  refine W.region (l := [0, 1, 2, 3, 4, 5, 6, 7, 8]) (by kernel_rfl) ?_
  refine WO.vals [(0, 12, (.pointer none)), (1, 13, (.int .i64 p1))] (by kernel_rfl) (fun _ => by kernel_rfl) ?_
  obtain ⟨⟨r6, r7⟩, hx_r1, hr⟩ := bind_some hr
  obtain rfl : false = r7 := congrArg (fun t => t.2) (Option.some.inj (show some (_, false) = some (r6, r7) from hx_r1))
  refine WO.call rfl (by kernel_rfl) rfl (f := 20) (args := #[(.pointer none), (.int .i64 p1)]) (by kernel_rfl) (mdl_Locks_Waits_nil_ok  hS hx_r1) ?_
  rintro _ w2 ⟨I3, rfl, hl4, hS5⟩
  refine ⟨_, rfl, trivial, ?_⟩
  refine WO.vals [(3, 11, (.tuple #[(.agg (cs_api_Need r6).toArray), (.bool false)])), (4, 15, (.agg (cs_api_Need r6).toArray)), (5, 16, (.bool false))] (by kernel_rfl) (fun _ => by kernel_rfl) ?_
  refine WO.new hS5 rfl (by kernel_rfl) rfl (.cells (cs_api_Need z_api_Need).toArray 43 (0, 0)) (fun b => .pointer (some ⟨b, 0, none⟩)) (by kernel_rfl) (fun _ _ _ => trivial) ?_
  intro b8 w11 hS10
  refine WO.storeBox hS10 rfl (by kernel_rfl) rfl 0 rfl rfl (by kernel_rfl) (by kernel_rfl) (by kernel_rfl) ((cs_api_Need r6).toArray) (by kernel_rfl) (fun _ _ => trivial) ?_
  intro w13 hS12
  refine WO.vals [(8, 6, (.bool false))] (by kernel_rfl) (fun _ => by kernel_rfl) ?_
  refine WO.nil ?_
  refine En.next ?_
  refine W.seq ?_
  refine W.seq ?_
  refine W.region (l := [0, 1]) (by kernel_rfl) ?_
  refine WO.vals [(0, 17, (.bool false)), (1, 18, (.bool true))] (by kernel_rfl) (fun _ => by kernel_rfl) ?_
  refine WO.nil ?_
  refine En.next ?_
  refine W.cond (b := true) rfl rfl (fun hc => ?_) (fun hc => ?_)
  rotate_left
  · cases hc
  clear hc
  refine W.seq ?_
  refine W.region (l := [0]) (by kernel_rfl) ?_
  refine WO.vals [(0, 4, (.slice none 0 0))] (by kernel_rfl) (fun _ => by kernel_rfl) ?_
  refine WO.nil ?_
  refine En.next ?_
  refine W.ret ?_
  refine En.nx_ret ?_
  have hS14 := hS12.drop
  have he := Option.some.inj hr
  subst r
  exact En.ret1 rfl (.slice none 0 0) rfl ⟨I3, none, 0, rfl, hl4, hS14, SlAt.nil⟩
def mdl_Locks_Paths_nil  : Option (List ByteArray) := (mdl_Locks_dead_nil).bind (fun (r6 : Bool) => some ([] : List ByteArray))
set_option maxHeartbeats 1000000 in
theorem mdl_Locks_Paths_nil_ok {E w : World} {I : Mem} {Os : List Mem} (hS : St E w I Os) {r : (List ByteArray)} (hr : mdl_Locks_Paths_nil = some r) :
    Calls P 11 #[(.pointer none)] w (fun e w' => ∃ (I' : Mem) (ra0 : Option Addr) (rc0 : Nat), e = .returned (.slice ra0 r.length rc0) ∧ I.Le I' ∧ St E w' I' Os ∧ RSl 1 RStr I' ra0 rc0 r) := by
  refine calls_W (args := [(.pointer none)]) (fn := Try.f11) rfl rfl rfl ?_
  unfold mdl_Locks_Paths_nil at hr
  refine W.seq ?_
  refine W.region (l := [0]) (by kernel_rfl) ?_
  refine WO.vals [(0, 2, (.slice none 0 0))] (by kernel_rfl) (fun _ => by kernel_rfl) ?_
  refine WO.nil ?_
  refine En.next ?_
  refine W.seq ?_
  refine W.seq ?_
  refine W.region (l := [0, 1]) (by kernel_rfl) ?_
  refine WO.vals [(0, 3, (.pointer none))] (by kernel_rfl) (fun _ => by kernel_rfl) ?_
  obtain ⟨r6, hx_r1, hr⟩ := bind_some hr
  obtain rfl : true = r6 := Option.some.inj hx_r1
  refine WO.call rfl (by kernel_rfl) rfl (f := 28) (args := #[(.pointer none)]) (by kernel_rfl) (mdl_Locks_dead_nil_ok  hS hx_r1) ?_
  rintro _ w2 ⟨I3, rfl, hl4, hS5⟩
  refine ⟨_, rfl, trivial, ?_⟩
  refine WO.nil ?_
  refine En.next ?_
  refine W.cond (b := true) rfl rfl (fun hc => ?_) (fun hc => ?_)
  rotate_left
  · cases hc
  clear hc
  refine W.seq ?_
  refine W.region (l := [0]) (by kernel_rfl) ?_
  refine WO.vals [(0, 2, (.slice none 0 0))] (by kernel_rfl) (fun _ => by kernel_rfl) ?_
  refine WO.nil ?_
  refine En.next ?_
  refine W.ret ?_
  refine En.nx_ret ?_
  have he := Option.some.inj hr
  subst r
  exact En.ret1 rfl (.slice none 0 0) rfl ⟨I3, none, 0, rfl, hl4, hS5, SlAt.nil⟩
def mdl_Locks_Holders_nil (p1 : ByteArray) : Option (List Int) := (mdl_Locks_dead_nil).bind (fun (r6 : Bool) => some ([] : List Int))
set_option maxHeartbeats 1000000 in
theorem mdl_Locks_Holders_nil_ok {E w : World} {I : Mem} {Os : List Mem} {p1 : ByteArray} (hS : St E w I Os) {r : (List Int)} (hr : mdl_Locks_Holders_nil p1 = some r) :
    Calls P 27 #[(.pointer none), (.string p1)] w (fun e w' => ∃ (I' : Mem) (ra0 : Option Addr) (rc0 : Nat), e = .returned (.slice ra0 r.length rc0) ∧ I.Le I' ∧ St E w' I' Os ∧ RSl 1 (RInt .i64) I' ra0 rc0 r) := by
  refine calls_W (args := [(.pointer none), (.string p1)]) (fn := Try.f27) rfl rfl rfl ?_
  unfold mdl_Locks_Holders_nil at hr
  refine W.seq ?_
  refine W.region (l := [0]) (by kernel_rfl) ?_
  refine WO.vals [(0, 4, (.slice none 0 0))] (by kernel_rfl) (fun _ => by kernel_rfl) ?_
  refine WO.nil ?_
  refine En.next ?_
  refine W.seq ?_
  refine W.seq ?_
  refine W.region (l := [0, 1]) (by kernel_rfl) ?_
  refine WO.vals [(0, 5, (.pointer none))] (by kernel_rfl) (fun _ => by kernel_rfl) ?_
  obtain ⟨r6, hx_r1, hr⟩ := bind_some hr
  obtain rfl : true = r6 := Option.some.inj hx_r1
  refine WO.call rfl (by kernel_rfl) rfl (f := 28) (args := #[(.pointer none)]) (by kernel_rfl) (mdl_Locks_dead_nil_ok  hS hx_r1) ?_
  rintro _ w2 ⟨I3, rfl, hl4, hS5⟩
  refine ⟨_, rfl, trivial, ?_⟩
  refine WO.nil ?_
  refine En.next ?_
  refine W.cond (b := true) rfl rfl (fun hc => ?_) (fun hc => ?_)
  rotate_left
  · cases hc
  clear hc
  refine W.seq ?_
  refine W.region (l := [0]) (by kernel_rfl) ?_
  refine WO.vals [(0, 4, (.slice none 0 0))] (by kernel_rfl) (fun _ => by kernel_rfl) ?_
  refine WO.nil ?_
  refine En.next ?_
  refine W.ret ?_
  refine En.nx_ret ?_
  have he := Option.some.inj hr
  subst r
  exact En.ret1 rfl (.slice none 0 0) rfl ⟨I3, none, 0, rfl, hl4, hS5, SlAt.nil⟩
def mdl_Locks_Waiters_nil (p1 : ByteArray) : Option (List Int) := (mdl_Locks_dead_nil).bind (fun (r6 : Bool) => some ([] : List Int))
set_option maxHeartbeats 1000000 in
theorem mdl_Locks_Waiters_nil_ok {E w : World} {I : Mem} {Os : List Mem} {p1 : ByteArray} (hS : St E w I Os) {r : (List Int)} (hr : mdl_Locks_Waiters_nil p1 = some r) :
    Calls P 12 #[(.pointer none), (.string p1)] w (fun e w' => ∃ (I' : Mem) (ra0 : Option Addr) (rc0 : Nat), e = .returned (.slice ra0 r.length rc0) ∧ I.Le I' ∧ St E w' I' Os ∧ RSl 1 (RInt .i64) I' ra0 rc0 r) := by
  refine calls_W (args := [(.pointer none), (.string p1)]) (fn := Try.f12) rfl rfl rfl ?_
  unfold mdl_Locks_Waiters_nil at hr
  refine W.seq ?_
  refine W.region (l := [0]) (by kernel_rfl) ?_
  refine WO.vals [(0, 4, (.slice none 0 0))] (by kernel_rfl) (fun _ => by kernel_rfl) ?_
  refine WO.nil ?_
  refine En.next ?_
  refine W.seq ?_
  refine W.seq ?_
  refine W.region (l := [0, 1]) (by kernel_rfl) ?_
  refine WO.vals [(0, 8, (.pointer none))] (by kernel_rfl) (fun _ => by kernel_rfl) ?_
  obtain ⟨r6, hx_r1, hr⟩ := bind_some hr
  obtain rfl : true = r6 := Option.some.inj hx_r1
  refine WO.call rfl (by kernel_rfl) rfl (f := 28) (args := #[(.pointer none)]) (by kernel_rfl) (mdl_Locks_dead_nil_ok  hS hx_r1) ?_
  rintro _ w2 ⟨I3, rfl, hl4, hS5⟩
  refine ⟨_, rfl, trivial, ?_⟩
  refine WO.nil ?_
  refine En.next ?_
  refine W.cond (b := true) rfl rfl (fun hc => ?_) (fun hc => ?_)
  rotate_left
  · cases hc
  clear hc
  refine W.seq ?_
  refine W.region (l := [0]) (by kernel_rfl) ?_
  refine WO.vals [(0, 4, (.slice none 0 0))] (by kernel_rfl) (fun _ => by kernel_rfl) ?_
  refine WO.nil ?_
  refine En.next ?_
  refine W.ret ?_
  refine En.nx_ret ?_
  have he := Option.some.inj hr
  subst r
  exact En.ret1 rfl (.slice none 0 0) rfl ⟨I3, none, 0, rfl, hl4, hS5, SlAt.nil⟩
def mdl_Locks_dead_zero  : Option Bool := some true
set_option maxHeartbeats 1000000 in
theorem mdl_Locks_dead_zero_ok {E w : World} {I : Mem} {Os : List Mem} {b_p0 : Nat} (hS : St E w I ((Gv.one b_p0 (.cells #[(.map none)] 56 (0, 0))) :: Os)) {r : Bool} (hr : mdl_Locks_dead_zero = some r) :
    Calls P 28 #[(.pointer (some ⟨b_p0, 0, none⟩))] w (fun e w' => ∃ (I' : Mem), e = .returned (.bool r) ∧ I.Le I' ∧ St E w' I' ((Gv.one b_p0 (.cells #[(.map none)] 56 (0, 0))) :: Os)) := by
  refine calls_W (args := [(.pointer (some ⟨b_p0, 0, none⟩))]) (fn := Try.f28) rfl rfl rfl ?_
  unfold mdl_Locks_dead_zero at hr
  refine W.seq ?_
  refine W.region (l := [0]) (by kernel_rfl) ?_
  refine WO.vals [(0, 2, (.bool false))] (by kernel_rfl) (fun _ => by kernel_rfl) ?_
  refine WO.nil ?_
  refine En.next ?_
  refine W.seq ?_
  refine W.region (l := [0, 1, 2, 3, 4, 5, 6, 7, 8, 9]) (by kernel_rfl) ?_
  refine WO.vals [(0, 3, (.pointer (some ⟨b_p0, 0, none⟩))), (1, 4, (.bool false)), (2, 5, (.bool false)), (3, 6, (.pointer (some ⟨b_p0, 0, none⟩))), (4, 7, (.pointer (some ⟨b_p0, 0, none⟩))), (5, 8, (.pointer (some ⟨b_p0, 0, none⟩)))] (by kernel_rfl) (fun _ => by kernel_rfl) ?_
  refine WO.load rfl (by kernel_rfl) (by kernel_rfl) rfl (v := (.map none)) (fun w' hw' => cell_one ((rd_f (hS.rd (List.Mem.head _))) w' hw') (by kernel_rfl)) ?_
  refine WO.vals [(7, 10, (.bool true)), (8, 11, (.bool true)), (9, 2, (.bool true))] (by kernel_rfl) (fun _ => by kernel_rfl) ?_
  refine WO.nil ?_
  refine En.next ?_
  refine W.ret ?_
  have he := Option.some.inj hr
  subst r
  exact En.ret1 rfl (.bool true) rfl ⟨I, rfl, Mem.Le.refl _, hS⟩
def mdl_Locks_check_zero (p1 : Int) : Option Int := (mdl_Locks_dead_zero).bind (fun (r6 : Bool) => some 1)
set_option maxHeartbeats 1000000 in
theorem mdl_Locks_check_zero_ok {E w : World} {I : Mem} {Os : List Mem} {p1 : Int} {b_p0 : Nat} (hS : St E w I ((Gv.one b_p0 (.cells #[(.map none)] 56 (0, 0))) :: Os)) {r : Int} (hr : mdl_Locks_check_zero p1 = some r) :
    Calls P 37 #[(.pointer (some ⟨b_p0, 0, none⟩)), (.int .i64 p1)] w (fun e w' => ∃ (I' : Mem), e = .returned (.int .i64 r) ∧ I.Le I' ∧ St E w' I' ((Gv.one b_p0 (.cells #[(.map none)] 56 (0, 0))) :: Os)) := by
  refine calls_W (args := [(.pointer (some ⟨b_p0, 0, none⟩)), (.int .i64 p1)]) (fn := Try.f37) rfl rfl rfl ?_
  unfold mdl_Locks_check_zero at hr
  refine W.seq ?_
  refine W.region (l := [0]) (by kernel_rfl) ?_
  refine WO.vals [(0, 4, (.int .i64 0))] (by kernel_rfl) (fun _ => by kernel_rfl) ?_
  refine WO.nil ?_
  refine En.next ?_
  refine W.seq ?_
  refine W.block ?_
  refine W.seq ?_
  refine W.region (l := [0, 1, 2]) (by kernel_rfl) ?_
  refine WO.vals [(0, 6, (.pointer (some ⟨b_p0, 0, none⟩)))] (by kernel_rfl) (fun _ => by kernel_rfl) ?_
  obtain ⟨r6, hx_r1, hr⟩ := bind_some hr
  obtain rfl : true = r6 := Option.some.inj hx_r1
  refine WO.call rfl (by kernel_rfl) rfl (f := 28) (args := #[(.pointer (some ⟨b_p0, 0, none⟩))]) (by kernel_rfl) (mdl_Locks_dead_zero_ok  hS hx_r1) ?_
  rintro _ w2 ⟨I3, rfl, hl4, hS5⟩
  refine ⟨_, rfl, trivial, ?_⟩
  refine WO.vals [(2, 5, (.bool true))] (by kernel_rfl) (fun _ => by kernel_rfl) ?_
  refine WO.nil ?_
  refine En.next ?_
  refine W.cond (b := true) rfl rfl (fun hc => ?_) (fun hc => ?_)
  rotate_left
  · cases hc
  clear hc
  refine W.seq ?_
  refine W.region (l := [0]) (by kernel_rfl) ?_
  refine WO.vals [(0, 4, (.int .i64 1))] (by kernel_rfl) (fun _ => by kernel_rfl) ?_
  refine WO.nil ?_
  refine En.next ?_
  refine W.ret ?_
  refine En.in_ret ?_
  refine En.nx_ret ?_
  have he := Option.some.inj hr
  subst r
  exact En.ret1 rfl (.int .i64 1) rfl ⟨I3, rfl, hl4, hS5⟩
end Go.Proofs.Ytdmefifamlpbiaa
