/- What functions of the program come to, each by a plain one. Conditions: none. -/
import Derived.Test.YtdmefifamlpbiaaF6
set_option maxRecDepth 100000
namespace Go.Proofs.Ytdmefifamlpbiaa
open Go.Gv
def mdl_Locks_Holds (p0 : mdl_Locks) (p1 : Int) : Option (List api_Need) := (mdl_Locks_dead p0).bind (fun (r8 : Bool) => (mdl_Locks_Paths p0).bind (fun (r16 : List ByteArray) => (forE (fun (i21 : Nat) => fun (s20 : List api_Need) => (idx r16 (i21 : Int)).bind (fun (x32 : ByteArray) => (some ((mget sEq p0.at_ x32).getD z_mdl_place)).bind (fun (x33 : mdl_place) => (mdl_find x33.held p1).bind (fun (r39 : Int) => ((bif (decide (r39 ≥ 0)) then (some ((mget sEq p0.at_ x32).getD z_mdl_place)).bind (fun (x44 : mdl_place) => (idx x44.held r39).bind (fun (x45 : mdl_one) => (app 24 s20 ([(⟨x32, x45.mode⟩ : api_Need)] : List api_Need)).bind (fun (x54 : List api_Need) => some x54))) else some s20)).bind (fun (j40 : List api_Need) => some j40))))) r16.length 0 ([] : List api_Need)).bind (fun (s20 : (List api_Need)) => some s20)))
set_option maxHeartbeats 1000000 in
theorem mdl_Locks_Holds_ok {E w : World} {I : Mem} {Os : List Mem} {p0 : mdl_Locks} {p1 : Int} {b_p0 : Nat} {w_p0 : W_mdl_Locks} (h_p0 : ok_mdl_Locks I p0 w_p0) (hS : St E w I ((Gv.one b_p0 (.cells (cs_mdl_Locks p0 w_p0).toArray 56 (0, 0))) :: (w_p0.at_.C) :: Os)) {r : (List api_Need)} (hr : mdl_Locks_Holds p0 p1 = some r) :
    Calls P 18 #[(.pointer (some ⟨b_p0, 0, none⟩)), (.int .i64 p1)] w (fun e w' => ∃ (I' : Mem) (ra0 : Option Addr) (rc0 : Nat), e = .returned (.slice ra0 r.length rc0) ∧ I.Le I' ∧ St E w' I' ((Gv.one b_p0 (.cells (cs_mdl_Locks p0 w_p0).toArray 56 (0, 0))) :: w_p0.at_.C :: Os) ∧ RSl 2 R_api_Need I' ra0 rc0 r) := by
  refine calls_W (args := [(.pointer (some ⟨b_p0, 0, none⟩)), (.int .i64 p1)]) (fn := Try.f18) rfl rfl rfl ?_
  unfold mdl_Locks_Holds at hr
  refine W.seq ?_
  refine W.region (l := [0]) (by kernel_rfl) ?_
  refine WO.vals [(0, 4, (.slice none 0 0))] (by kernel_rfl) (fun _ => by kernel_rfl) ?_
  refine WO.nil ?_
  refine En.next ?_
  refine W.seq ?_
  refine W.seq ?_
  refine W.region (l := [0, 1]) (by kernel_rfl) ?_
  refine WO.vals [(0, 9, (.pointer (some ⟨b_p0, 0, none⟩)))] (by kernel_rfl) (fun _ => by kernel_rfl) ?_
  have hS1 := hS.front1
  have hS2 := hS1.front1
  obtain ⟨r8, hx_r3, hr⟩ := bind_some hr
  obtain rfl : false = r8 := Option.some.inj hx_r3
  refine WO.call rfl (by kernel_rfl) rfl (f := 28) (args := #[(.pointer (some ⟨b_p0, 0, none⟩))]) (by kernel_rfl) (mdl_Locks_dead_ok h_p0 hS2 hx_r3) ?_
  rintro _ w4 ⟨I5, rfl, hl6, hS7⟩
  refine ⟨_, rfl, trivial, ?_⟩
  refine WO.nil ?_
  refine En.next ?_
  refine W.cond (b := false) rfl rfl (fun hc => ?_) (fun hc => ?_)
  · cases hc
  clear hc
  refine W.skip ?_
  refine En.next ?_
  refine W.seq ?_
  refine W.region (l := [0]) (by kernel_rfl) ?_
  refine WO.vals [(0, 5, (.slice none 0 0))] (by kernel_rfl) (fun _ => by kernel_rfl) ?_
  refine WO.nil ?_
  refine En.next ?_
  refine W.seq ?_
  refine W.seq ?_
  refine W.region (l := [0, 1, 2, 3]) (by kernel_rfl) ?_
  refine WO.vals [(0, 11, (.pointer (some ⟨b_p0, 0, none⟩)))] (by kernel_rfl) (fun _ => by kernel_rfl) ?_
  have hS9 := hS7.front1
  have hS10 := hS9.front1
  obtain ⟨r16, hx_r11, hr⟩ := bind_some hr
  refine WO.call rfl (by kernel_rfl) rfl (f := 11) (args := #[(.pointer (some ⟨b_p0, 0, none⟩))]) (by kernel_rfl) (mdl_Locks_Paths_ok (h_p0.mono hl6) hS10 hx_r11) ?_
  rintro _ w12 ⟨I13, a_r16, c_r16, rfl, hl14, hS15, h_r16⟩
  refine ⟨_, rfl, trivial, ?_⟩
  refine WO.vals [(2, 13, (.int .i64 (r16.length : Int))), (3, 14, (.int .i64 0))] (by kernel_rfl) (fun _ => by kernel_rfl) ?_
  refine WO.nil ?_
  refine En.next ?_
  refine W.block ?_
  obtain ⟨s20, hloop22, hr⟩ := bind_some hr
  have hS24 := hS15.no
  have hS25 := hS24.front2
  have hS26 := hS25.front2
  have hlt30 := (h_r16).len_lt
  refine W.weaken (fr' := [(0, (.pointer (some ⟨b_p0, 0, none⟩))), (1, (.int .i64 p1)), (5, (.slice none ([] : List api_Need).length 0)), (12, (.slice a_r16 r16.length c_r16)), (13, (.int .i64 (r16.length : Int))), (14, (.int .i64 ((0 : Nat) : Int)))]) (W.forE (m := r16.length) hloop22 (fun (i21 : Nat) => fun (s20 : List api_Need) fr w => ∃ (I18 : Mem), ∃ (a_s20 : Option Addr), ∃ (c_s20 : Nat), ∃ (C_s20 : Mem), fr = [(0, (.pointer (some ⟨b_p0, 0, none⟩))), (1, (.int .i64 p1)), (5, (.slice a_s20 s20.length c_s20)), (12, (.slice a_r16 r16.length c_r16)), (13, (.int .i64 (r16.length : Int))), (14, (.int .i64 (i21 : Int)))] ∧ I13.Le I18 ∧ St E w I18 ((Gv.one b_p0 (.cells (cs_mdl_Locks p0 w_p0).toArray 56 (0, 0))) :: (w_p0.at_.C) :: (C_s20) :: Os) ∧ OwnSl 43 2 R_api_Need I18 C_s20 a_s20 c_s20 s20) ⟨I13, none, 0, Mem.no, rfl, Mem.Le.refl _, hS26, OwnSl.nil⟩ ?roundt17 ?lastt17) (Sub.cons rfl (Sub.cons rfl (Sub.cons rfl (Sub.cons rfl (Sub.cons rfl (Sub.cons rfl Sub.nil))))))
  case roundt17 =>
    rintro i21 s20 _ w27 hi31 ⟨I18, a_s20, c_s20, C_s20, rfl, hl19, hS28, h_s20⟩ x29 hr1
    refine W.seq ?_
    refine W.region (l := [0]) (by kernel_rfl) ?_
    refine WO.vals [(0, 15, (.bool (decide ((i21 : Int) < (r16.length : Int)))))] (by kernel_rfl) (fun _ => by kernel_rfl) ?_
    refine WO.nil ?_
    refine En.next ?_
    refine W.seq ?_
    refine W.cond (b := (decide ((i21 : Int) < (r16.length : Int)))) rfl rfl (fun hc => ?_) (fun hc => ?_)
    rotate_left
    · exact absurd hc (by first | (simp; done) | (simp; omega))
    clear hc
    refine W.skip ?_
    refine En.next ?_
    refine W.seq ?_
    refine W.block ?_
    refine W.seq ?_
    refine W.region (l := [0, 1, 2]) (by kernel_rfl) ?_
    obtain ⟨x32, hx_x32, hr1⟩ := bind_some hr1
    obtain ⟨h0_x32, h1_x32, hx_x32⟩ := idx_some hx_x32
    obtain ⟨ha_x32, cs_x32, hn_x32, hr_x32, hc_x32⟩ := ((RSl.mono h_r16 hl19)).el _ _ hx_x32
    obtain rfl := hr_x32
    refine WO.indexAddr (e := 9) (sz := 1) rfl (by kernel_rfl) (by kernel_rfl) (by kernel_rfl) rfl ha_x32 rfl h0_x32 h1_x32 ?_
    refine WO.load rfl (by kernel_rfl) (by kernel_rfl) rfl (v := (.string x32)) (fun w' hw' => hc_x32.cell0 (by kernel_rfl) ((rd_f hS28.im) w' hw')) ?_
    refine WO.vals [(2, 7, (.string x32))] (by kernel_rfl) (fun _ => by kernel_rfl) ?_
    refine WO.nil ?_
    refine En.next ?_
    refine W.seq ?_
    refine W.region (l := [0, 1, 2, 3, 4, 5, 6, 7, 8, 9]) (by kernel_rfl) ?_
    refine WO.vals [(0, 18, (.pointer (some ⟨b_p0, 0, none⟩))), (1, 19, (.pointer (some ⟨b_p0, 0, none⟩))), (2, 20, (.pointer (some ⟨b_p0, 0, none⟩)))] (by kernel_rfl) (fun _ => by kernel_rfl) ?_
    refine WO.load rfl (by kernel_rfl) (by kernel_rfl) rfl (v := (.map (some w_p0.at_.m))) (fun w' hw' => cell_one ((rd_f (hS28.rd (List.Mem.head _))) w' hw') (by kernel_rfl)) ?_
    refine WO.vals [(4, 22, (.string x32))] (by kernel_rfl) (fun _ => by kernel_rfl) ?_
    obtain ⟨x33, hx_x33, hr1⟩ := bind_some hr1
    obtain ⟨v_x33, hv_x33, hq_x33⟩ := OwnMap.lookup (OwnMap.mono h_p0.at_ ((hl6.trans hl14).trans hl19)) (t := 54) (kt := 9) (et := 68) (by kernel_rfl) (keyLaw_str (kt := 9) (by kernel_rfl)) x32 (zv := (.agg (cs_mdl_place z_mdl_place zw_mdl_place).toArray)) (z0 := z_mdl_place) (by kernel_rfl) ⟨(cs_mdl_place z_mdl_place zw_mdl_place), rfl, ⟨zw_mdl_place, rfl, zok_mdl_place⟩⟩
    rw [Option.some.inj hx_x33] at hv_x33
    obtain ⟨_, rfl, hv_x33⟩ := hv_x33
    obtain ⟨w_x33, rfl, h_x33⟩ := hv_x33
    refine WO.lookup rfl (by kernel_rfl) rfl rfl hq_x33 ((rd_f (hS28.rd (List.Mem.tail _ (List.Mem.head _))))) (.agg (cs_mdl_place x33 w_x33).toArray) rfl ?_
    refine WO.vals [(6, 24, (.slice w_x33.held.a x33.held.length w_x33.held.c)), (7, 25, (.int .i64 p1))] (by kernel_rfl) (fun _ => by kernel_rfl) ?_
    obtain ⟨r39, hx_r34, hr1⟩ := bind_some hr1
    refine WO.call rfl (by kernel_rfl) rfl (f := 32) (args := #[(.slice w_x33.held.a x33.held.length w_x33.held.c), (.int .i64 p1)]) (by kernel_rfl) (mdl_find_ok h_x33.held hS28 hx_r34) ?_
    rintro _ w35 ⟨I36, rfl, hl37, hS38⟩
    refine ⟨_, rfl, trivial, ?_⟩
    refine WO.vals [(9, 8, (.int .i64 r39))] (by kernel_rfl) (fun _ => by kernel_rfl) ?_
    refine WO.nil ?_
    refine En.next ?_
    refine W.seq ?_
    refine W.region (l := [0, 1]) (by kernel_rfl) ?_
    refine WO.vals [(0, 27, (.int .i64 r39)), (1, 28, (.bool (decide (r39 ≥ 0))))] (by kernel_rfl) (fun _ => by kernel_rfl) ?_
    refine WO.nil ?_
    refine En.next ?_
    obtain ⟨j40, hr2, hr1⟩ := bind_some hr1
    refine W.join (J := (fun fr w => ∃ (I42 : Mem), ∃ (a_j40 : Option Addr), ∃ (c_j40 : Nat), ∃ (C_j40 : Mem), fr = [(0, (.pointer (some ⟨b_p0, 0, none⟩))), (1, (.int .i64 p1)), (5, (.slice a_j40 j40.length c_j40)), (12, (.slice a_r16 r16.length c_r16)), (13, (.int .i64 (r16.length : Int))), (14, (.int .i64 (i21 : Int)))] ∧ I36.Le I42 ∧ St E w I42 ((Gv.one b_p0 (.cells (cs_mdl_Locks p0 w_p0).toArray 56 (0, 0))) :: (w_p0.at_.C) :: (C_j40) :: Os) ∧ OwnSl 43 2 R_api_Need I42 C_j40 a_j40 c_j40 j40)) ?restj40 ?waysj40
    case waysj40 =>
      refine W.cond (b := (decide (r39 ≥ 0))) rfl rfl (fun hc => ?_) (fun hc => ?_)
      · replace hr2 := cond_t hc hr2
        refine W.region (l := [0, 1, 2, 3, 4, 5, 6, 7, 8, 9, 10, 11, 12, 13, 14, 15, 16]) (by kernel_rfl) ?_
        refine WO.vals [(0, 29, (.slice a_s20 s20.length c_s20)), (1, 30, (.string x32)), (2, 31, (.pointer (some ⟨b_p0, 0, none⟩))), (3, 32, (.pointer (some ⟨b_p0, 0, none⟩))), (4, 33, (.pointer (some ⟨b_p0, 0, none⟩)))] (by kernel_rfl) (fun _ => by kernel_rfl) ?_
        refine WO.load rfl (by kernel_rfl) (by kernel_rfl) rfl (v := (.map (some w_p0.at_.m))) (fun w' hw' => cell_one ((rd_f (hS38.rd (List.Mem.head _))) w' hw') (by kernel_rfl)) ?_
        refine WO.vals [(6, 35, (.string x32))] (by kernel_rfl) (fun _ => by kernel_rfl) ?_
        obtain ⟨x44, hx_x44, hr2⟩ := bind_some hr2
        obtain ⟨v_x44, hv_x44, hq_x44⟩ := OwnMap.lookup (OwnMap.mono h_p0.at_ (((hl6.trans hl14).trans hl19).trans hl37)) (t := 54) (kt := 9) (et := 68) (by kernel_rfl) (keyLaw_str (kt := 9) (by kernel_rfl)) x32 (zv := (.agg (cs_mdl_place z_mdl_place zw_mdl_place).toArray)) (z0 := z_mdl_place) (by kernel_rfl) ⟨(cs_mdl_place z_mdl_place zw_mdl_place), rfl, ⟨zw_mdl_place, rfl, zok_mdl_place⟩⟩
        rw [Option.some.inj hx_x44] at hv_x44
        obtain ⟨_, rfl, hv_x44⟩ := hv_x44
        obtain ⟨w_x44, rfl, h_x44⟩ := hv_x44
        refine WO.lookup rfl (by kernel_rfl) rfl rfl hq_x44 ((rd_f (hS38.rd (List.Mem.tail _ (List.Mem.head _))))) (.agg (cs_mdl_place x44 w_x44).toArray) rfl ?_
        refine WO.vals [(8, 37, (.slice w_x44.held.a x44.held.length w_x44.held.c)), (9, 38, (.int .i64 r39))] (by kernel_rfl) (fun _ => by kernel_rfl) ?_
        obtain ⟨x45, hx_x45, hr2⟩ := bind_some hr2
        obtain ⟨h0_x45, h1_x45, hx_x45⟩ := idx_some hx_x45
        obtain ⟨ha_x45, cs_x45, hn_x45, hr_x45, hc_x45⟩ := (h_x44.held).el _ _ hx_x45
        obtain rfl := hr_x45
        refine WO.indexAddr (e := 70) (sz := 2) rfl (by kernel_rfl) (by kernel_rfl) (by kernel_rfl) rfl ha_x45 rfl h0_x45 h1_x45 ?_
        refine WO.vals [(11, 40, (.pointer (some ⟨bl w_x44.held.a, of w_x44.held.a + (r39).toNat * 2 + 1, none⟩)))] (by kernel_rfl) (fun _ => by kernel_rfl) ?_
        refine WO.load rfl (by kernel_rfl) (by kernel_rfl) rfl (v := (.int .i64 x45.mode)) (fun w' hw' => hc_x45.cellk 1 (by kernel_rfl) ((rd_f hS38.im) w' hw')) ?_
        refine WO.vals [(13, 42, (.agg (cs_api_Need (⟨x32, x45.mode⟩ : api_Need)).toArray))] (by kernel_rfl) (fun _ => by kernel_rfl) ?_
        refine WO.newSlice (rel := R_api_Need) (xs := ([(⟨x32, x45.mode⟩ : api_Need)] : List api_Need)) hS38 rfl (by kernel_rfl) rfl 43 2 [(cs_api_Need (⟨x32, x45.mode⟩ : api_Need))] (by kernel_rfl) rfl ((Elr.cons rfl Elr.nil)) (fun _ _ _ => trivial) ?_
        intro a49 C47 w51 hS50 ho48
        have hS53 := hS50.front3
        obtain ⟨x54, hx_x54, hr2⟩ := bind_some hr2
        obtain ⟨h0_x54, he_x54⟩ := app_some hx_x54
        refine WO.append (e' := 43) (b := 24) (zs := (cs_api_Need z_api_Need).toArray) hS53 (OwnSl.mono h_s20 hl37) rfl (by kernel_rfl) rfl (by kernel_rfl) (by kernel_rfl) (by kernel_rfl) rfl rfl rfl rfl ho48.sl (hS53.rd (List.Mem.tail _ (List.Mem.head _))) h0_x54 he_x54 (fun _ _ _ => trivial) ?_
        intro a55 c56 w57 C58 hS59 ho60
        have hS61 := hS59.front1
        have hS62 := hS61.drop
        refine WO.vals [(16, 5, (.slice a55 x54.length c56))] (by kernel_rfl) (fun _ => by kernel_rfl) ?_
        refine WO.nil ?_
        have hS63 := hS62.front2
        have hS64 := hS63.front2
        have he := Option.some.inj hr2
        subst j40
        refine En.weaken (fr' := [(0, (.pointer (some ⟨b_p0, 0, none⟩))), (1, (.int .i64 p1)), (5, (.slice a55 x54.length c56)), (12, (.slice a_r16 r16.length c_r16)), (13, (.int .i64 (r16.length : Int))), (14, (.int .i64 (i21 : Int)))]) (En.round ⟨I36, a55, c56, C58, rfl, Mem.Le.refl _, hS64, ho60⟩) (Sub.cons rfl (Sub.cons rfl (Sub.cons rfl (Sub.cons rfl (Sub.cons rfl (Sub.cons rfl Sub.nil))))))
      · replace hr2 := cond_f hc hr2
        refine W.skip ?_
        have he := Option.some.inj hr2
        subst j40
        refine En.weaken (fr' := [(0, (.pointer (some ⟨b_p0, 0, none⟩))), (1, (.int .i64 p1)), (5, (.slice a_s20 s20.length c_s20)), (12, (.slice a_r16 r16.length c_r16)), (13, (.int .i64 (r16.length : Int))), (14, (.int .i64 (i21 : Int)))]) (En.round ⟨I36, a_s20, c_s20, C_s20, rfl, Mem.Le.refl _, hS38, (OwnSl.mono h_s20 hl37)⟩) (Sub.cons rfl (Sub.cons rfl (Sub.cons rfl (Sub.cons rfl (Sub.cons rfl (Sub.cons rfl Sub.nil))))))
    case restj40 =>
      rintro _ w65 ⟨I42, a_j40, c_j40, C_j40, rfl, hl43, hS66, h_j40⟩
      refine En.in_normal ?_
      refine En.next ?_
      refine W.region (l := [0, 1]) (by kernel_rfl) ?_
      refine WO.incr (j := i21) rfl (by kernel_rfl) rfl (by first | omega | (dsimp only at *; omega)) ?_
      refine WO.vals [(1, 14, (.int .i64 ((i21 + 1 : Nat) : Int)))] (by kernel_rfl) (fun _ => by kernel_rfl) ?_
      refine WO.nil ?_
      have he := Option.some.inj hr1
      subst x29
      refine En.weaken (fr' := [(0, (.pointer (some ⟨b_p0, 0, none⟩))), (1, (.int .i64 p1)), (5, (.slice a_j40 j40.length c_j40)), (12, (.slice a_r16 r16.length c_r16)), (13, (.int .i64 (r16.length : Int))), (14, (.int .i64 ((i21 + 1 : Nat) : Int)))]) (En.round ⟨I42, a_j40, c_j40, C_j40, rfl, ((hl19.trans hl37).trans hl43), hS66, h_j40⟩) (Sub.cons rfl (Sub.cons rfl (Sub.cons rfl (Sub.cons rfl (Sub.cons rfl (Sub.cons rfl Sub.nil))))))
  case lastt17 =>
    rintro _ w67 ⟨I18, a_s20, c_s20, C_s20, rfl, hl19, hS68, h_s20⟩
    refine W.seq ?_
    refine W.region (l := [0]) (by kernel_rfl) ?_
    refine WO.vals [(0, 15, (.bool (decide ((r16.length : Int) < (r16.length : Int)))))] (by kernel_rfl) (fun _ => by kernel_rfl) ?_
    refine WO.nil ?_
    refine En.next ?_
    refine W.seq ?_
    refine W.cond (b := (decide ((r16.length : Int) < (r16.length : Int)))) rfl rfl (fun hc => ?_) (fun hc => ?_)
    · exact absurd hc (by first | (simp; done) | (simp; omega))
    clear hc
    refine W.exit ?_
    refine En.nx_exit ?_
    refine En.rd_exit ?_
    refine En.in_hit ?_
    refine En.next ?_
    refine W.seq ?_
    refine W.region (l := [0, 1]) (by kernel_rfl) ?_
    refine WO.vals [(0, 46, (.slice a_s20 s20.length c_s20))] (by kernel_rfl) (fun _ => by kernel_rfl) ?_
    have hS69 := hS68.front2
    obtain ⟨I70, hl71, hS73, hp72⟩ := OwnSl.pub h_s20 hS69
    refine WO.vals [(1, 4, (.slice a_s20 s20.length c_s20))] (by kernel_rfl) (fun _ => by kernel_rfl) ?_
    refine WO.nil ?_
    refine En.next ?_
    refine W.ret ?_
    have he := Option.some.inj hr
    subst r
    exact En.ret1 rfl (.slice a_s20 s20.length c_s20) rfl ⟨I70, a_s20, c_s20, rfl, (((hl6.trans hl14).trans hl19).trans hl71), hS73, hp72⟩
noncomputable def registrarref21_Locks_Holds (p0 : registrarref21_Locks) (p1 : Int) : Option (List api_Need) := (forE (fun (i5 : Nat) => fun (s4 : List api_Need) => ((idx p0.L (i5 : Int)).bind (fun (x16 : registrarref21_One) => (bif ((x16.Who != p1) || (!x16.Held)) then some s4 else (loopO (fun (s29 : Int) => ((bif (decide (s29 < (s4.length : Int))) then (idx s4 s29).bind (fun (x42 : api_Need) => some (sLt x42.Path x16.Path)) else some false)).bind (fun (j38 : Bool) => (bif j38 then some (.inl (w64 (s29 + 1))) else some (.inr s29)))) 0).bind (fun (s46 : Int) => (sub s4 0 s46).bind (fun (x47 : List api_Need) => (app 24 ([] : List api_Need) x47).bind (fun (x50 : List api_Need) => (app 24 x50 ([(⟨x16.Path, x16.Mode⟩ : api_Need)] : List api_Need)).bind (fun (x65 : List api_Need) => (sub s4 s46 (s4.length : Int)).bind (fun (x74 : List api_Need) => (app 24 x65 x74).bind (fun (x75 : List api_Need) => some x75))))))))).bind (fun (j12 : List api_Need) => some j12)) p0.L.length 0 ([] : List api_Need)).bind (fun (s4 : (List api_Need)) => some s4)
set_option maxHeartbeats 1000000 in
theorem registrarref21_Locks_Holds_ok {E w : World} {I : Mem} {Os : List Mem} {p0 : registrarref21_Locks} {p1 : Int} {b_p0 : Nat} {w_p0 : W_registrarref21_Locks} (h_p0 : ok_registrarref21_Locks I p0 w_p0) (hS : St E w I ((Gv.one b_p0 (.cells (cs_registrarref21_Locks p0 w_p0).toArray 51 (0, 0))) :: (w_p0.L.C) :: Os)) {r : (List api_Need)} (hr : registrarref21_Locks_Holds p0 p1 = some r) :
    Calls P 51 #[(.pointer (some ⟨b_p0, 0, none⟩)), (.int .i64 p1)] w (fun e w' => ∃ (I' : Mem) (ra0 : Option Addr) (rc0 : Nat), e = .returned (.slice ra0 r.length rc0) ∧ I.Le I' ∧ St E w' I' ((Gv.one b_p0 (.cells (cs_registrarref21_Locks p0 w_p0).toArray 51 (0, 0))) :: w_p0.L.C :: Os) ∧ RSl 2 R_api_Need I' ra0 rc0 r) := by
  refine calls_W (args := [(.pointer (some ⟨b_p0, 0, none⟩)), (.int .i64 p1)]) (fn := Try.f51) rfl rfl rfl ?_
  unfold registrarref21_Locks_Holds at hr
  refine W.seq ?_
  refine W.region (l := [0]) (by kernel_rfl) ?_
  refine WO.vals [(0, 4, (.slice none 0 0))] (by kernel_rfl) (fun _ => by kernel_rfl) ?_
  refine WO.nil ?_
  refine En.next ?_
  refine W.seq ?_
  refine W.region (l := [0]) (by kernel_rfl) ?_
  refine WO.vals [(0, 5, (.slice none 0 0))] (by kernel_rfl) (fun _ => by kernel_rfl) ?_
  refine WO.nil ?_
  refine En.next ?_
  refine W.seq ?_
  refine W.seq ?_
  refine W.region (l := [0]) (by kernel_rfl) ?_
  refine WO.vals [(0, 6, (.int .i64 0))] (by kernel_rfl) (fun _ => by kernel_rfl) ?_
  refine WO.nil ?_
  refine En.next ?_
  refine W.block ?_
  obtain ⟨s4, hloop6, hr⟩ := bind_some hr
  have hlt10 := (h_p0.L.sl).len_lt
  refine W.weaken (fr' := [(0, (.pointer (some ⟨b_p0, 0, none⟩))), (1, (.int .i64 p1)), (5, (.slice none 0 0)), (6, (.int .i64 ((0 : Nat) : Int)))]) (W.forE (m := p0.L.length) hloop6 (fun (i5 : Nat) => fun (s4 : List api_Need) fr w => ∃ (I2 : Mem), ∃ (a_s4 : Option Addr), ∃ (c_s4 : Nat), fr = [(0, (.pointer (some ⟨b_p0, 0, none⟩))), (1, (.int .i64 p1)), (5, (.slice a_s4 s4.length c_s4)), (6, (.int .i64 (i5 : Int)))] ∧ I.Le I2 ∧ St E w I2 ((Gv.one b_p0 (.cells (cs_registrarref21_Locks p0 w_p0).toArray 51 (0, 0))) :: (w_p0.L.C) :: Os) ∧ RSl 2 R_api_Need I2 a_s4 c_s4 s4) ⟨I, none, 0, rfl, Mem.Le.refl _, hS, SlAt.nil⟩ ?roundt1 ?lastt1) (Sub.cons rfl (Sub.cons rfl (Sub.cons rfl (Sub.cons rfl Sub.nil))))
  case roundt1 =>
    rintro i5 s4 _ w7 hi11 ⟨I2, a_s4, c_s4, rfl, hl3, hS8, h_s4⟩ x9 hr1
    refine W.seq ?_
    refine W.seq ?_
    refine W.region (l := [0, 1, 2, 3, 4, 5, 6]) (by kernel_rfl) ?_
    refine WO.vals [(0, 10, (.int .i64 (i5 : Int))), (1, 11, (.pointer (some ⟨b_p0, 0, none⟩))), (2, 12, (.pointer (some ⟨b_p0, 0, none⟩))), (3, 13, (.pointer (some ⟨b_p0, 0, none⟩)))] (by kernel_rfl) (fun _ => by kernel_rfl) ?_
    refine WO.load rfl (by kernel_rfl) (by kernel_rfl) rfl (v := (.slice w_p0.L.a p0.L.length w_p0.L.c)) (fun w' hw' => cell_one ((rd_f (hS8.rd (List.Mem.head _))) w' hw') (by kernel_rfl)) ?_
    refine WO.vals [(5, 15, (.int .i64 (p0.L.length : Int))), (6, 16, (.bool (decide ((i5 : Int) < (p0.L.length : Int)))))] (by kernel_rfl) (fun _ => by kernel_rfl) ?_
    refine WO.nil ?_
    refine En.next ?_
    refine W.cond (b := (decide ((i5 : Int) < (p0.L.length : Int)))) rfl rfl (fun hc => ?_) (fun hc => ?_)
    rotate_left
    · exact absurd hc (by first | (simp; done) | (simp; omega))
    clear hc
    refine W.skip ?_
    refine En.next ?_
    refine W.seq ?_
    obtain ⟨j12, hr2, hr1⟩ := bind_some hr1
    refine W.join (J := (fun fr w => ∃ (I14 : Mem), ∃ (a_j12 : Option Addr), ∃ (c_j12 : Nat), fr = [(0, (.pointer (some ⟨b_p0, 0, none⟩))), (1, (.int .i64 p1)), (5, (.slice a_j12 j12.length c_j12)), (6, (.int .i64 (i5 : Int)))] ∧ I2.Le I14 ∧ St E w I14 ((Gv.one b_p0 (.cells (cs_registrarref21_Locks p0 w_p0).toArray 51 (0, 0))) :: (w_p0.L.C) :: Os) ∧ RSl 2 R_api_Need I14 a_j12 c_j12 j12)) ?restj12 ?waysj12
    case waysj12 =>
      refine W.block ?_
      refine W.seq ?_
      refine W.region (l := [0, 1, 2, 3, 4, 5, 6, 7, 8]) (by kernel_rfl) ?_
      refine WO.vals [(0, 19, (.pointer (some ⟨b_p0, 0, none⟩))), (1, 20, (.pointer (some ⟨b_p0, 0, none⟩))), (2, 21, (.pointer (some ⟨b_p0, 0, none⟩)))] (by kernel_rfl) (fun _ => by kernel_rfl) ?_
      refine WO.load rfl (by kernel_rfl) (by kernel_rfl) rfl (v := (.slice w_p0.L.a p0.L.length w_p0.L.c)) (fun w' hw' => cell_one ((rd_f (hS8.rd (List.Mem.head _))) w' hw') (by kernel_rfl)) ?_
      refine WO.vals [(4, 23, (.int .i64 (i5 : Int)))] (by kernel_rfl) (fun _ => by kernel_rfl) ?_
      obtain ⟨x16, hx_x16, hr2⟩ := bind_some hr2
      obtain ⟨h0_x16, h1_x16, hx_x16⟩ := idx_some hx_x16
      obtain ⟨ha_x16, cs_x16, hn_x16, hr_x16, hc_x16⟩ := ((h_p0.L.mono hl3).sl).el _ _ hx_x16
      obtain rfl := hr_x16
      refine WO.indexAddr (e := 98) (sz := 4) rfl (by kernel_rfl) (by kernel_rfl) (by kernel_rfl) rfl ha_x16 rfl h0_x16 h1_x16 ?_
      refine WO.loadN rfl (by kernel_rfl) (by kernel_rfl) rfl ((cs_registrarref21_One x16)) (by kernel_rfl) (fun w' hw' => hc_x16.cells (k := 0) (by kernel_rfl) rfl ((rd_f (hS8.rd (List.Mem.tail _ (List.Mem.head _)))) w' hw')) ?_
      refine WO.new hS8 rfl (by kernel_rfl) rfl (.cells (cs_registrarref21_One z_registrarref21_One).toArray 98 (0, 0)) (fun b => .pointer (some ⟨b, 0, none⟩)) (by kernel_rfl) (fun _ _ _ => trivial) ?_
      intro b17 w20 hS19
      refine WO.storeBox hS19 rfl (by kernel_rfl) rfl 0 rfl rfl (by kernel_rfl) (by kernel_rfl) (by kernel_rfl) ((cs_registrarref21_One x16).toArray) (by kernel_rfl) (fun _ _ => trivial) ?_
      intro w22 hS21
      refine WO.nil ?_
      refine En.next ?_
      refine W.seq ?_
      refine W.seq ?_
      refine W.region (l := [0, 1, 2, 3, 4, 5, 6, 7, 8]) (by kernel_rfl) ?_
      refine WO.vals [(0, 26, (.pointer (some ⟨b17, 0, none⟩)))] (by kernel_rfl) (fun _ => by kernel_rfl) ?_
      refine WO.load rfl (by kernel_rfl) (by kernel_rfl) rfl (v := (.int .i64 x16.Who)) (fun w' hw' => cell_one ((rd_f (hS21.rd (List.Mem.head _))) w' hw') (by kernel_rfl)) ?_
      refine WO.vals [(2, 28, (.int .i64 p1)), (3, 29, (.bool (x16.Who != p1))), (4, 30, (.bool (x16.Who != p1)))] (by kernel_rfl) (fun _ => by kernel_rfl) ?_
      refine WO.join (l1 := [5, 6, 7, 8]) (l2 := []) (J := fun frx wx => frx = [(34, (.bool ((x16.Who != p1) || (!x16.Held)))), (0, (.pointer (some ⟨b_p0, 0, none⟩))), (1, (.int .i64 p1)), (5, (.slice a_s4 s4.length c_s4)), (6, (.int .i64 (i5 : Int))), (7, (.pointer (some ⟨b17, 0, none⟩)))] ∧ w22 = wx) ?restm23 ?waysm23
      case waysm23 =>
        refine WO.caseb (x16.Who != p1) (fun hc => ?_) (fun hc => ?_)
        · skip
          refine WO.reslot 30 rfl (show Value.bool (x16.Who != p1) = Value.bool true by rw [hc]) ?_
          refine WO.pass rfl (by kernel_rfl) rfl ?_
          refine WO.pass rfl (by kernel_rfl) rfl ?_
          refine WO.pass rfl (by kernel_rfl) rfl ?_
          refine WO.vals [(8, 34, (.bool true))] (by kernel_rfl) (fun _ => by kernel_rfl) ?_
          refine WO.weaken (fr' := [(34, (.bool ((x16.Who != p1) || (!x16.Held)))), (0, (.pointer (some ⟨b_p0, 0, none⟩))), (1, (.int .i64 p1)), (5, (.slice a_s4 s4.length c_s4)), (6, (.int .i64 (i5 : Int))), (7, (.pointer (some ⟨b17, 0, none⟩)))]) (WO.meet ⟨rfl, rfl⟩) (Sub.cons (by rw [hc]; rfl) (Sub.cons rfl (Sub.cons rfl (Sub.cons rfl (Sub.cons rfl (Sub.cons rfl Sub.nil))))))
        · skip
          refine WO.reslot 30 rfl (show Value.bool (x16.Who != p1) = Value.bool false by rw [hc]) ?_
          refine WO.vals [(5, 31, (.pointer (some ⟨b17, 3, none⟩)))] (by kernel_rfl) (fun _ => by kernel_rfl) ?_
          refine WO.load rfl (by kernel_rfl) (by kernel_rfl) rfl (v := (.bool x16.Held)) (fun w' hw' => cell_one ((rd_f (hS21.rd (List.Mem.head _))) w' hw') (by kernel_rfl)) ?_
          refine WO.vals [(7, 33, (.bool (!x16.Held))), (8, 34, (.bool (!x16.Held)))] (by kernel_rfl) (fun _ => by kernel_rfl) ?_
          refine WO.weaken (fr' := [(34, (.bool ((x16.Who != p1) || (!x16.Held)))), (0, (.pointer (some ⟨b_p0, 0, none⟩))), (1, (.int .i64 p1)), (5, (.slice a_s4 s4.length c_s4)), (6, (.int .i64 (i5 : Int))), (7, (.pointer (some ⟨b17, 0, none⟩)))]) (WO.meet ⟨rfl, rfl⟩) (Sub.cons (by rw [hc]; rfl) (Sub.cons rfl (Sub.cons rfl (Sub.cons rfl (Sub.cons rfl (Sub.cons rfl Sub.nil))))))
      case restm23 =>
        rintro _ _ ⟨rfl, rfl⟩
        refine WO.nil ?_
        refine En.next ?_
        refine W.cond (b := ((x16.Who != p1) || (!x16.Held))) rfl rfl (fun hc => ?_) (fun hc => ?_)
        · replace hr2 := cond_t hc hr2
          refine W.exit ?_
          refine En.nx_exit ?_
          refine En.in_hit ?_
          have hS25 := hS21.drop
          have he := Option.some.inj hr2
          subst j12
          refine En.weaken (fr' := [(0, (.pointer (some ⟨b_p0, 0, none⟩))), (1, (.int .i64 p1)), (5, (.slice a_s4 s4.length c_s4)), (6, (.int .i64 (i5 : Int)))]) (En.round ⟨I2, a_s4, c_s4, rfl, Mem.Le.refl _, hS25, h_s4⟩) (Sub.cons rfl (Sub.cons rfl (Sub.cons rfl (Sub.cons rfl Sub.nil))))
        · replace hr2 := cond_f hc hr2
          refine W.skip ?_
          refine En.next ?_
          refine W.seq ?_
          refine W.region (l := [0]) (by kernel_rfl) ?_
          refine WO.vals [(0, 8, (.int .i64 0))] (by kernel_rfl) (fun _ => by kernel_rfl) ?_
          refine WO.nil ?_
          refine En.next ?_
          refine W.seq ?_
          refine W.block ?_
          obtain ⟨t26, hloop30, hr2⟩ := bind_some hr2
          have hS31 := hS21.front2
          have hS32 := hS31.front2
          refine W.weaken (fr' := [(0, (.pointer (some ⟨b_p0, 0, none⟩))), (1, (.int .i64 p1)), (5, (.slice a_s4 s4.length c_s4)), (6, (.int .i64 (i5 : Int))), (7, (.pointer (some ⟨b17, 0, none⟩))), (8, (.int .i64 0))]) (W.loopO hloop30 (fun (s29 : Int) fr w => ∃ (I27 : Mem), fr = [(0, (.pointer (some ⟨b_p0, 0, none⟩))), (1, (.int .i64 p1)), (5, (.slice a_s4 s4.length c_s4)), (6, (.int .i64 (i5 : Int))), (7, (.pointer (some ⟨b17, 0, none⟩))), (8, (.int .i64 s29))] ∧ I2.Le I27 ∧ St E w I27 ((Gv.one b_p0 (.cells (cs_registrarref21_Locks p0 w_p0).toArray 51 (0, 0))) :: (w_p0.L.C) :: (Gv.one b17 (.cells (cs_registrarref21_One x16).toArray 98 (0, 0))) :: Os)) ⟨I2, rfl, Mem.Le.refl _, hS32⟩ ?_) (Sub.cons rfl (Sub.cons rfl (Sub.cons rfl (Sub.cons rfl (Sub.cons rfl (Sub.cons rfl Sub.nil))))))
          rintro s29 _ w33 ⟨I27, rfl, hl28, hS34⟩ x35 hr3 hext26
          refine W.seq ?_
          refine W.seq ?_
          have hS36 := hS34.drew
          refine W.draw (l := [0, 1, 2, 3, 4, 5, 6, 7, 8, 9, 10, 11, 12, 13]) (by kernel_rfl) 14 (KR I27 [Gv.one b17 (.cells (cs_registrarref21_One x16).toArray 98 (0, 0))]) qR (.back (by kernel_rfl)) (by kernel_rfl) (KR.cons (hS36.rd (List.Mem.tail _ (List.Mem.tail _ (List.Mem.head _)))) (KR.nil hS36.im)) ?_
          generalize World.drew _ = w37 at *
          refine WO.vals [(0, 35, (.int .i64 s29)), (1, 36, (.slice a_s4 s4.length c_s4)), (2, 37, (.int .i64 (s4.length : Int))), (3, 38, (.bool (decide (s29 < (s4.length : Int))))), (4, 39, (.bool (decide (s29 < (s4.length : Int)))))] (by kernel_rfl) (fun _ => by kernel_rfl) ?_
          obtain ⟨j38, hr4, hr3⟩ := bind_some hr3
          refine WO.join (l1 := [5, 6, 7, 8, 9, 10, 11, 12, 13]) (l2 := []) (J := (fun fr w => ∃ (I40 : Mem), fr = [(0, (.pointer (some ⟨b_p0, 0, none⟩))), (1, (.int .i64 p1)), (5, (.slice a_s4 s4.length c_s4)), (6, (.int .i64 (i5 : Int))), (7, (.pointer (some ⟨b17, 0, none⟩))), (8, (.int .i64 s29)), (48, (.bool j38))] ∧ I27.Le I40 ∧ St E w I40 ((Gv.one b_p0 (.cells (cs_registrarref21_Locks p0 w_p0).toArray 51 (0, 0))) :: (w_p0.L.C) :: (Gv.one b17 (.cells (cs_registrarref21_One x16).toArray 98 (0, 0))) :: Os))) ?restj38 ?waysj38
          case waysj38 =>
            refine WO.caseb (decide (s29 < (s4.length : Int))) (fun hc => ?_) (fun hc => ?_)
            · replace hr4 := cond_t hc hr4
              refine WO.reslot 39 rfl (show Value.bool (decide (s29 < (s4.length : Int))) = Value.bool true by rw [hc]) ?_
              refine WO.vals [(5, 40, (.slice a_s4 s4.length c_s4)), (6, 41, (.int .i64 s29))] (by kernel_rfl) (fun _ => by kernel_rfl) ?_
              obtain ⟨x42, hx_x42, hr4⟩ := bind_some hr4
              obtain ⟨h0_x42, h1_x42, hx_x42⟩ := idx_some hx_x42
              obtain ⟨ha_x42, cs_x42, hn_x42, hr_x42, hc_x42⟩ := ((RSl.mono h_s4 hl28)).el _ _ hx_x42
              obtain rfl := hr_x42
              refine WO.indexAddr (e := 43) (sz := 2) rfl (by kernel_rfl) (by kernel_rfl) (by kernel_rfl) rfl ha_x42 rfl h0_x42 h1_x42 ?_
              refine WO.vals [(8, 43, (.pointer (some ⟨bl a_s4, of a_s4 + (s29).toNat * 2, none⟩)))] (by kernel_rfl) (fun _ => by kernel_rfl) ?_
              refine WO.load rfl (by kernel_rfl) (by kernel_rfl) rfl (v := (.string x42.Path)) (fun w' hw' => hc_x42.cell0 (by kernel_rfl) ((rd_i hS36.im) w' hw')) ?_
              refine WO.vals [(10, 45, (.pointer (some ⟨b17, 2, none⟩)))] (by kernel_rfl) (fun _ => by kernel_rfl) ?_
              refine WO.load rfl (by kernel_rfl) (by kernel_rfl) rfl (v := (.string x16.Path)) (fun w' hw' => cell_one ((rd_c (List.Mem.head _) (hS36.rd (List.Mem.tail _ (List.Mem.tail _ (List.Mem.head _))))) w' hw') (by kernel_rfl)) ?_
              refine WO.vals [(12, 47, (.bool (sLt x42.Path x16.Path))), (13, 48, (.bool (sLt x42.Path x16.Path)))] (by kernel_rfl) (fun _ => by kernel_rfl) ?_
              have he := Option.some.inj hr4
              subst j38
              refine WO.weaken (fr' := [(0, (.pointer (some ⟨b_p0, 0, none⟩))), (1, (.int .i64 p1)), (5, (.slice a_s4 s4.length c_s4)), (6, (.int .i64 (i5 : Int))), (7, (.pointer (some ⟨b17, 0, none⟩))), (8, (.int .i64 s29)), (48, (.bool (sLt x42.Path x16.Path)))]) (WO.meet ⟨I27, rfl, Mem.Le.refl _, hS36⟩) (Sub.cons rfl (Sub.cons rfl (Sub.cons rfl (Sub.cons rfl (Sub.cons rfl (Sub.cons rfl (Sub.cons rfl Sub.nil)))))))
            · replace hr4 := cond_f hc hr4
              refine WO.reslot 39 rfl (show Value.bool (decide (s29 < (s4.length : Int))) = Value.bool false by rw [hc]) ?_
              refine WO.pass rfl (by kernel_rfl) rfl ?_
              refine WO.pass rfl (by kernel_rfl) rfl ?_
              refine WO.pass rfl (by kernel_rfl) rfl ?_
              refine WO.pass rfl (by kernel_rfl) rfl ?_
              refine WO.pass rfl (by kernel_rfl) rfl ?_
              refine WO.pass rfl (by kernel_rfl) rfl ?_
              refine WO.pass rfl (by kernel_rfl) rfl ?_
              refine WO.pass rfl (by kernel_rfl) rfl ?_
              refine WO.vals [(13, 48, (.bool false))] (by kernel_rfl) (fun _ => by kernel_rfl) ?_
              have he := Option.some.inj hr4
              subst j38
              refine WO.weaken (fr' := [(0, (.pointer (some ⟨b_p0, 0, none⟩))), (1, (.int .i64 p1)), (5, (.slice a_s4 s4.length c_s4)), (6, (.int .i64 (i5 : Int))), (7, (.pointer (some ⟨b17, 0, none⟩))), (8, (.int .i64 s29)), (48, (.bool false))]) (WO.meet ⟨I27, rfl, Mem.Le.refl _, hS36⟩) (Sub.cons rfl (Sub.cons rfl (Sub.cons rfl (Sub.cons rfl (Sub.cons rfl (Sub.cons rfl (Sub.cons rfl Sub.nil)))))))
          case restj38 =>
            rintro _ w43 ⟨I40, rfl, hl41, hS44⟩
            refine WO.nil ?_
            refine En.next ?_
            refine W.cond (b := j38) rfl rfl (fun hc => ?_) (fun hc => ?_)
            · replace hr3 := cond_t hc hr3
              refine W.skip ?_
              refine En.next ?_
              refine W.block ?_
              refine W.region (l := [0, 1, 2]) (by kernel_rfl) ?_
              refine WO.vals [(0, 49, (.int .i64 s29)), (1, 50, (.int .i64 (w64 (s29 + 1)))), (2, 8, (.int .i64 (w64 (s29 + 1))))] (by kernel_rfl) (fun _ => by kernel_rfl) ?_
              refine WO.nil ?_
              refine En.in_normal ?_
              refine En.weaken (fr' := [(0, (.pointer (some ⟨b_p0, 0, none⟩))), (1, (.int .i64 p1)), (5, (.slice a_s4 s4.length c_s4)), (6, (.int .i64 (i5 : Int))), (7, (.pointer (some ⟨b17, 0, none⟩))), (8, (.int .i64 (w64 (s29 + 1))))]) (En.round ⟨(w64 (s29 + 1)), (Option.some.inj hr3).symm, I40, rfl, (hl28.trans hl41), hS44⟩) (Sub.cons rfl (Sub.cons rfl (Sub.cons rfl (Sub.cons rfl (Sub.cons rfl (Sub.cons rfl Sub.nil))))))
            · replace hr3 := cond_f hc hr3
              refine W.exit ?_
              refine En.nx_exit ?_
              refine En.rd_exit ?_
              have ht := hext26 _ (Option.some.inj hr3).symm
              subst t26
              refine En.in_hit ?_
              refine En.next ?_
              refine W.seq ?_
              refine W.region (l := [0]) (by kernel_rfl) ?_
              refine WO.vals [(0, 9, (.slice none 0 0))] (by kernel_rfl) (fun _ => by kernel_rfl) ?_
              refine WO.nil ?_
              refine En.next ?_
              refine W.seq ?_
              refine W.region (l := [0, 1, 2, 3, 4, 5]) (by kernel_rfl) ?_
              refine WO.vals [(0, 51, (.slice none 0 0)), (1, 52, (.slice a_s4 s4.length c_s4)), (2, 53, (.int .i64 s29))] (by kernel_rfl) (fun _ => by kernel_rfl) ?_
              obtain ⟨x87, hx_x87, hr2⟩ := bind_some hr2
              obtain ⟨h0_x87, h1_x87, h2_x87, he_x87⟩ := sub_some hx_x87
              have hl_x87 : (s29 : Int) ≤ (c_s4 : Int) := Int.le_trans h2_x87 (Int.ofNat_le.2 ((RSl.mono h_s4 (hl28.trans hl41))).le)
              refine WO.slice (e := 43) (sz := 2) rfl (by kernel_rfl) (by kernel_rfl) (by kernel_rfl) rfl (0 : Int) (s29 : Int) h0_x87 (.inl ⟨rfl, rfl⟩) (.inr ⟨_, _, rfl, rfl⟩) h1_x87 hl_x87 ?_
              obtain ⟨a_x87, c_x87, h_x87, ev_x87⟩ := sub_ok ((RSl.mono h_s4 (hl28.trans hl41))) h0_x87 h1_x87 h2_x87 he_x87
              refine WO.reslot 54 rfl ev_x87 ?_
              have hS89 := hS44.no
              obtain ⟨x90, hx_x90, hr2⟩ := bind_some hr2
              obtain ⟨h0_x90, he_x90⟩ := app_some hx_x90
              refine WO.append (e' := 43) (b := 24) (zs := (cs_api_Need z_api_Need).toArray) hS89 (OwnSl.nil (T := 43) (rel := R_api_Need) (I := I40)) rfl (by kernel_rfl) rfl (by kernel_rfl) (by kernel_rfl) (by kernel_rfl) rfl rfl rfl rfl h_x87 hS89.im h0_x90 he_x90 (fun _ _ _ => trivial) ?_
              intro a91 c92 w93 C94 hS95 ho96
              refine WO.vals [(5, 9, (.slice a91 x90.length c92))] (by kernel_rfl) (fun _ => by kernel_rfl) ?_
              refine WO.nil ?_
              refine En.next ?_
              refine W.seq ?_
              refine W.region (l := [0, 1, 2, 3, 4, 5, 6, 7, 8]) (by kernel_rfl) ?_
              refine WO.vals [(0, 56, (.slice a91 x90.length c92)), (1, 57, (.pointer (some ⟨b17, 2, none⟩)))] (by kernel_rfl) (fun _ => by kernel_rfl) ?_
              refine WO.load rfl (by kernel_rfl) (by kernel_rfl) rfl (v := (.string x16.Path)) (fun w' hw' => cell_one ((rd_f (hS95.rd (List.Mem.tail _ (List.Mem.tail _ (List.Mem.tail _ (List.Mem.head _)))))) w' hw') (by kernel_rfl)) ?_
              refine WO.vals [(3, 59, (.pointer (some ⟨b17, 1, none⟩)))] (by kernel_rfl) (fun _ => by kernel_rfl) ?_
              refine WO.load rfl (by kernel_rfl) (by kernel_rfl) rfl (v := (.int .i64 x16.Mode)) (fun w' hw' => cell_one ((rd_f (hS95.rd (List.Mem.tail _ (List.Mem.tail _ (List.Mem.tail _ (List.Mem.head _)))))) w' hw') (by kernel_rfl)) ?_
              refine WO.vals [(5, 61, (.agg (cs_api_Need (⟨x16.Path, x16.Mode⟩ : api_Need)).toArray))] (by kernel_rfl) (fun _ => by kernel_rfl) ?_
              refine WO.newSlice (rel := R_api_Need) (xs := ([(⟨x16.Path, x16.Mode⟩ : api_Need)] : List api_Need)) hS95 rfl (by kernel_rfl) rfl 43 2 [(cs_api_Need (⟨x16.Path, x16.Mode⟩ : api_Need))] (by kernel_rfl) rfl ((Elr.cons rfl Elr.nil)) (fun _ _ _ => trivial) ?_
              intro a100 C98 w102 hS101 ho99
              have hS104 := hS101.front1
              obtain ⟨x105, hx_x105, hr2⟩ := bind_some hr2
              obtain ⟨h0_x105, he_x105⟩ := app_some hx_x105
              refine WO.append (e' := 43) (b := 24) (zs := (cs_api_Need z_api_Need).toArray) hS104 ho96 rfl (by kernel_rfl) rfl (by kernel_rfl) (by kernel_rfl) (by kernel_rfl) rfl rfl rfl rfl ho99.sl (hS104.rd (List.Mem.tail _ (List.Mem.head _))) h0_x105 he_x105 (fun _ _ _ => trivial) ?_
              intro a106 c107 w108 C109 hS110 ho111
              have hS112 := hS110.front1
              have hS113 := hS112.drop
              refine WO.vals [(8, 9, (.slice a106 x105.length c107))] (by kernel_rfl) (fun _ => by kernel_rfl) ?_
              refine WO.nil ?_
              refine En.next ?_
              refine W.region (l := [0, 1, 2, 3, 4, 5]) (by kernel_rfl) ?_
              refine WO.vals [(0, 64, (.slice a106 x105.length c107)), (1, 65, (.slice a_s4 s4.length c_s4)), (2, 66, (.int .i64 s29))] (by kernel_rfl) (fun _ => by kernel_rfl) ?_
              obtain ⟨x114, hx_x114, hr2⟩ := bind_some hr2
              obtain ⟨h0_x114, h1_x114, h2_x114, he_x114⟩ := sub_some hx_x114
              have hl_x114 : ((s4.length : Int) : Int) ≤ (c_s4 : Int) := Int.le_trans h2_x114 (Int.ofNat_le.2 ((RSl.mono h_s4 (hl28.trans hl41))).le)
              refine WO.slice (e := 43) (sz := 2) rfl (by kernel_rfl) (by kernel_rfl) (by kernel_rfl) rfl (s29 : Int) ((s4.length : Int) : Int) h0_x114 (.inr ⟨_, _, rfl, rfl⟩) (.inl ⟨rfl, rfl⟩) h1_x114 hl_x114 ?_
              obtain ⟨a_x114, c_x114, h_x114, ev_x114⟩ := sub_ok ((RSl.mono h_s4 (hl28.trans hl41))) h0_x114 h1_x114 h2_x114 he_x114
              refine WO.reslot 67 rfl ev_x114 ?_
              obtain ⟨x115, hx_x115, hr2⟩ := bind_some hr2
              obtain ⟨h0_x115, he_x115⟩ := app_some hx_x115
              refine WO.append (e' := 43) (b := 24) (zs := (cs_api_Need z_api_Need).toArray) hS113 ho111 rfl (by kernel_rfl) rfl (by kernel_rfl) (by kernel_rfl) (by kernel_rfl) rfl rfl rfl rfl h_x114 hS113.im h0_x115 he_x115 (fun _ _ _ => trivial) ?_
              intro a116 c117 w118 C119 hS120 ho121
              obtain ⟨I122, hl123, hS125, hp124⟩ := OwnSl.pub ho121 hS120
              refine WO.vals [(5, 5, (.slice a116 x115.length c117))] (by kernel_rfl) (fun _ => by kernel_rfl) ?_
              refine WO.nil ?_
              refine En.in_normal ?_
              have hS126 := hS125.front2
              have hS127 := hS126.drop
              have he := Option.some.inj hr2
              subst j12
              refine En.weaken (fr' := [(0, (.pointer (some ⟨b_p0, 0, none⟩))), (1, (.int .i64 p1)), (5, (.slice a116 x115.length c117)), (6, (.int .i64 (i5 : Int)))]) (En.round ⟨I122, a116, c117, rfl, ((hl28.trans hl41).trans hl123), hS127, hp124⟩) (Sub.cons rfl (Sub.cons rfl (Sub.cons rfl (Sub.cons rfl Sub.nil))))
    case restj12 =>
      rintro _ w128 ⟨I14, a_j12, c_j12, rfl, hl15, hS129, h_j12⟩
      refine En.next ?_
      refine W.region (l := [0, 1, 2]) (by kernel_rfl) ?_
      refine WO.vals [(0, 17, (.int .i64 (i5 : Int)))] (by kernel_rfl) (fun _ => by kernel_rfl) ?_
      refine WO.incr (j := i5) rfl (by kernel_rfl) rfl (by first | omega | (dsimp only at *; omega)) ?_
      refine WO.vals [(2, 6, (.int .i64 ((i5 + 1 : Nat) : Int)))] (by kernel_rfl) (fun _ => by kernel_rfl) ?_
      refine WO.nil ?_
      have he := Option.some.inj hr1
      subst x9
      refine En.weaken (fr' := [(0, (.pointer (some ⟨b_p0, 0, none⟩))), (1, (.int .i64 p1)), (5, (.slice a_j12 j12.length c_j12)), (6, (.int .i64 ((i5 + 1 : Nat) : Int)))]) (En.round ⟨I14, a_j12, c_j12, rfl, (hl3.trans hl15), hS129, h_j12⟩) (Sub.cons rfl (Sub.cons rfl (Sub.cons rfl (Sub.cons rfl Sub.nil))))
  case lastt1 =>
    rintro _ w130 ⟨I2, a_s4, c_s4, rfl, hl3, hS131, h_s4⟩
    refine W.seq ?_
    refine W.seq ?_
    refine W.region (l := [0, 1, 2, 3, 4, 5, 6]) (by kernel_rfl) ?_
    refine WO.vals [(0, 10, (.int .i64 (p0.L.length : Int))), (1, 11, (.pointer (some ⟨b_p0, 0, none⟩))), (2, 12, (.pointer (some ⟨b_p0, 0, none⟩))), (3, 13, (.pointer (some ⟨b_p0, 0, none⟩)))] (by kernel_rfl) (fun _ => by kernel_rfl) ?_
    refine WO.load rfl (by kernel_rfl) (by kernel_rfl) rfl (v := (.slice w_p0.L.a p0.L.length w_p0.L.c)) (fun w' hw' => cell_one ((rd_f (hS131.rd (List.Mem.head _))) w' hw') (by kernel_rfl)) ?_
    refine WO.vals [(5, 15, (.int .i64 (p0.L.length : Int))), (6, 16, (.bool (decide ((p0.L.length : Int) < (p0.L.length : Int)))))] (by kernel_rfl) (fun _ => by kernel_rfl) ?_
    refine WO.nil ?_
    refine En.next ?_
    refine W.cond (b := (decide ((p0.L.length : Int) < (p0.L.length : Int)))) rfl rfl (fun hc => ?_) (fun hc => ?_)
    · exact absurd hc (by first | (simp; done) | (simp; omega))
    clear hc
    refine W.exit ?_
    refine En.nx_exit ?_
    refine En.rd_exit ?_
    refine En.in_hit ?_
    refine En.next ?_
    refine W.seq ?_
    refine W.region (l := [0, 1]) (by kernel_rfl) ?_
    refine WO.vals [(0, 69, (.slice a_s4 s4.length c_s4)), (1, 4, (.slice a_s4 s4.length c_s4))] (by kernel_rfl) (fun _ => by kernel_rfl) ?_
    refine WO.nil ?_
    refine En.next ?_
    refine W.ret ?_
    have he := Option.some.inj hr
    subst r
    exact En.ret1 rfl (.slice a_s4 s4.length c_s4) rfl ⟨I2, a_s4, c_s4, rfl, hl3, hS131, h_s4⟩
def registrarref20_Same (p0 : List api_Need) (p1 : List api_Need) : Option Bool := (bif ((p0.length : Int) != (p1.length : Int)) then some false else (forN (fun (i4 : Nat) => fun (_s : Unit) => (idx p0 (i4 : Int)).bind (fun (x13 : api_Need) => (idx p1 (i4 : Int)).bind (fun (x14 : api_Need) => (bif (!(sEq x13.Path x14.Path && (x13.Mode == x14.Mode))) then some (.inr false) else some (.inl ()))))) p0.length 0 ()).bind (fun (t : Unit ⊕ (Bool)) => match t with | .inl _ => some true | .inr s16 => some s16))
set_option maxHeartbeats 1000000 in
theorem registrarref20_Same_ok {E w : World} {I : Mem} {Os : List Mem} {p0 : List api_Need} {p1 : List api_Need} {a_p0 : Option Addr} {c_p0 : Nat} {a_p1 : Option Addr} {c_p1 : Nat} (h_p0 : RSl 2 R_api_Need I a_p0 c_p0 p0) (h_p1 : RSl 2 R_api_Need I a_p1 c_p1 p1) (hS : St E w I Os) {r : Bool} (hr : registrarref20_Same p0 p1 = some r) :
    Calls P 50 #[(.slice a_p0 p0.length c_p0), (.slice a_p1 p1.length c_p1)] w (fun e w' => ∃ (I' : Mem), e = .returned (.bool r) ∧ I.Le I' ∧ St E w' I' Os) := by
  refine calls_W (args := [(.slice a_p0 p0.length c_p0), (.slice a_p1 p1.length c_p1)]) (fn := Try.f50) rfl rfl rfl ?_
  unfold registrarref20_Same at hr
  refine W.seq ?_
  refine W.region (l := [0]) (by kernel_rfl) ?_
  refine WO.vals [(0, 4, (.bool false))] (by kernel_rfl) (fun _ => by kernel_rfl) ?_
  refine WO.nil ?_
  refine En.next ?_
  refine W.seq ?_
  refine W.seq ?_
  refine W.region (l := [0, 1, 2, 3, 4]) (by kernel_rfl) ?_
  refine WO.vals [(0, 6, (.slice a_p0 p0.length c_p0)), (1, 7, (.int .i64 (p0.length : Int))), (2, 8, (.slice a_p1 p1.length c_p1)), (3, 9, (.int .i64 (p1.length : Int))), (4, 10, (.bool ((p0.length : Int) != (p1.length : Int))))] (by kernel_rfl) (fun _ => by kernel_rfl) ?_
  refine WO.nil ?_
  refine En.next ?_
  refine W.cond (b := ((p0.length : Int) != (p1.length : Int))) rfl rfl (fun hc => ?_) (fun hc => ?_)
  · replace hr := cond_t hc hr
    refine W.seq ?_
    refine W.region (l := [0]) (by kernel_rfl) ?_
    refine WO.vals [(0, 4, (.bool false))] (by kernel_rfl) (fun _ => by kernel_rfl) ?_
    refine WO.nil ?_
    refine En.next ?_
    refine W.ret ?_
    refine En.nx_ret ?_
    have he := Option.some.inj hr
    subst r
    exact En.ret1 rfl (.bool false) rfl ⟨I, rfl, Mem.Le.refl _, hS⟩
  · replace hr := cond_f hc hr
    refine W.skip ?_
    refine En.next ?_
    refine W.seq ?_
    refine W.seq ?_
    refine W.region (l := [0]) (by kernel_rfl) ?_
    refine WO.vals [(0, 5, (.int .i64 0))] (by kernel_rfl) (fun _ => by kernel_rfl) ?_
    refine WO.nil ?_
    refine En.next ?_
    refine W.block ?_
    obtain ⟨t1, hloop5, hr⟩ := bind_some hr
    have hlt9 := (h_p0).len_lt
    refine W.weaken (fr' := [(0, (.slice a_p0 p0.length c_p0)), (1, (.slice a_p1 p1.length c_p1)), (5, (.int .i64 ((0 : Nat) : Int)))]) (W.forN (m := p0.length) hloop5 (fun (i4 : Nat) => fun (_s : Unit) fr w => ∃ (I2 : Mem), fr = [(0, (.slice a_p0 p0.length c_p0)), (1, (.slice a_p1 p1.length c_p1)), (5, (.int .i64 (i4 : Int)))] ∧ I.Le I2 ∧ St E w I2 Os) ⟨I, rfl, Mem.Le.refl _, hS⟩ ?roundt1 ?lastt1) (Sub.cons rfl (Sub.cons rfl (Sub.cons rfl Sub.nil)))
    case roundt1 =>
      rintro i4 _ _ w6 hi10 ⟨I2, rfl, hl3, hS7⟩ x8 hr1 hext1
      refine W.seq ?_
      refine W.seq ?_
      refine W.region (l := [0, 1, 2, 3]) (by kernel_rfl) ?_
      refine WO.vals [(0, 11, (.int .i64 (i4 : Int))), (1, 12, (.slice a_p0 p0.length c_p0)), (2, 13, (.int .i64 (p0.length : Int))), (3, 14, (.bool (decide ((i4 : Int) < (p0.length : Int)))))] (by kernel_rfl) (fun _ => by kernel_rfl) ?_
      refine WO.nil ?_
      refine En.next ?_
      refine W.cond (b := (decide ((i4 : Int) < (p0.length : Int)))) rfl rfl (fun hc => ?_) (fun hc => ?_)
      rotate_left
      · exact absurd hc (by first | (simp; done) | (simp; omega))
      clear hc
      refine W.skip ?_
      refine En.next ?_
      refine W.seq ?_
      refine W.block ?_
      refine W.seq ?_
      have hS11 := hS7.drew
      refine W.draw (l := [0, 1, 2, 3, 4, 5, 6, 7, 8]) (by kernel_rfl) 8 (KR I2 []) qR (.back (by kernel_rfl)) (by kernel_rfl) (KR.nil hS11.im) ?_
      generalize World.drew _ = w12 at *
      refine WO.vals [(0, 17, (.slice a_p0 p0.length c_p0)), (1, 18, (.int .i64 (i4 : Int)))] (by kernel_rfl) (fun _ => by kernel_rfl) ?_
      obtain ⟨x13, hx_x13, hr1⟩ := bind_some hr1
      obtain ⟨h0_x13, h1_x13, hx_x13⟩ := idx_some hx_x13
      obtain ⟨ha_x13, cs_x13, hn_x13, hr_x13, hc_x13⟩ := ((RSl.mono h_p0 hl3)).el _ _ hx_x13
      obtain rfl := hr_x13
      refine WO.indexAddr (e := 43) (sz := 2) rfl (by kernel_rfl) (by kernel_rfl) (by kernel_rfl) rfl ha_x13 rfl h0_x13 h1_x13 ?_
      refine WO.loadN rfl (by kernel_rfl) (by kernel_rfl) rfl ((cs_api_Need x13)) (by kernel_rfl) (fun w' hw' => hc_x13.cells (k := 0) (by kernel_rfl) rfl ((rd_i hS11.im) w' hw')) ?_
      refine WO.vals [(4, 21, (.slice a_p1 p1.length c_p1)), (5, 22, (.int .i64 (i4 : Int)))] (by kernel_rfl) (fun _ => by kernel_rfl) ?_
      obtain ⟨x14, hx_x14, hr1⟩ := bind_some hr1
      obtain ⟨h0_x14, h1_x14, hx_x14⟩ := idx_some hx_x14
      obtain ⟨ha_x14, cs_x14, hn_x14, hr_x14, hc_x14⟩ := ((RSl.mono h_p1 hl3)).el _ _ hx_x14
      obtain rfl := hr_x14
      refine WO.indexAddr (e := 43) (sz := 2) rfl (by kernel_rfl) (by kernel_rfl) (by kernel_rfl) rfl ha_x14 rfl h0_x14 h1_x14 ?_
      refine WO.loadN rfl (by kernel_rfl) (by kernel_rfl) rfl ((cs_api_Need x14)) (by kernel_rfl) (fun w' hw' => hc_x14.cells (k := 0) (by kernel_rfl) rfl ((rd_i hS11.im) w' hw')) ?_
      refine WO.tail rfl ?_
      refine WO.eqStruct rfl (by kernel_rfl) rfl rfl (by kernel_rfl) 50 rfl (b := (sEq x13.Path x14.Path && ((x13.Mode == x14.Mode) && true))) (by kernel_rfl) (!(sEq x13.Path x14.Path && (x13.Mode == x14.Mode))) (.inr ⟨rfl, by simp only [Bool.and_true]⟩) ?_
      refine WO.nil ?_
      refine En.next ?_
      refine W.cond (b := (!(sEq x13.Path x14.Path && (x13.Mode == x14.Mode)))) rfl rfl (fun hc => ?_) (fun hc => ?_)
      · replace hr1 := cond_t hc hr1
        refine W.seq ?_
        refine W.region (l := [0]) (by kernel_rfl) ?_
        refine WO.vals [(0, 4, (.bool false))] (by kernel_rfl) (fun _ => by kernel_rfl) ?_
        refine WO.nil ?_
        refine En.next ?_
        refine W.ret ?_
        refine En.in_ret ?_
        refine En.nx_ret ?_
        refine En.rd_ret ?_
        have ht := hext1 _ (Option.some.inj hr1).symm
        subst t1
        refine En.in_ret ?_
        refine En.nx_ret ?_
        have he := Option.some.inj hr
        subst r
        exact En.ret1 rfl (.bool false) rfl ⟨I2, rfl, hl3, hS11⟩
      · replace hr1 := cond_f hc hr1
        refine W.skip ?_
        refine En.in_normal ?_
        refine En.next ?_
        refine W.region (l := [0, 1, 2]) (by kernel_rfl) ?_
        refine WO.vals [(0, 15, (.int .i64 (i4 : Int)))] (by kernel_rfl) (fun _ => by kernel_rfl) ?_
        refine WO.incr (j := i4) rfl (by kernel_rfl) rfl (by first | omega | (dsimp only at *; omega)) ?_
        refine WO.vals [(2, 5, (.int .i64 ((i4 + 1 : Nat) : Int)))] (by kernel_rfl) (fun _ => by kernel_rfl) ?_
        refine WO.nil ?_
        refine En.weaken (fr' := [(0, (.slice a_p0 p0.length c_p0)), (1, (.slice a_p1 p1.length c_p1)), (5, (.int .i64 ((i4 + 1 : Nat) : Int)))]) (En.round ⟨(), (Option.some.inj hr1).symm, I2, rfl, hl3, hS11⟩) (Sub.cons rfl (Sub.cons rfl (Sub.cons rfl Sub.nil)))
    case lastt1 =>
      rintro _ _ w17 ⟨I2, rfl, hl3, hS18⟩ he
      cases he
      refine W.seq ?_
      refine W.seq ?_
      refine W.region (l := [0, 1, 2, 3]) (by kernel_rfl) ?_
      refine WO.vals [(0, 11, (.int .i64 (p0.length : Int))), (1, 12, (.slice a_p0 p0.length c_p0)), (2, 13, (.int .i64 (p0.length : Int))), (3, 14, (.bool (decide ((p0.length : Int) < (p0.length : Int)))))] (by kernel_rfl) (fun _ => by kernel_rfl) ?_
      refine WO.nil ?_
      refine En.next ?_
      refine W.cond (b := (decide ((p0.length : Int) < (p0.length : Int)))) rfl rfl (fun hc => ?_) (fun hc => ?_)
      · exact absurd hc (by first | (simp; done) | (simp; omega))
      clear hc
      refine W.exit ?_
      refine En.nx_exit ?_
      refine En.rd_exit ?_
      refine En.in_hit ?_
      refine En.next ?_
      refine W.seq ?_
      refine W.region (l := [0]) (by kernel_rfl) ?_
      refine WO.vals [(0, 4, (.bool true))] (by kernel_rfl) (fun _ => by kernel_rfl) ?_
      refine WO.nil ?_
      refine En.next ?_
      refine W.ret ?_
      have he := Option.some.inj hr
      subst r
      exact En.ret1 rfl (.bool true) rfl ⟨I2, rfl, hl3, hS18⟩
noncomputable def registrarlaw21_like (p0 : mdl_Locks) (p1 : registrarref21_Locks) : Option Bool := (registrarref21_Locks_Paths p1).bind (fun (r8 : List ByteArray) => (mdl_Locks_Paths p0).bind (fun (r16 : List ByteArray) => (registrarref12_SameTexts r16 r8).bind (fun (r22 : Bool) => ((bif (!r22) then some true else (mdl_Locks_Cycle p0).bind (fun (r34 : Bool) => (registrarref21_Locks_Cycle p1).bind (fun (r42 : Bool) => some (!(r34 == r42)))))).bind (fun (j23 : Bool) => (bif j23 then some false else (forN (fun (i52 : Nat) => fun (_s : Unit) => (idx r8 (i52 : Int)).bind (fun (x61 : ByteArray) => (mdl_Locks_Holders p0 x61).bind (fun (r69 : List Int) => (idx r8 (i52 : Int)).bind (fun (x70 : ByteArray) => (registrarref21_Locks_Holders p1 x70).bind (fun (r78 : List Int) => (registrarlaw21_numbers r69 r78).bind (fun (r84 : Bool) => ((bif (!r84) then some true else (idx r8 (i52 : Int)).bind (fun (x93 : ByteArray) => (mdl_Locks_Waiters p0 x93).bind (fun (r101 : List Int) => (idx r8 (i52 : Int)).bind (fun (x102 : ByteArray) => (registrarref21_Locks_Queue p1 x102).bind (fun (r110 : List Int) => (registrarlaw21_numbers r101 r110).bind (fun (r116 : Bool) => some (!r116)))))))).bind (fun (j85 : Bool) => (bif j85 then some (.inr false) else some (.inl ()))))))))) r8.length 0 ()).bind (fun (t : Unit ⊕ (Bool)) => match t with | .inl _ => (forN (fun (i130 : Nat) => fun (_s : Unit) => (mdl_Locks_Waits p0 (i130 : Int)).bind (fun ((r144, r145) : api_Need × Bool) => (registrarref21_Locks_Waits p1 (i130 : Int)).bind (fun ((r159, r160) : api_Need × Bool) => ((bif ((!(sEq r144.Path r159.Path && (r144.Mode == r159.Mode))) || (!(r145 == r160))) then some true else (mdl_Locks_Holds p0 (i130 : Int)).bind (fun (r187 : List api_Need) => (registrarref21_Locks_Holds p1 (i130 : Int)).bind (fun (r195 : List api_Need) => (registrarref20_Same r187 r195).bind (fun (r201 : Bool) => some (!r201)))))).bind (fun (j169 : Bool) => ((bif j169 then some true else (mdl_Locks_Blockers p0 (i130 : Int)).bind (fun (r223 : List Int) => (registrarref21_Locks_Blockers p1 (i130 : Int)).bind (fun (r231 : List Int) => (registrarlaw21_numbers r223 r231).bind (fun (r237 : Bool) => some (!r237)))))).bind (fun (j212 : Bool) => (bif j212 then some (.inr false) else some (.inl ()))))))) 10 0 ()).bind (fun (t : Unit ⊕ (Bool)) => match t with | .inl _ => some true | .inr s245 => some s245) | .inr s124 => some s124))))))
set_option maxHeartbeats 1000000 in
theorem registrarlaw21_like_ok {E w : World} {I : Mem} {Os : List Mem} {p0 : mdl_Locks} {p1 : registrarref21_Locks} {b_p0 : Nat} {w_p0 : W_mdl_Locks} {b_p1 : Nat} {w_p1 : W_registrarref21_Locks} (h_p0 : ok_mdl_Locks I p0 w_p0) (h_p1 : ok_registrarref21_Locks I p1 w_p1) (hS : St E w I ((Gv.one b_p0 (.cells (cs_mdl_Locks p0 w_p0).toArray 56 (0, 0))) :: (w_p0.at_.C) :: (Gv.one b_p1 (.cells (cs_registrarref21_Locks p1 w_p1).toArray 51 (0, 0))) :: (w_p1.L.C) :: Os)) {r : Bool} (hr : registrarlaw21_like p0 p1 = some r) :
    Calls P 23 #[(.pointer (some ⟨b_p0, 0, none⟩)), (.pointer (some ⟨b_p1, 0, none⟩))] w (fun e w' => ∃ (I' : Mem), e = .returned (.bool r) ∧ I.Le I' ∧ St E w' I' ((Gv.one b_p0 (.cells (cs_mdl_Locks p0 w_p0).toArray 56 (0, 0))) :: w_p0.at_.C :: (Gv.one b_p1 (.cells (cs_registrarref21_Locks p1 w_p1).toArray 51 (0, 0))) :: w_p1.L.C :: Os)) := by
  refine calls_W (args := [(.pointer (some ⟨b_p0, 0, none⟩)), (.pointer (some ⟨b_p1, 0, none⟩))]) (fn := Try.f23) rfl rfl rfl ?_
  unfold registrarlaw21_like at hr
  refine W.seq ?_
  refine W.region (l := [0]) (by kernel_rfl) ?_
  refine WO.vals [(0, 4, (.bool false))] (by kernel_rfl) (fun _ => by kernel_rfl) ?_
  refine WO.nil ?_
  refine En.next ?_
  refine W.seq ?_
  refine W.region (l := [0, 1, 2]) (by kernel_rfl) ?_
  refine WO.vals [(0, 12, (.pointer (some ⟨b_p1, 0, none⟩)))] (by kernel_rfl) (fun _ => by kernel_rfl) ?_
  have hS1 := hS.front3
  have hS2 := hS1.front3
  obtain ⟨r8, hx_r3, hr⟩ := bind_some hr
  refine WO.call rfl (by kernel_rfl) rfl (f := 43) (args := #[(.pointer (some ⟨b_p1, 0, none⟩))]) (by kernel_rfl) (registrarref21_Locks_Paths_ok h_p1 hS2 hx_r3) ?_
  rintro _ w4 ⟨I5, a_r8, c_r8, rfl, hl6, hS7, h_r8⟩
  refine ⟨_, rfl, trivial, ?_⟩
  refine WO.vals [(2, 5, (.slice a_r8 r8.length c_r8))] (by kernel_rfl) (fun _ => by kernel_rfl) ?_
  refine WO.nil ?_
  refine En.next ?_
  refine W.seq ?_
  refine W.seq ?_
  refine W.region (l := [0, 1, 2, 3, 4, 5, 6, 7, 8, 9, 10, 11]) (by kernel_rfl) ?_
  refine WO.vals [(0, 14, (.pointer (some ⟨b_p0, 0, none⟩)))] (by kernel_rfl) (fun _ => by kernel_rfl) ?_
  have hS9 := hS7.front3
  have hS10 := hS9.front3
  obtain ⟨r16, hx_r11, hr⟩ := bind_some hr
  refine WO.call rfl (by kernel_rfl) rfl (f := 11) (args := #[(.pointer (some ⟨b_p0, 0, none⟩))]) (by kernel_rfl) (mdl_Locks_Paths_ok (h_p0.mono hl6) hS10 hx_r11) ?_
  rintro _ w12 ⟨I13, a_r16, c_r16, rfl, hl14, hS15, h_r16⟩
  refine ⟨_, rfl, trivial, ?_⟩
  refine WO.vals [(2, 16, (.slice a_r8 r8.length c_r8))] (by kernel_rfl) (fun _ => by kernel_rfl) ?_
  obtain ⟨r22, hx_r17, hr⟩ := bind_some hr
  refine WO.call rfl (by kernel_rfl) rfl (f := 44) (args := #[(.slice a_r16 r16.length c_r16), (.slice a_r8 r8.length c_r8)]) (by kernel_rfl) (registrarref12_SameTexts_ok h_r16 (RSl.mono h_r8 hl14) hS15 hx_r17) ?_
  rintro _ w18 ⟨I19, rfl, hl20, hS21⟩
  refine ⟨_, rfl, trivial, ?_⟩
  refine WO.vals [(4, 18, (.bool (!r22))), (5, 19, (.bool (!r22)))] (by kernel_rfl) (fun _ => by kernel_rfl) ?_
  obtain ⟨j23, hr1, hr⟩ := bind_some hr
  refine WO.join (l1 := [6, 7, 8, 9, 10, 11]) (l2 := []) (J := (fun fr w => ∃ (I25 : Mem), fr = [(0, (.pointer (some ⟨b_p0, 0, none⟩))), (1, (.pointer (some ⟨b_p1, 0, none⟩))), (5, (.slice a_r8 r8.length c_r8)), (25, (.bool j23))] ∧ I19.Le I25 ∧ St E w I25 ((Gv.one b_p0 (.cells (cs_mdl_Locks p0 w_p0).toArray 56 (0, 0))) :: (w_p0.at_.C) :: (Gv.one b_p1 (.cells (cs_registrarref21_Locks p1 w_p1).toArray 51 (0, 0))) :: (w_p1.L.C) :: Os))) ?restj23 ?waysj23
  case waysj23 =>
    refine WO.caseb (!r22) (fun hc => ?_) (fun hc => ?_)
    · replace hr1 := cond_t hc hr1
      refine WO.reslot 19 rfl (show Value.bool (!r22) = Value.bool true by rw [hc]) ?_
      refine WO.pass rfl (by kernel_rfl) rfl ?_
      refine WO.pass rfl (by kernel_rfl) rfl ?_
      refine WO.pass rfl (by kernel_rfl) rfl ?_
      refine WO.pass rfl (by kernel_rfl) rfl ?_
      refine WO.pass rfl (by kernel_rfl) rfl ?_
      refine WO.vals [(11, 25, (.bool true))] (by kernel_rfl) (fun _ => by kernel_rfl) ?_
      have he := Option.some.inj hr1
      subst j23
      refine WO.weaken (fr' := [(0, (.pointer (some ⟨b_p0, 0, none⟩))), (1, (.pointer (some ⟨b_p1, 0, none⟩))), (5, (.slice a_r8 r8.length c_r8)), (25, (.bool true))]) (WO.meet ⟨I19, rfl, Mem.Le.refl _, hS21⟩) (Sub.cons rfl (Sub.cons rfl (Sub.cons rfl (Sub.cons rfl Sub.nil))))
    · replace hr1 := cond_f hc hr1
      refine WO.reslot 19 rfl (show Value.bool (!r22) = Value.bool false by rw [hc]) ?_
      refine WO.vals [(6, 20, (.pointer (some ⟨b_p0, 0, none⟩)))] (by kernel_rfl) (fun _ => by kernel_rfl) ?_
      have hS27 := hS21.front1
      have hS28 := hS27.front1
      obtain ⟨r34, hx_r29, hr1⟩ := bind_some hr1
      refine WO.call rfl (by kernel_rfl) rfl (f := 19) (args := #[(.pointer (some ⟨b_p0, 0, none⟩))]) (by kernel_rfl) (mdl_Locks_Cycle_ok (h_p0.mono ((hl6.trans hl14).trans hl20)) hS28 hx_r29) ?_
      rintro _ w30 ⟨I31, rfl, hl32, hS33⟩
      refine ⟨_, rfl, trivial, ?_⟩
      refine WO.vals [(8, 22, (.pointer (some ⟨b_p1, 0, none⟩)))] (by kernel_rfl) (fun _ => by kernel_rfl) ?_
      have hS35 := hS33.front3
      have hS36 := hS35.front3
      obtain ⟨r42, hx_r37, hr1⟩ := bind_some hr1
      refine WO.call rfl (by kernel_rfl) rfl (f := 45) (args := #[(.pointer (some ⟨b_p1, 0, none⟩))]) (by kernel_rfl) (registrarref21_Locks_Cycle_ok (h_p1.mono (((hl6.trans hl14).trans hl20).trans hl32)) hS36 hx_r37) ?_
      rintro _ w38 ⟨I39, rfl, hl40, hS41⟩
      refine ⟨_, rfl, trivial, ?_⟩
      refine WO.vals [(10, 24, (.bool (!(r34 == r42)))), (11, 25, (.bool (!(r34 == r42))))] (by kernel_rfl) (fun _ => by kernel_rfl) ?_
      have hS43 := hS41.front1
      have hS44 := hS43.front1
      have hS45 := hS44.front3
      have hS46 := hS45.front3
      have he := Option.some.inj hr1
      subst j23
      refine WO.weaken (fr' := [(0, (.pointer (some ⟨b_p0, 0, none⟩))), (1, (.pointer (some ⟨b_p1, 0, none⟩))), (5, (.slice a_r8 r8.length c_r8)), (25, (.bool (!(r34 == r42))))]) (WO.meet ⟨I39, rfl, (hl32.trans hl40), hS46⟩) (Sub.cons rfl (Sub.cons rfl (Sub.cons rfl (Sub.cons rfl Sub.nil))))
  case restj23 =>
    rintro _ w47 ⟨I25, rfl, hl26, hS48⟩
    refine WO.nil ?_
    refine En.next ?_
    refine W.cond (b := j23) rfl rfl (fun hc => ?_) (fun hc => ?_)
    · replace hr := cond_t hc hr
      refine W.seq ?_
      refine W.region (l := [0]) (by kernel_rfl) ?_
      refine WO.vals [(0, 4, (.bool false))] (by kernel_rfl) (fun _ => by kernel_rfl) ?_
      refine WO.nil ?_
      refine En.next ?_
      refine W.ret ?_
      refine En.nx_ret ?_
      have he := Option.some.inj hr
      subst r
      exact En.ret1 rfl (.bool false) rfl ⟨I25, rfl, (((hl6.trans hl14).trans hl20).trans hl26), hS48⟩
    · replace hr := cond_f hc hr
      refine W.skip ?_
      refine En.next ?_
      refine W.seq ?_
      refine W.seq ?_
      refine W.region (l := [0]) (by kernel_rfl) ?_
      refine WO.vals [(0, 6, (.int .i64 0))] (by kernel_rfl) (fun _ => by kernel_rfl) ?_
      refine WO.nil ?_
      refine En.next ?_
      refine W.block ?_
      obtain ⟨t49, hloop53, hr⟩ := bind_some hr
      have hlt57 := ((RSl.mono h_r8 ((hl14.trans hl20).trans hl26))).len_lt
      refine W.weaken (fr' := [(0, (.pointer (some ⟨b_p0, 0, none⟩))), (1, (.pointer (some ⟨b_p1, 0, none⟩))), (5, (.slice a_r8 r8.length c_r8)), (6, (.int .i64 ((0 : Nat) : Int)))]) (W.forN (m := r8.length) hloop53 (fun (i52 : Nat) => fun (_s : Unit) fr w => ∃ (I50 : Mem), fr = [(0, (.pointer (some ⟨b_p0, 0, none⟩))), (1, (.pointer (some ⟨b_p1, 0, none⟩))), (5, (.slice a_r8 r8.length c_r8)), (6, (.int .i64 (i52 : Int)))] ∧ I25.Le I50 ∧ St E w I50 ((Gv.one b_p0 (.cells (cs_mdl_Locks p0 w_p0).toArray 56 (0, 0))) :: (w_p0.at_.C) :: (Gv.one b_p1 (.cells (cs_registrarref21_Locks p1 w_p1).toArray 51 (0, 0))) :: (w_p1.L.C) :: Os)) ⟨I25, rfl, Mem.Le.refl _, hS48⟩ ?roundt49 ?lastt49) (Sub.cons rfl (Sub.cons rfl (Sub.cons rfl (Sub.cons rfl Sub.nil))))
      case roundt49 =>
        rintro i52 _ _ w54 hi58 ⟨I50, rfl, hl51, hS55⟩ x56 hr1 hext49
        refine W.seq ?_
        refine W.seq ?_
        refine W.region (l := [0, 1, 2, 3]) (by kernel_rfl) ?_
        refine WO.vals [(0, 26, (.int .i64 (i52 : Int))), (1, 27, (.slice a_r8 r8.length c_r8)), (2, 28, (.int .i64 (r8.length : Int))), (3, 29, (.bool (decide ((i52 : Int) < (r8.length : Int)))))] (by kernel_rfl) (fun _ => by kernel_rfl) ?_
        refine WO.nil ?_
        refine En.next ?_
        refine W.cond (b := (decide ((i52 : Int) < (r8.length : Int)))) rfl rfl (fun hc => ?_) (fun hc => ?_)
        rotate_left
        · exact absurd hc (by first | (simp; done) | (simp; omega))
        clear hc
        refine W.skip ?_
        refine En.next ?_
        refine W.seq ?_
        refine W.block ?_
        refine W.seq ?_
        have hS59 := hS55.drew
        refine W.draw (l := [0, 1, 2, 3, 4, 5, 6, 7, 8, 9, 10, 11, 12, 13, 14, 15, 16, 17, 18, 19, 20, 21, 22, 23, 24, 25, 26, 27, 28, 29]) (by kernel_rfl) 30 (KR I50 []) qR (.back (by kernel_rfl)) (by kernel_rfl) (KR.nil hS59.im) ?_
        generalize World.drew _ = w60 at *
        refine WO.vals [(0, 32, (.pointer (some ⟨b_p0, 0, none⟩))), (1, 33, (.slice a_r8 r8.length c_r8)), (2, 34, (.int .i64 (i52 : Int)))] (by kernel_rfl) (fun _ => by kernel_rfl) ?_
        obtain ⟨x61, hx_x61, hr1⟩ := bind_some hr1
        obtain ⟨h0_x61, h1_x61, hx_x61⟩ := idx_some hx_x61
        obtain ⟨ha_x61, cs_x61, hn_x61, hr_x61, hc_x61⟩ := ((RSl.mono h_r8 (((hl14.trans hl20).trans hl26).trans hl51))).el _ _ hx_x61
        obtain rfl := hr_x61
        refine WO.indexAddr (e := 9) (sz := 1) rfl (by kernel_rfl) (by kernel_rfl) (by kernel_rfl) rfl ha_x61 rfl h0_x61 h1_x61 ?_
        refine WO.load rfl (by kernel_rfl) (by kernel_rfl) rfl (v := (.string x61)) (fun w' hw' => hc_x61.cell0 (by kernel_rfl) ((rd_i hS59.im) w' hw')) ?_
        have hS62 := hS59.front1
        have hS63 := hS62.front1
        obtain ⟨r69, hx_r64, hr1⟩ := bind_some hr1
        refine WO.call rfl (by kernel_rfl) rfl (f := 27) (args := #[(.pointer (some ⟨b_p0, 0, none⟩)), (.string x61)]) (by kernel_rfl) (mdl_Locks_Holders_ok (h_p0.mono ((((hl6.trans hl14).trans hl20).trans hl26).trans hl51)) hS63 hx_r64) ?_
        rintro _ w65 ⟨I66, a_r69, c_r69, rfl, hl67, hS68, h_r69⟩
        refine ⟨_, rfl, (KR.nil (hS68.im.of_le hl67)), ?_⟩
        refine WO.vals [(6, 38, (.pointer (some ⟨b_p1, 0, none⟩))), (7, 39, (.slice a_r8 r8.length c_r8)), (8, 40, (.int .i64 (i52 : Int)))] (by kernel_rfl) (fun _ => by kernel_rfl) ?_
        obtain ⟨x70, hx_x70, hr1⟩ := bind_some hr1
        obtain ⟨h0_x70, h1_x70, hx_x70⟩ := idx_some hx_x70
        obtain ⟨ha_x70, cs_x70, hn_x70, hr_x70, hc_x70⟩ := ((RSl.mono h_r8 (((hl14.trans hl20).trans hl26).trans hl51))).el _ _ hx_x70
        obtain rfl := hr_x70
        refine WO.indexAddr (e := 9) (sz := 1) rfl (by kernel_rfl) (by kernel_rfl) (by kernel_rfl) rfl ha_x70 rfl h0_x70 h1_x70 ?_
        refine WO.load rfl (by kernel_rfl) (by kernel_rfl) rfl (v := (.string x70)) (fun w' hw' => hc_x70.cell0 (by kernel_rfl) ((rd_i (hS68.im.of_le hl67)) w' hw')) ?_
        have hS71 := hS68.front3
        have hS72 := hS71.front3
        obtain ⟨r78, hx_r73, hr1⟩ := bind_some hr1
        refine WO.call rfl (by kernel_rfl) rfl (f := 47) (args := #[(.pointer (some ⟨b_p1, 0, none⟩)), (.string x70)]) (by kernel_rfl) (registrarref21_Locks_Holders_ok (h_p1.mono (((((hl6.trans hl14).trans hl20).trans hl26).trans hl51).trans hl67)) hS72 hx_r73) ?_
        rintro _ w74 ⟨I75, a_r78, c_r78, rfl, hl76, hS77, h_r78⟩
        refine ⟨_, rfl, (KR.nil (hS77.im.of_le (hl67.trans hl76))), ?_⟩
        obtain ⟨r84, hx_r79, hr1⟩ := bind_some hr1
        refine WO.call rfl (by kernel_rfl) rfl (f := 46) (args := #[(.slice a_r69 r69.length c_r69), (.slice a_r78 r78.length c_r78)]) (by kernel_rfl) (registrarlaw21_numbers_ok (RSl.mono h_r69 hl76) h_r78 hS77 hx_r79) ?_
        rintro _ w80 ⟨I81, rfl, hl82, hS83⟩
        refine ⟨_, rfl, (KR.nil (hS83.im.of_le ((hl67.trans hl76).trans hl82))), ?_⟩
        refine WO.vals [(13, 45, (.bool (!r84))), (14, 46, (.bool (!r84)))] (by kernel_rfl) (fun _ => by kernel_rfl) ?_
        obtain ⟨j85, hr2, hr1⟩ := bind_some hr1
        refine WO.join (l1 := [15, 16, 17, 18, 19, 20, 21, 22, 23, 24, 25, 26, 27, 28, 29]) (l2 := []) (J := (fun fr w => ∃ (I87 : Mem), fr = [(0, (.pointer (some ⟨b_p0, 0, none⟩))), (1, (.pointer (some ⟨b_p1, 0, none⟩))), (5, (.slice a_r8 r8.length c_r8)), (6, (.int .i64 (i52 : Int))), (61, (.bool j85))] ∧ I81.Le I87 ∧ St E w I87 ((Gv.one b_p0 (.cells (cs_mdl_Locks p0 w_p0).toArray 56 (0, 0))) :: (w_p0.at_.C) :: (Gv.one b_p1 (.cells (cs_registrarref21_Locks p1 w_p1).toArray 51 (0, 0))) :: (w_p1.L.C) :: Os))) ?restj85 ?waysj85
        case waysj85 =>
          refine WO.caseb (!r84) (fun hc => ?_) (fun hc => ?_)
          · replace hr2 := cond_t hc hr2
            refine WO.reslot 46 rfl (show Value.bool (!r84) = Value.bool true by rw [hc]) ?_
            refine WO.pass rfl (by kernel_rfl) rfl ?_
            refine WO.pass rfl (by kernel_rfl) rfl ?_
            refine WO.pass rfl (by kernel_rfl) rfl ?_
            refine WO.pass rfl (by kernel_rfl) rfl ?_
            refine WO.pass rfl (by kernel_rfl) rfl ?_
            refine WO.pass rfl (by kernel_rfl) rfl ?_
            refine WO.pass rfl (by kernel_rfl) rfl ?_
            refine WO.pass rfl (by kernel_rfl) rfl ?_
            refine WO.pass rfl (by kernel_rfl) rfl ?_
            refine WO.pass rfl (by kernel_rfl) rfl ?_
            refine WO.pass rfl (by kernel_rfl) rfl ?_
            refine WO.pass rfl (by kernel_rfl) rfl ?_
            refine WO.pass rfl (by kernel_rfl) rfl ?_
            refine WO.pass rfl (by kernel_rfl) rfl ?_
            refine WO.vals [(29, 61, (.bool true))] (by kernel_rfl) (fun _ => by kernel_rfl) ?_
            have hS89 := hS83.front1
            have hS90 := hS89.front1
            have hS91 := hS90.front3
            have hS92 := hS91.front3
            have he := Option.some.inj hr2
            subst j85
            refine WO.weaken (fr' := [(0, (.pointer (some ⟨b_p0, 0, none⟩))), (1, (.pointer (some ⟨b_p1, 0, none⟩))), (5, (.slice a_r8 r8.length c_r8)), (6, (.int .i64 (i52 : Int))), (61, (.bool true))]) (WO.meet ⟨I81, rfl, Mem.Le.refl _, hS92⟩) (Sub.cons rfl (Sub.cons rfl (Sub.cons rfl (Sub.cons rfl (Sub.cons rfl Sub.nil)))))
          · replace hr2 := cond_f hc hr2
            refine WO.reslot 46 rfl (show Value.bool (!r84) = Value.bool false by rw [hc]) ?_
            refine WO.vals [(15, 47, (.pointer (some ⟨b_p0, 0, none⟩))), (16, 48, (.slice a_r8 r8.length c_r8)), (17, 49, (.int .i64 (i52 : Int)))] (by kernel_rfl) (fun _ => by kernel_rfl) ?_
            obtain ⟨x93, hx_x93, hr2⟩ := bind_some hr2
            obtain ⟨h0_x93, h1_x93, hx_x93⟩ := idx_some hx_x93
            obtain ⟨ha_x93, cs_x93, hn_x93, hr_x93, hc_x93⟩ := ((RSl.mono h_r8 (((hl14.trans hl20).trans hl26).trans hl51))).el _ _ hx_x93
            obtain rfl := hr_x93
            refine WO.indexAddr (e := 9) (sz := 1) rfl (by kernel_rfl) (by kernel_rfl) (by kernel_rfl) rfl ha_x93 rfl h0_x93 h1_x93 ?_
            refine WO.load rfl (by kernel_rfl) (by kernel_rfl) rfl (v := (.string x93)) (fun w' hw' => hc_x93.cell0 (by kernel_rfl) ((rd_i (hS83.im.of_le ((hl67.trans hl76).trans hl82))) w' hw')) ?_
            have hS94 := hS83.front3
            have hS95 := hS94.front3
            obtain ⟨r101, hx_r96, hr2⟩ := bind_some hr2
            refine WO.call rfl (by kernel_rfl) rfl (f := 12) (args := #[(.pointer (some ⟨b_p0, 0, none⟩)), (.string x93)]) (by kernel_rfl) (mdl_Locks_Waiters_ok (h_p0.mono (((((((hl6.trans hl14).trans hl20).trans hl26).trans hl51).trans hl67).trans hl76).trans hl82)) hS95 hx_r96) ?_
            rintro _ w97 ⟨I98, a_r101, c_r101, rfl, hl99, hS100, h_r101⟩
            refine ⟨_, rfl, (KR.nil (hS100.im.of_le (((hl67.trans hl76).trans hl82).trans hl99))), ?_⟩
            refine WO.vals [(21, 53, (.pointer (some ⟨b_p1, 0, none⟩))), (22, 54, (.slice a_r8 r8.length c_r8)), (23, 55, (.int .i64 (i52 : Int)))] (by kernel_rfl) (fun _ => by kernel_rfl) ?_
            obtain ⟨x102, hx_x102, hr2⟩ := bind_some hr2
            obtain ⟨h0_x102, h1_x102, hx_x102⟩ := idx_some hx_x102
            obtain ⟨ha_x102, cs_x102, hn_x102, hr_x102, hc_x102⟩ := ((RSl.mono h_r8 (((hl14.trans hl20).trans hl26).trans hl51))).el _ _ hx_x102
            obtain rfl := hr_x102
            refine WO.indexAddr (e := 9) (sz := 1) rfl (by kernel_rfl) (by kernel_rfl) (by kernel_rfl) rfl ha_x102 rfl h0_x102 h1_x102 ?_
            refine WO.load rfl (by kernel_rfl) (by kernel_rfl) rfl (v := (.string x102)) (fun w' hw' => hc_x102.cell0 (by kernel_rfl) ((rd_i (hS100.im.of_le (((hl67.trans hl76).trans hl82).trans hl99))) w' hw')) ?_
            have hS103 := hS100.front3
            have hS104 := hS103.front3
            obtain ⟨r110, hx_r105, hr2⟩ := bind_some hr2
            refine WO.call rfl (by kernel_rfl) rfl (f := 48) (args := #[(.pointer (some ⟨b_p1, 0, none⟩)), (.string x102)]) (by kernel_rfl) (registrarref21_Locks_Queue_ok (h_p1.mono ((((((((hl6.trans hl14).trans hl20).trans hl26).trans hl51).trans hl67).trans hl76).trans hl82).trans hl99)) hS104 hx_r105) ?_
            rintro _ w106 ⟨I107, a_r110, c_r110, rfl, hl108, hS109, h_r110⟩
            refine ⟨_, rfl, (KR.nil (hS109.im.of_le ((((hl67.trans hl76).trans hl82).trans hl99).trans hl108))), ?_⟩
            obtain ⟨r116, hx_r111, hr2⟩ := bind_some hr2
            refine WO.call rfl (by kernel_rfl) rfl (f := 46) (args := #[(.slice a_r101 r101.length c_r101), (.slice a_r110 r110.length c_r110)]) (by kernel_rfl) (registrarlaw21_numbers_ok (RSl.mono h_r101 hl108) h_r110 hS109 hx_r111) ?_
            rintro _ w112 ⟨I113, rfl, hl114, hS115⟩
            refine ⟨_, rfl, (KR.nil (hS115.im.of_le (((((hl67.trans hl76).trans hl82).trans hl99).trans hl108).trans hl114))), ?_⟩
            refine WO.vals [(28, 60, (.bool (!r116))), (29, 61, (.bool (!r116)))] (by kernel_rfl) (fun _ => by kernel_rfl) ?_
            have hS117 := hS115.front1
            have hS118 := hS117.front1
            have hS119 := hS118.front3
            have hS120 := hS119.front3
            have he := Option.some.inj hr2
            subst j85
            refine WO.weaken (fr' := [(0, (.pointer (some ⟨b_p0, 0, none⟩))), (1, (.pointer (some ⟨b_p1, 0, none⟩))), (5, (.slice a_r8 r8.length c_r8)), (6, (.int .i64 (i52 : Int))), (61, (.bool (!r116)))]) (WO.meet ⟨I113, rfl, ((hl99.trans hl108).trans hl114), hS120⟩) (Sub.cons rfl (Sub.cons rfl (Sub.cons rfl (Sub.cons rfl (Sub.cons rfl Sub.nil)))))
        case restj85 =>
          rintro _ w121 ⟨I87, rfl, hl88, hS122⟩
          refine WO.nil ?_
          refine En.next ?_
          refine W.cond (b := j85) rfl rfl (fun hc => ?_) (fun hc => ?_)
          · replace hr1 := cond_t hc hr1
            refine W.seq ?_
            refine W.region (l := [0]) (by kernel_rfl) ?_
            refine WO.vals [(0, 4, (.bool false))] (by kernel_rfl) (fun _ => by kernel_rfl) ?_
            refine WO.nil ?_
            refine En.next ?_
            refine W.ret ?_
            refine En.in_ret ?_
            refine En.nx_ret ?_
            refine En.rd_ret ?_
            have ht := hext49 _ (Option.some.inj hr1).symm
            subst t49
            refine En.in_ret ?_
            refine En.nx_ret ?_
            have he := Option.some.inj hr
            subst r
            exact En.ret1 rfl (.bool false) rfl ⟨I87, rfl, ((((((((hl6.trans hl14).trans hl20).trans hl26).trans hl51).trans hl67).trans hl76).trans hl82).trans hl88), hS122⟩
          · replace hr1 := cond_f hc hr1
            refine W.skip ?_
            refine En.in_normal ?_
            refine En.next ?_
            refine W.region (l := [0, 1, 2]) (by kernel_rfl) ?_
            refine WO.vals [(0, 30, (.int .i64 (i52 : Int)))] (by kernel_rfl) (fun _ => by kernel_rfl) ?_
            refine WO.incr (j := i52) rfl (by kernel_rfl) rfl (by first | omega | (dsimp only at *; omega)) ?_
            refine WO.vals [(2, 6, (.int .i64 ((i52 + 1 : Nat) : Int)))] (by kernel_rfl) (fun _ => by kernel_rfl) ?_
            refine WO.nil ?_
            refine En.weaken (fr' := [(0, (.pointer (some ⟨b_p0, 0, none⟩))), (1, (.pointer (some ⟨b_p1, 0, none⟩))), (5, (.slice a_r8 r8.length c_r8)), (6, (.int .i64 ((i52 + 1 : Nat) : Int)))]) (En.round ⟨(), (Option.some.inj hr1).symm, I87, rfl, ((((hl51.trans hl67).trans hl76).trans hl82).trans hl88), hS122⟩) (Sub.cons rfl (Sub.cons rfl (Sub.cons rfl (Sub.cons rfl Sub.nil))))
      case lastt49 =>
        rintro _ _ w125 ⟨I50, rfl, hl51, hS126⟩ he
        cases he
        refine W.seq ?_
        refine W.seq ?_
        refine W.region (l := [0, 1, 2, 3]) (by kernel_rfl) ?_
        refine WO.vals [(0, 26, (.int .i64 (r8.length : Int))), (1, 27, (.slice a_r8 r8.length c_r8)), (2, 28, (.int .i64 (r8.length : Int))), (3, 29, (.bool (decide ((r8.length : Int) < (r8.length : Int)))))] (by kernel_rfl) (fun _ => by kernel_rfl) ?_
        refine WO.nil ?_
        refine En.next ?_
        refine W.cond (b := (decide ((r8.length : Int) < (r8.length : Int)))) rfl rfl (fun hc => ?_) (fun hc => ?_)
        · exact absurd hc (by first | (simp; done) | (simp; omega))
        clear hc
        refine W.exit ?_
        refine En.nx_exit ?_
        refine En.rd_exit ?_
        refine En.in_hit ?_
        refine En.next ?_
        refine W.seq ?_
        refine W.seq ?_
        refine W.region (l := [0]) (by kernel_rfl) ?_
        refine WO.vals [(0, 7, (.int .i64 0))] (by kernel_rfl) (fun _ => by kernel_rfl) ?_
        refine WO.nil ?_
        refine En.next ?_
        refine W.block ?_
        obtain ⟨t127, hloop131, hr⟩ := bind_some hr
        have hlt135 : (10 : Nat) < big := by decide
        refine W.weaken (fr' := [(0, (.pointer (some ⟨b_p0, 0, none⟩))), (1, (.pointer (some ⟨b_p1, 0, none⟩))), (7, (.int .i64 ((0 : Nat) : Int)))]) (W.forN (m := 10) hloop131 (fun (i130 : Nat) => fun (_s : Unit) fr w => ∃ (I128 : Mem), fr = [(0, (.pointer (some ⟨b_p0, 0, none⟩))), (1, (.pointer (some ⟨b_p1, 0, none⟩))), (7, (.int .i64 (i130 : Int)))] ∧ I50.Le I128 ∧ St E w I128 ((Gv.one b_p0 (.cells (cs_mdl_Locks p0 w_p0).toArray 56 (0, 0))) :: (w_p0.at_.C) :: (Gv.one b_p1 (.cells (cs_registrarref21_Locks p1 w_p1).toArray 51 (0, 0))) :: (w_p1.L.C) :: Os)) ⟨I50, rfl, Mem.Le.refl _, hS126⟩ ?roundt127 ?lastt127) (Sub.cons rfl (Sub.cons rfl (Sub.cons rfl Sub.nil)))
        case roundt127 =>
          rintro i130 _ _ w132 hi136 ⟨I128, rfl, hl129, hS133⟩ x134 hr1 hext127
          refine W.seq ?_
          refine W.seq ?_
          refine W.region (l := [0, 1]) (by kernel_rfl) ?_
          refine WO.vals [(0, 62, (.int .i64 (i130 : Int))), (1, 63, (.bool (decide ((i130 : Int) < 10))))] (by kernel_rfl) (fun _ => by kernel_rfl) ?_
          refine WO.nil ?_
          refine En.next ?_
          refine W.cond (b := (decide ((i130 : Int) < 10))) rfl rfl (fun hc => ?_) (fun hc => ?_)
          rotate_left
          · exact absurd hc (by first | (simp; done) | (simp; omega))
          clear hc
          refine W.skip ?_
          refine En.next ?_
          refine W.seq ?_
          refine W.block ?_
          refine W.seq ?_
          refine W.region (l := [0, 1, 2, 3, 4, 5, 6, 7, 8]) (by kernel_rfl) ?_
          refine WO.vals [(0, 67, (.pointer (some ⟨b_p0, 0, none⟩))), (1, 68, (.int .i64 (i130 : Int)))] (by kernel_rfl) (fun _ => by kernel_rfl) ?_
          have hS137 := hS133.front1
          have hS138 := hS137.front1
          obtain ⟨⟨r144, r145⟩, hx_r139, hr1⟩ := bind_some hr1
          refine WO.call rfl (by kernel_rfl) rfl (f := 20) (args := #[(.pointer (some ⟨b_p0, 0, none⟩)), (.int .i64 (i130 : Int))]) (by kernel_rfl) (mdl_Locks_Waits_ok (h_p0.mono (((((hl6.trans hl14).trans hl20).trans hl26).trans hl51).trans hl129)) hS138 hx_r139) ?_
          rintro _ w140 ⟨I141, rfl, hl142, hS143⟩
          refine ⟨_, rfl, trivial, ?_⟩
          refine WO.vals [(3, 66, (.tuple #[(.agg (cs_api_Need r144).toArray), (.bool r145)])), (4, 70, (.agg (cs_api_Need r144).toArray)), (5, 71, (.bool r145))] (by kernel_rfl) (fun _ => by kernel_rfl) ?_
          refine WO.new hS143 rfl (by kernel_rfl) rfl (.cells (cs_api_Need z_api_Need).toArray 43 (0, 0)) (fun b => .pointer (some ⟨b, 0, none⟩)) (by kernel_rfl) (fun _ _ _ => trivial) ?_
          intro b146 w149 hS148
          refine WO.storeBox hS148 rfl (by kernel_rfl) rfl 0 rfl rfl (by kernel_rfl) (by kernel_rfl) (by kernel_rfl) ((cs_api_Need r144).toArray) (by kernel_rfl) (fun _ _ => trivial) ?_
          intro w151 hS150
          refine WO.vals [(8, 9, (.bool r145))] (by kernel_rfl) (fun _ => by kernel_rfl) ?_
          refine WO.nil ?_
          refine En.next ?_
          refine W.seq ?_
          refine W.region (l := [0, 1, 2, 3, 4, 5, 6, 7, 8]) (by kernel_rfl) ?_
          refine WO.vals [(0, 73, (.pointer (some ⟨b_p1, 0, none⟩))), (1, 74, (.int .i64 (i130 : Int)))] (by kernel_rfl) (fun _ => by kernel_rfl) ?_
          have hS152 := hS150.front4
          have hS153 := hS152.front4
          obtain ⟨⟨r159, r160⟩, hx_r154, hr1⟩ := bind_some hr1
          refine WO.call rfl (by kernel_rfl) rfl (f := 49) (args := #[(.pointer (some ⟨b_p1, 0, none⟩)), (.int .i64 (i130 : Int))]) (by kernel_rfl) (registrarref21_Locks_Waits_ok (h_p1.mono ((((((hl6.trans hl14).trans hl20).trans hl26).trans hl51).trans hl129).trans hl142)) hS153 hx_r154) ?_
          rintro _ w155 ⟨I156, rfl, hl157, hS158⟩
          refine ⟨_, rfl, trivial, ?_⟩
          refine WO.vals [(3, 72, (.tuple #[(.agg (cs_api_Need r159).toArray), (.bool r160)])), (4, 76, (.agg (cs_api_Need r159).toArray)), (5, 77, (.bool r160))] (by kernel_rfl) (fun _ => by kernel_rfl) ?_
          refine WO.new hS158 rfl (by kernel_rfl) rfl (.cells (cs_api_Need z_api_Need).toArray 43 (0, 0)) (fun b => .pointer (some ⟨b, 0, none⟩)) (by kernel_rfl) (fun _ _ _ => trivial) ?_
          intro b161 w164 hS163
          refine WO.storeBox hS163 rfl (by kernel_rfl) rfl 0 rfl rfl (by kernel_rfl) (by kernel_rfl) (by kernel_rfl) ((cs_api_Need r159).toArray) (by kernel_rfl) (fun _ _ => trivial) ?_
          intro w166 hS165
          refine WO.vals [(8, 11, (.bool r160))] (by kernel_rfl) (fun _ => by kernel_rfl) ?_
          refine WO.nil ?_
          refine En.next ?_
          refine W.seq ?_
          refine W.region (l := [0, 1, 2, 3, 4, 5, 6, 7, 8, 9, 10, 11, 12, 13, 14, 15, 16, 17, 18, 19, 20, 21, 22, 23, 24, 25, 26, 27]) (by kernel_rfl) ?_
          refine WO.loadN rfl (by kernel_rfl) (by kernel_rfl) rfl ((cs_api_Need r144)) (by kernel_rfl) (fun w' hw' => cells_one ((rd_f (hS165.rd (List.Mem.tail _ (List.Mem.tail _ (List.Mem.tail _ (List.Mem.head _)))))) w' hw') (by kernel_rfl)) ?_
          refine WO.loadN rfl (by kernel_rfl) (by kernel_rfl) rfl ((cs_api_Need r159)) (by kernel_rfl) (fun w' hw' => cells_one ((rd_f (hS165.rd (List.Mem.head _))) w' hw') (by kernel_rfl)) ?_
          refine WO.eqStruct rfl (by kernel_rfl) rfl rfl (by kernel_rfl) 50 rfl (b := (sEq r144.Path r159.Path && ((r144.Mode == r159.Mode) && true))) (by kernel_rfl) (!(sEq r144.Path r159.Path && (r144.Mode == r159.Mode))) (.inr ⟨rfl, by simp only [Bool.and_true]⟩) ?_
          refine WO.vals [(3, 81, (.bool (!(sEq r144.Path r159.Path && (r144.Mode == r159.Mode)))))] (by kernel_rfl) (fun _ => by kernel_rfl) ?_
          refine WO.join (l1 := [4, 5, 6, 7]) (l2 := [8, 9, 10, 11, 12, 13, 14, 15, 16, 17, 18, 19, 20, 21, 22, 23, 24, 25, 26, 27]) (J := fun frx wx => frx = [(85, (.bool ((!(sEq r144.Path r159.Path && (r144.Mode == r159.Mode))) || (!(r145 == r160))))), (0, (.pointer (some ⟨b_p0, 0, none⟩))), (1, (.pointer (some ⟨b_p1, 0, none⟩))), (7, (.int .i64 (i130 : Int)))] ∧ w166 = wx) ?restm167 ?waysm167
          case waysm167 =>
            refine WO.caseb (!(sEq r144.Path r159.Path && (r144.Mode == r159.Mode))) (fun hc => ?_) (fun hc => ?_)
            · skip
              refine WO.reslot 81 rfl (show Value.bool (!(sEq r144.Path r159.Path && (r144.Mode == r159.Mode))) = Value.bool true by rw [hc]) ?_
              refine WO.pass rfl (by kernel_rfl) rfl ?_
              refine WO.pass rfl (by kernel_rfl) rfl ?_
              refine WO.pass rfl (by kernel_rfl) rfl ?_
              refine WO.vals [(7, 85, (.bool true))] (by kernel_rfl) (fun _ => by kernel_rfl) ?_
              refine WO.weaken (fr' := [(85, (.bool ((!(sEq r144.Path r159.Path && (r144.Mode == r159.Mode))) || (!(r145 == r160))))), (0, (.pointer (some ⟨b_p0, 0, none⟩))), (1, (.pointer (some ⟨b_p1, 0, none⟩))), (7, (.int .i64 (i130 : Int)))]) (WO.meet ⟨rfl, rfl⟩) (Sub.cons (by rw [hc]; rfl) (Sub.cons rfl (Sub.cons rfl (Sub.cons rfl Sub.nil))))
            · skip
              refine WO.reslot 81 rfl (show Value.bool (!(sEq r144.Path r159.Path && (r144.Mode == r159.Mode))) = Value.bool false by rw [hc]) ?_
              refine WO.vals [(4, 82, (.bool r145)), (5, 83, (.bool r160)), (6, 84, (.bool (!(r145 == r160)))), (7, 85, (.bool (!(r145 == r160))))] (by kernel_rfl) (fun _ => by kernel_rfl) ?_
              refine WO.weaken (fr' := [(85, (.bool ((!(sEq r144.Path r159.Path && (r144.Mode == r159.Mode))) || (!(r145 == r160))))), (0, (.pointer (some ⟨b_p0, 0, none⟩))), (1, (.pointer (some ⟨b_p1, 0, none⟩))), (7, (.int .i64 (i130 : Int)))]) (WO.meet ⟨rfl, rfl⟩) (Sub.cons (by rw [hc]; rfl) (Sub.cons rfl (Sub.cons rfl (Sub.cons rfl Sub.nil))))
          case restm167 =>
            rintro _ _ ⟨rfl, rfl⟩
            refine WO.vals [(8, 86, (.bool ((!(sEq r144.Path r159.Path && (r144.Mode == r159.Mode))) || (!(r145 == r160)))))] (by kernel_rfl) (fun _ => by kernel_rfl) ?_
            obtain ⟨j169, hr2, hr1⟩ := bind_some hr1
            refine WO.join (l1 := [9, 10, 11, 12, 13, 14, 15, 16, 17]) (l2 := [18, 19, 20, 21, 22, 23, 24, 25, 26, 27]) (J := (fun fr w => ∃ (I171 : Mem), fr = [(0, (.pointer (some ⟨b_p0, 0, none⟩))), (1, (.pointer (some ⟨b_p1, 0, none⟩))), (7, (.int .i64 (i130 : Int))), (95, (.bool j169))] ∧ I156.Le I171 ∧ St E w I171 ((Gv.one b_p0 (.cells (cs_mdl_Locks p0 w_p0).toArray 56 (0, 0))) :: (w_p0.at_.C) :: (Gv.one b_p1 (.cells (cs_registrarref21_Locks p1 w_p1).toArray 51 (0, 0))) :: (w_p1.L.C) :: Os))) ?restj169 ?waysj169
            case waysj169 =>
              refine WO.caseb ((!(sEq r144.Path r159.Path && (r144.Mode == r159.Mode))) || (!(r145 == r160))) (fun hc => ?_) (fun hc => ?_)
              · replace hr2 := cond_t hc hr2
                refine WO.reslot 86 rfl (show Value.bool ((!(sEq r144.Path r159.Path && (r144.Mode == r159.Mode))) || (!(r145 == r160))) = Value.bool true by rw [hc]) ?_
                refine WO.pass rfl (by kernel_rfl) rfl ?_
                refine WO.pass rfl (by kernel_rfl) rfl ?_
                refine WO.pass rfl (by kernel_rfl) rfl ?_
                refine WO.pass rfl (by kernel_rfl) rfl ?_
                refine WO.pass rfl (by kernel_rfl) rfl ?_
                refine WO.pass rfl (by kernel_rfl) rfl ?_
                refine WO.pass rfl (by kernel_rfl) rfl ?_
                refine WO.pass rfl (by kernel_rfl) rfl ?_
                refine WO.vals [(17, 95, (.bool true))] (by kernel_rfl) (fun _ => by kernel_rfl) ?_
                have hS173 := hS165.drop
                have hS174 := hS173.front2
                have hS175 := hS174.drop
                have hS176 := hS175.front1
                have hS177 := hS176.front1
                have hS178 := hS177.front3
                have hS179 := hS178.front3
                have he := Option.some.inj hr2
                subst j169
                refine WO.weaken (fr' := [(0, (.pointer (some ⟨b_p0, 0, none⟩))), (1, (.pointer (some ⟨b_p1, 0, none⟩))), (7, (.int .i64 (i130 : Int))), (95, (.bool true))]) (WO.meet ⟨I156, rfl, Mem.Le.refl _, hS179⟩) (Sub.cons rfl (Sub.cons rfl (Sub.cons rfl (Sub.cons rfl Sub.nil))))
              · replace hr2 := cond_f hc hr2
                refine WO.reslot 86 rfl (show Value.bool ((!(sEq r144.Path r159.Path && (r144.Mode == r159.Mode))) || (!(r145 == r160))) = Value.bool false by rw [hc]) ?_
                refine WO.vals [(9, 87, (.pointer (some ⟨b_p0, 0, none⟩))), (10, 88, (.int .i64 (i130 : Int)))] (by kernel_rfl) (fun _ => by kernel_rfl) ?_
                have hS180 := hS165.front5
                have hS181 := hS180.front5
                obtain ⟨r187, hx_r182, hr2⟩ := bind_some hr2
                refine WO.call rfl (by kernel_rfl) rfl (f := 18) (args := #[(.pointer (some ⟨b_p0, 0, none⟩)), (.int .i64 (i130 : Int))]) (by kernel_rfl) (mdl_Locks_Holds_ok (h_p0.mono (((((((hl6.trans hl14).trans hl20).trans hl26).trans hl51).trans hl129).trans hl142).trans hl157)) hS181 hx_r182) ?_
                rintro _ w183 ⟨I184, a_r187, c_r187, rfl, hl185, hS186, h_r187⟩
                refine ⟨_, rfl, trivial, ?_⟩
                refine WO.vals [(12, 90, (.pointer (some ⟨b_p1, 0, none⟩))), (13, 91, (.int .i64 (i130 : Int)))] (by kernel_rfl) (fun _ => by kernel_rfl) ?_
                have hS188 := hS186.front4
                have hS189 := hS188.front4
                obtain ⟨r195, hx_r190, hr2⟩ := bind_some hr2
                refine WO.call rfl (by kernel_rfl) rfl (f := 51) (args := #[(.pointer (some ⟨b_p1, 0, none⟩)), (.int .i64 (i130 : Int))]) (by kernel_rfl) (registrarref21_Locks_Holds_ok (h_p1.mono ((((((((hl6.trans hl14).trans hl20).trans hl26).trans hl51).trans hl129).trans hl142).trans hl157).trans hl185)) hS189 hx_r190) ?_
                rintro _ w191 ⟨I192, a_r195, c_r195, rfl, hl193, hS194, h_r195⟩
                refine ⟨_, rfl, trivial, ?_⟩
                obtain ⟨r201, hx_r196, hr2⟩ := bind_some hr2
                refine WO.call rfl (by kernel_rfl) rfl (f := 50) (args := #[(.slice a_r187 r187.length c_r187), (.slice a_r195 r195.length c_r195)]) (by kernel_rfl) (registrarref20_Same_ok (RSl.mono h_r187 hl193) h_r195 hS194 hx_r196) ?_
                rintro _ w197 ⟨I198, rfl, hl199, hS200⟩
                refine ⟨_, rfl, trivial, ?_⟩
                refine WO.vals [(16, 94, (.bool (!r201))), (17, 95, (.bool (!r201)))] (by kernel_rfl) (fun _ => by kernel_rfl) ?_
                have hS202 := hS200.front4
                have hS203 := hS202.drop
                have hS204 := hS203.front4
                have hS205 := hS204.drop
                have hS206 := hS205.front1
                have hS207 := hS206.front1
                have hS208 := hS207.front3
                have hS209 := hS208.front3
                have he := Option.some.inj hr2
                subst j169
                refine WO.weaken (fr' := [(0, (.pointer (some ⟨b_p0, 0, none⟩))), (1, (.pointer (some ⟨b_p1, 0, none⟩))), (7, (.int .i64 (i130 : Int))), (95, (.bool (!r201)))]) (WO.meet ⟨I198, rfl, ((hl185.trans hl193).trans hl199), hS209⟩) (Sub.cons rfl (Sub.cons rfl (Sub.cons rfl (Sub.cons rfl Sub.nil))))
            case restj169 =>
              rintro _ w210 ⟨I171, rfl, hl172, hS211⟩
              refine WO.vals [(18, 96, (.bool j169))] (by kernel_rfl) (fun _ => by kernel_rfl) ?_
              obtain ⟨j212, hr2, hr1⟩ := bind_some hr1
              refine WO.join (l1 := [19, 20, 21, 22, 23, 24, 25, 26, 27]) (l2 := []) (J := (fun fr w => ∃ (I214 : Mem), fr = [(0, (.pointer (some ⟨b_p0, 0, none⟩))), (1, (.pointer (some ⟨b_p1, 0, none⟩))), (7, (.int .i64 (i130 : Int))), (105, (.bool j212))] ∧ I171.Le I214 ∧ St E w I214 ((Gv.one b_p0 (.cells (cs_mdl_Locks p0 w_p0).toArray 56 (0, 0))) :: (w_p0.at_.C) :: (Gv.one b_p1 (.cells (cs_registrarref21_Locks p1 w_p1).toArray 51 (0, 0))) :: (w_p1.L.C) :: Os))) ?restj212 ?waysj212
              case waysj212 =>
                refine WO.caseb j169 (fun hc => ?_) (fun hc => ?_)
                · replace hr2 := cond_t hc hr2
                  refine WO.reslot 96 rfl (show Value.bool j169 = Value.bool true by rw [hc]) ?_
                  refine WO.pass rfl (by kernel_rfl) rfl ?_
                  refine WO.pass rfl (by kernel_rfl) rfl ?_
                  refine WO.pass rfl (by kernel_rfl) rfl ?_
                  refine WO.pass rfl (by kernel_rfl) rfl ?_
                  refine WO.pass rfl (by kernel_rfl) rfl ?_
                  refine WO.pass rfl (by kernel_rfl) rfl ?_
                  refine WO.pass rfl (by kernel_rfl) rfl ?_
                  refine WO.pass rfl (by kernel_rfl) rfl ?_
                  refine WO.vals [(27, 105, (.bool true))] (by kernel_rfl) (fun _ => by kernel_rfl) ?_
                  have he := Option.some.inj hr2
                  subst j212
                  refine WO.weaken (fr' := [(0, (.pointer (some ⟨b_p0, 0, none⟩))), (1, (.pointer (some ⟨b_p1, 0, none⟩))), (7, (.int .i64 (i130 : Int))), (105, (.bool true))]) (WO.meet ⟨I171, rfl, Mem.Le.refl _, hS211⟩) (Sub.cons rfl (Sub.cons rfl (Sub.cons rfl (Sub.cons rfl Sub.nil))))
                · replace hr2 := cond_f hc hr2
                  refine WO.reslot 96 rfl (show Value.bool j169 = Value.bool false by rw [hc]) ?_
                  refine WO.vals [(19, 97, (.pointer (some ⟨b_p0, 0, none⟩))), (20, 98, (.int .i64 (i130 : Int)))] (by kernel_rfl) (fun _ => by kernel_rfl) ?_
                  have hS216 := hS211.front1
                  have hS217 := hS216.front1
                  obtain ⟨r223, hx_r218, hr2⟩ := bind_some hr2
                  refine WO.call rfl (by kernel_rfl) rfl (f := 26) (args := #[(.pointer (some ⟨b_p0, 0, none⟩)), (.int .i64 (i130 : Int))]) (by kernel_rfl) (mdl_Locks_Blockers_ok (h_p0.mono ((((((((hl6.trans hl14).trans hl20).trans hl26).trans hl51).trans hl129).trans hl142).trans hl157).trans hl172)) hS217 hx_r218) ?_
                  rintro _ w219 ⟨I220, a_r223, c_r223, rfl, hl221, hS222, h_r223⟩
                  refine ⟨_, rfl, trivial, ?_⟩
                  refine WO.vals [(22, 100, (.pointer (some ⟨b_p1, 0, none⟩))), (23, 101, (.int .i64 (i130 : Int)))] (by kernel_rfl) (fun _ => by kernel_rfl) ?_
                  have hS224 := hS222.front3
                  have hS225 := hS224.front3
                  obtain ⟨r231, hx_r226, hr2⟩ := bind_some hr2
                  refine WO.call rfl (by kernel_rfl) rfl (f := 52) (args := #[(.pointer (some ⟨b_p1, 0, none⟩)), (.int .i64 (i130 : Int))]) (by kernel_rfl) (registrarref21_Locks_Blockers_ok (h_p1.mono (((((((((hl6.trans hl14).trans hl20).trans hl26).trans hl51).trans hl129).trans hl142).trans hl157).trans hl172).trans hl221)) hS225 hx_r226) ?_
                  rintro _ w227 ⟨I228, a_r231, c_r231, rfl, hl229, hS230, h_r231⟩
                  refine ⟨_, rfl, trivial, ?_⟩
                  obtain ⟨r237, hx_r232, hr2⟩ := bind_some hr2
                  refine WO.call rfl (by kernel_rfl) rfl (f := 46) (args := #[(.slice a_r223 r223.length c_r223), (.slice a_r231 r231.length c_r231)]) (by kernel_rfl) (registrarlaw21_numbers_ok (RSl.mono h_r223 hl229) h_r231 hS230 hx_r232) ?_
                  rintro _ w233 ⟨I234, rfl, hl235, hS236⟩
                  refine ⟨_, rfl, trivial, ?_⟩
                  refine WO.vals [(26, 104, (.bool (!r237))), (27, 105, (.bool (!r237)))] (by kernel_rfl) (fun _ => by kernel_rfl) ?_
                  have hS238 := hS236.front1
                  have hS239 := hS238.front1
                  have hS240 := hS239.front3
                  have hS241 := hS240.front3
                  have he := Option.some.inj hr2
                  subst j212
                  refine WO.weaken (fr' := [(0, (.pointer (some ⟨b_p0, 0, none⟩))), (1, (.pointer (some ⟨b_p1, 0, none⟩))), (7, (.int .i64 (i130 : Int))), (105, (.bool (!r237)))]) (WO.meet ⟨I234, rfl, ((hl221.trans hl229).trans hl235), hS241⟩) (Sub.cons rfl (Sub.cons rfl (Sub.cons rfl (Sub.cons rfl Sub.nil))))
              case restj212 =>
                rintro _ w242 ⟨I214, rfl, hl215, hS243⟩
                refine WO.nil ?_
                refine En.next ?_
                refine W.cond (b := j212) rfl rfl (fun hc => ?_) (fun hc => ?_)
                · replace hr1 := cond_t hc hr1
                  refine W.seq ?_
                  refine W.region (l := [0]) (by kernel_rfl) ?_
                  refine WO.vals [(0, 4, (.bool false))] (by kernel_rfl) (fun _ => by kernel_rfl) ?_
                  refine WO.nil ?_
                  refine En.next ?_
                  refine W.ret ?_
                  refine En.in_ret ?_
                  refine En.nx_ret ?_
                  refine En.rd_ret ?_
                  have ht := hext127 _ (Option.some.inj hr1).symm
                  subst t127
                  refine En.in_ret ?_
                  refine En.nx_ret ?_
                  have he := Option.some.inj hr
                  subst r
                  exact En.ret1 rfl (.bool false) rfl ⟨I214, rfl, (((((((((hl6.trans hl14).trans hl20).trans hl26).trans hl51).trans hl129).trans hl142).trans hl157).trans hl172).trans hl215), hS243⟩
                · replace hr1 := cond_f hc hr1
                  refine W.skip ?_
                  refine En.in_normal ?_
                  refine En.next ?_
                  refine W.region (l := [0, 1, 2]) (by kernel_rfl) ?_
                  refine WO.vals [(0, 64, (.int .i64 (i130 : Int)))] (by kernel_rfl) (fun _ => by kernel_rfl) ?_
                  refine WO.incr (j := i130) rfl (by kernel_rfl) rfl (by first | omega | (dsimp only at *; omega)) ?_
                  refine WO.vals [(2, 7, (.int .i64 ((i130 + 1 : Nat) : Int)))] (by kernel_rfl) (fun _ => by kernel_rfl) ?_
                  refine WO.nil ?_
                  refine En.weaken (fr' := [(0, (.pointer (some ⟨b_p0, 0, none⟩))), (1, (.pointer (some ⟨b_p1, 0, none⟩))), (7, (.int .i64 ((i130 + 1 : Nat) : Int)))]) (En.round ⟨(), (Option.some.inj hr1).symm, I214, rfl, ((((hl129.trans hl142).trans hl157).trans hl172).trans hl215), hS243⟩) (Sub.cons rfl (Sub.cons rfl (Sub.cons rfl Sub.nil)))
        case lastt127 =>
          rintro _ _ w246 ⟨I128, rfl, hl129, hS247⟩ he
          cases he
          refine W.seq ?_
          refine W.seq ?_
          refine W.region (l := [0, 1]) (by kernel_rfl) ?_
          refine WO.vals [(0, 62, (.int .i64 ((10 : Nat) : Int))), (1, 63, (.bool (decide (((10 : Nat) : Int) < 10))))] (by kernel_rfl) (fun _ => by kernel_rfl) ?_
          refine WO.nil ?_
          refine En.next ?_
          refine W.cond (b := (decide (((10 : Nat) : Int) < 10))) rfl rfl (fun hc => ?_) (fun hc => ?_)
          · exact absurd hc (by first | (simp; done) | (simp; omega))
          clear hc
          refine W.exit ?_
          refine En.nx_exit ?_
          refine En.rd_exit ?_
          refine En.in_hit ?_
          refine En.next ?_
          refine W.seq ?_
          refine W.region (l := [0]) (by kernel_rfl) ?_
          refine WO.vals [(0, 4, (.bool true))] (by kernel_rfl) (fun _ => by kernel_rfl) ?_
          refine WO.nil ?_
          refine En.next ?_
          refine W.ret ?_
          have he := Option.some.inj hr
          subst r
          exact En.ret1 rfl (.bool true) rfl ⟨I128, rfl, (((((hl6.trans hl14).trans hl20).trans hl26).trans hl51).trans hl129), hS247⟩
noncomputable def registrarlaw21_MdlPlays (p0 : List registrarlaw21_Act) : Option Bool := (mdl_New).bind (fun (r6 : mdl_Locks) => (loopO (fun (s : Int × registrarref21_Locks × mdl_Locks) => match s with | (s16, s17, s18) => (bif ((decide (s16 < (p0.length : Int))) && (decide (s16 < 60))) then (idx p0 s16).bind (fun (x29 : registrarlaw21_Act) => (registrarlaw21_long x29).bind (fun (r35 : Bool) => (bif r35 then (registrarlaw21_works).bind (fun (r41 : Bool) => some (.inr (.inl (r41, s17, s18)))) else (idx p0 s16).bind (fun (x54 : registrarlaw21_Act) => (registrarlaw21_done s18 s17 x54).bind (fun ((r64, r65, r66) : Bool × mdl_Locks × registrarref21_Locks) => ((bif (!r64) then some true else ((bif ((Int.tmod s16 4) == 0) then (registrarlaw21_like r65 r66).bind (fun (r88 : Bool) => some (!r88)) else some false)).bind (fun (j75 : Bool) => some j75))).bind (fun (j67 : Bool) => (bif j67 then some (.inr (.inl (false, r66, r65))) else some (.inl ((w64 (s16 + 1)), r66, r65))))))))) else some (.inr (.inr (s17, s18))))) (0, (⟨([] : List registrarref21_One)⟩ : registrarref21_Locks), r6)).bind (fun (t : (Bool × registrarref21_Locks × mdl_Locks) ⊕ (registrarref21_Locks × mdl_Locks)) => match t with | (.inl (s43, s44, s45)) => some s43 | (.inr (s106, s107)) => (registrarlaw21_like s107 s106).bind (fun (r116 : Bool) => ((bif r116 then (registrarlaw21_works).bind (fun (r126 : Bool) => some r126) else some false)).bind (fun (j117 : Bool) => some j117))))
set_option maxHeartbeats 1000000 in
theorem registrarlaw21_MdlPlays_ok {E w : World} {I : Mem} {Os : List Mem} {p0 : List registrarlaw21_Act} {a_p0 : Option Addr} {c_p0 : Nat} (h_p0 : RSl 4 R_registrarlaw21_Act I a_p0 c_p0 p0) (hS : St E w I Os) {r : Bool} (hr : registrarlaw21_MdlPlays p0 = some r) :
    Calls P 6 #[(.slice a_p0 p0.length c_p0)] w (fun e w' => ∃ (I' : Mem), e = .returned (.bool r) ∧ I.Le I' ∧ St E w' I' Os) := by
  refine calls_W (args := [(.slice a_p0 p0.length c_p0)]) (fn := Try.f6) rfl rfl rfl ?_
  unfold registrarlaw21_MdlPlays at hr
  refine W.seq ?_
  refine W.region (l := [0]) (by kernel_rfl) ?_
  refine WO.vals [(0, 2, (.bool false))] (by kernel_rfl) (fun _ => by kernel_rfl) ?_
  refine WO.nil ?_
  refine En.next ?_
  refine W.seq ?_
  refine W.region (l := [0, 1]) (by kernel_rfl) ?_
  obtain ⟨r6, hx_r1, hr⟩ := bind_some hr
  refine WO.call rfl (by kernel_rfl) rfl (f := 8) (args := #[]) (by kernel_rfl) (mdl_New_ok  hS hx_r1) ?_
  rintro _ w2 ⟨I3, b_r6, w_r6, rfl, hl4, hS5, h_r6⟩
  refine ⟨_, rfl, trivial, ?_⟩
  refine WO.vals [(1, 3, (.pointer (some ⟨b_r6, 0, none⟩)))] (by kernel_rfl) (fun _ => by kernel_rfl) ?_
  refine WO.nil ?_
  refine En.next ?_
  refine W.seq ?_
  refine W.region (l := [0, 1, 2]) (by kernel_rfl) ?_
  refine WO.vals [(0, 7, (.agg (cs_registrarref21_Locks (⟨([] : List registrarref21_One)⟩ : registrarref21_Locks) (⟨⟨none, 0, Mem.no⟩⟩ : W_registrarref21_Locks)).toArray))] (by kernel_rfl) (fun _ => by kernel_rfl) ?_
  refine WO.new hS5 rfl (by kernel_rfl) rfl (.cells (cs_registrarref21_Locks (⟨([] : List registrarref21_One)⟩ : registrarref21_Locks) (⟨⟨none, 0, Mem.no⟩⟩ : W_registrarref21_Locks)).toArray 51 (0, 0)) (fun b => .pointer (some ⟨b, 0, none⟩)) (by kernel_rfl) (fun _ _ _ => trivial) ?_
  intro b7 w10 hS9
  refine WO.vals [(2, 4, (.pointer (some ⟨b7, 0, none⟩)))] (by kernel_rfl) (fun _ => by kernel_rfl) ?_
  refine WO.nil ?_
  refine En.next ?_
  refine W.seq ?_
  refine W.seq ?_
  refine W.region (l := [0]) (by kernel_rfl) ?_
  refine WO.vals [(0, 5, (.int .i64 0))] (by kernel_rfl) (fun _ => by kernel_rfl) ?_
  refine WO.nil ?_
  refine En.next ?_
  refine W.block ?_
  have hS13 := hS9.no
  obtain ⟨t11, hloop19, hr⟩ := bind_some hr
  have hk20 : ok_registrarref21_Locks I3 (⟨([] : List registrarref21_One)⟩ : registrarref21_Locks) (⟨⟨none, 0, Mem.no⟩⟩ : W_registrarref21_Locks) := ⟨(OwnSl.nil (T := 98) (rel := R_registrarref21_One) (I := I3))⟩
  have hS21 := hS13.front3
  have hS22 := hS21.front2
  have hS23 := hS22.front3
  refine W.weaken (fr' := [(0, (.slice a_p0 p0.length c_p0)), (3, (.pointer (some ⟨b_r6, 0, none⟩))), (4, (.pointer (some ⟨b7, 0, none⟩))), (5, (.int .i64 0))]) (W.loopO hloop19 (fun (s : Int × registrarref21_Locks × mdl_Locks) fr w => match s with | (s16, s17, s18) => ∃ (I14 : Mem), ∃ (w_s17 : W_registrarref21_Locks), ∃ (w_s18 : W_mdl_Locks), fr = [(0, (.slice a_p0 p0.length c_p0)), (3, (.pointer (some ⟨b_r6, 0, none⟩))), (4, (.pointer (some ⟨b7, 0, none⟩))), (5, (.int .i64 s16))] ∧ I3.Le I14 ∧ St E w I14 ((Gv.one b_r6 (.cells (cs_mdl_Locks s18 w_s18).toArray 56 (0, 0))) :: (Gv.one b7 (.cells (cs_registrarref21_Locks s17 w_s17).toArray 51 (0, 0))) :: (w_s18.at_.C) :: (w_s17.L.C) :: Os) ∧ ok_registrarref21_Locks I14 s17 w_s17 ∧ ok_mdl_Locks I14 s18 w_s18) ⟨I3, (⟨⟨none, 0, Mem.no⟩⟩ : W_registrarref21_Locks), w_r6, rfl, Mem.Le.refl _, hS23, hk20, h_r6⟩ ?_) (Sub.cons rfl (Sub.cons rfl (Sub.cons rfl (Sub.cons rfl Sub.nil))))
  rintro ⟨s16, s17, s18⟩ _ w24 ⟨I14, w_s17, w_s18, rfl, hl15, hS25, h_s17, h_s18⟩ x26 hr1 hext11
  refine W.seq ?_
  refine W.seq ?_
  refine W.region (l := [0, 1, 2, 3, 4, 5, 6, 7]) (by kernel_rfl) ?_
  refine WO.vals [(0, 9, (.int .i64 s16)), (1, 10, (.slice a_p0 p0.length c_p0)), (2, 11, (.int .i64 (p0.length : Int))), (3, 12, (.bool (decide (s16 < (p0.length : Int))))), (4, 13, (.bool (decide (s16 < (p0.length : Int)))))] (by kernel_rfl) (fun _ => by kernel_rfl) ?_
  refine WO.join (l1 := [5, 6, 7]) (l2 := []) (J := fun frx wx => frx = [(16, (.bool ((decide (s16 < (p0.length : Int))) && (decide (s16 < 60))))), (0, (.slice a_p0 p0.length c_p0)), (3, (.pointer (some ⟨b_r6, 0, none⟩))), (4, (.pointer (some ⟨b7, 0, none⟩))), (5, (.int .i64 s16))] ∧ w24 = wx) ?restm27 ?waysm27
  case waysm27 =>
    refine WO.caseb (decide (s16 < (p0.length : Int))) (fun hc => ?_) (fun hc => ?_)
    · skip
      refine WO.reslot 13 rfl (show Value.bool (decide (s16 < (p0.length : Int))) = Value.bool true by rw [hc]) ?_
      refine WO.vals [(5, 14, (.int .i64 s16)), (6, 15, (.bool (decide (s16 < 60)))), (7, 16, (.bool (decide (s16 < 60))))] (by kernel_rfl) (fun _ => by kernel_rfl) ?_
      refine WO.weaken (fr' := [(16, (.bool ((decide (s16 < (p0.length : Int))) && (decide (s16 < 60))))), (0, (.slice a_p0 p0.length c_p0)), (3, (.pointer (some ⟨b_r6, 0, none⟩))), (4, (.pointer (some ⟨b7, 0, none⟩))), (5, (.int .i64 s16))]) (WO.meet ⟨rfl, rfl⟩) (Sub.cons (by rw [hc]; rfl) (Sub.cons rfl (Sub.cons rfl (Sub.cons rfl (Sub.cons rfl Sub.nil)))))
    · skip
      refine WO.reslot 13 rfl (show Value.bool (decide (s16 < (p0.length : Int))) = Value.bool false by rw [hc]) ?_
      refine WO.pass rfl (by kernel_rfl) rfl ?_
      refine WO.pass rfl (by kernel_rfl) rfl ?_
      refine WO.vals [(7, 16, (.bool false))] (by kernel_rfl) (fun _ => by kernel_rfl) ?_
      refine WO.weaken (fr' := [(16, (.bool ((decide (s16 < (p0.length : Int))) && (decide (s16 < 60))))), (0, (.slice a_p0 p0.length c_p0)), (3, (.pointer (some ⟨b_r6, 0, none⟩))), (4, (.pointer (some ⟨b7, 0, none⟩))), (5, (.int .i64 s16))]) (WO.meet ⟨rfl, rfl⟩) (Sub.cons (by rw [hc]; rfl) (Sub.cons rfl (Sub.cons rfl (Sub.cons rfl (Sub.cons rfl Sub.nil)))))
  case restm27 =>
    rintro _ _ ⟨rfl, rfl⟩
    refine WO.nil ?_
    refine En.next ?_
    refine W.cond (b := ((decide (s16 < (p0.length : Int))) && (decide (s16 < 60)))) rfl rfl (fun hc => ?_) (fun hc => ?_)
    · replace hr1 := cond_t hc hr1
      refine W.skip ?_
      refine En.next ?_
      refine W.seq ?_
      refine W.block ?_
      refine W.seq ?_
      refine W.seq ?_
      refine W.region (l := [0, 1, 2, 3, 4]) (by kernel_rfl) ?_
      refine WO.vals [(0, 19, (.slice a_p0 p0.length c_p0)), (1, 20, (.int .i64 s16))] (by kernel_rfl) (fun _ => by kernel_rfl) ?_
      obtain ⟨x29, hx_x29, hr1⟩ := bind_some hr1
      obtain ⟨h0_x29, h1_x29, hx_x29⟩ := idx_some hx_x29
      obtain ⟨ha_x29, cs_x29, hn_x29, hr_x29, hc_x29⟩ := ((RSl.mono h_p0 (hl4.trans hl15))).el _ _ hx_x29
      obtain rfl := hr_x29
      refine WO.indexAddr (e := 27) (sz := 4) rfl (by kernel_rfl) (by kernel_rfl) (by kernel_rfl) rfl ha_x29 rfl h0_x29 h1_x29 ?_
      refine WO.loadN rfl (by kernel_rfl) (by kernel_rfl) rfl ((cs_registrarlaw21_Act x29)) (by kernel_rfl) (fun w' hw' => hc_x29.cells (k := 0) (by kernel_rfl) rfl ((rd_f hS25.im) w' hw')) ?_
      obtain ⟨r35, hx_r30, hr1⟩ := bind_some hr1
      refine WO.call rfl (by kernel_rfl) rfl (f := 9) (args := #[(.agg (cs_registrarlaw21_Act x29).toArray)]) (by kernel_rfl) (registrarlaw21_long_ok  hS25 hx_r30) ?_
      rintro _ w31 ⟨I32, rfl, hl33, hS34⟩
      refine ⟨_, rfl, trivial, ?_⟩
      refine WO.nil ?_
      refine En.next ?_
      refine W.cond (b := r35) rfl rfl (fun hc => ?_) (fun hc => ?_)
      · replace hr1 := cond_t hc hr1
        refine W.seq ?_
        refine W.region (l := [0, 1]) (by kernel_rfl) ?_
        obtain ⟨r41, hx_r36, hr1⟩ := bind_some hr1
        refine WO.call rfl (by kernel_rfl) rfl (f := 10) (args := #[]) (by kernel_rfl) (registrarlaw21_works_ok  hS34 hx_r36) ?_
        rintro _ w37 ⟨I38, rfl, hl39, hS40⟩
        refine ⟨_, rfl, trivial, ?_⟩
        refine WO.vals [(1, 2, (.bool r41))] (by kernel_rfl) (fun _ => by kernel_rfl) ?_
        refine WO.nil ?_
        refine En.next ?_
        refine W.ret ?_
        refine En.nx_ret ?_
        refine En.in_ret ?_
        refine En.nx_ret ?_
        refine En.rd_ret ?_
        have ht := hext11 _ (Option.some.inj hr1).symm
        subst t11
        refine En.in_ret ?_
        refine En.nx_ret ?_
        have hS50 := hS40.drop
        have hS51 := hS50.drop
        have hS52 := hS51.drop
        have hS53 := hS52.drop
        have he := Option.some.inj hr
        subst r
        exact En.ret1 rfl (.bool r41) rfl ⟨I38, rfl, (((hl4.trans hl15).trans hl33).trans hl39), hS53⟩
      · replace hr1 := cond_f hc hr1
        refine W.skip ?_
        refine En.next ?_
        refine W.seq ?_
        refine W.region (l := [0, 1, 2, 3, 4, 5, 6, 7, 8, 9, 10, 11, 12, 13, 14, 15, 16, 17, 18]) (by kernel_rfl) ?_
        refine WO.vals [(0, 25, (.pointer (some ⟨b_r6, 0, none⟩))), (1, 26, (.pointer (some ⟨b7, 0, none⟩))), (2, 27, (.slice a_p0 p0.length c_p0)), (3, 28, (.int .i64 s16))] (by kernel_rfl) (fun _ => by kernel_rfl) ?_
        obtain ⟨x54, hx_x54, hr1⟩ := bind_some hr1
        obtain ⟨h0_x54, h1_x54, hx_x54⟩ := idx_some hx_x54
        obtain ⟨ha_x54, cs_x54, hn_x54, hr_x54, hc_x54⟩ := ((RSl.mono h_p0 ((hl4.trans hl15).trans hl33))).el _ _ hx_x54
        obtain rfl := hr_x54
        refine WO.indexAddr (e := 27) (sz := 4) rfl (by kernel_rfl) (by kernel_rfl) (by kernel_rfl) rfl ha_x54 rfl h0_x54 h1_x54 ?_
        refine WO.loadN rfl (by kernel_rfl) (by kernel_rfl) rfl ((cs_registrarlaw21_Act x54)) (by kernel_rfl) (fun w' hw' => hc_x54.cells (k := 0) (by kernel_rfl) rfl ((rd_f hS34.im) w' hw')) ?_
        have hS55 := hS34.front3
        have hS56 := hS55.front2
        have hS57 := hS56.front3
        have hS58 := hS57.front3
        obtain ⟨⟨r64, r65, r66⟩, hx_r59, hr1⟩ := bind_some hr1
        refine WO.call rfl (by kernel_rfl) rfl (f := 22) (args := #[(.pointer (some ⟨b_r6, 0, none⟩)), (.pointer (some ⟨b7, 0, none⟩)), (.agg (cs_registrarlaw21_Act x54).toArray)]) (by kernel_rfl) (registrarlaw21_done_ok (h_s18.mono hl33) (h_s17.mono hl33) hS58 hx_r59) ?_
        rintro _ w60 ⟨I61, w_r65, w_r66, rfl, hl62, hS63, h_r65, h_r66⟩
        refine ⟨_, rfl, trivial, ?_⟩
        refine WO.vals [(7, 32, (.bool (!r64))), (8, 33, (.bool (!r64)))] (by kernel_rfl) (fun _ => by kernel_rfl) ?_
        obtain ⟨j67, hr2, hr1⟩ := bind_some hr1
        refine WO.join (l1 := [9, 10, 11, 12, 13, 14, 15, 16, 17, 18]) (l2 := []) (J := (fun fr w => ∃ (I69 : Mem), fr = [(0, (.slice a_p0 p0.length c_p0)), (3, (.pointer (some ⟨b_r6, 0, none⟩))), (4, (.pointer (some ⟨b7, 0, none⟩))), (5, (.int .i64 s16)), (43, (.bool j67))] ∧ I61.Le I69 ∧ St E w I69 ((Gv.one b_r6 (.cells (cs_mdl_Locks r65 w_r65).toArray 56 (0, 0))) :: (Gv.one b7 (.cells (cs_registrarref21_Locks r66 w_r66).toArray 51 (0, 0))) :: (w_r65.at_.C) :: (w_r66.L.C) :: Os))) ?restj67 ?waysj67
        case waysj67 =>
          refine WO.caseb (!r64) (fun hc => ?_) (fun hc => ?_)
          · replace hr2 := cond_t hc hr2
            refine WO.reslot 33 rfl (show Value.bool (!r64) = Value.bool true by rw [hc]) ?_
            refine WO.pass rfl (by kernel_rfl) rfl ?_
            refine WO.pass rfl (by kernel_rfl) rfl ?_
            refine WO.pass rfl (by kernel_rfl) rfl ?_
            refine WO.pass rfl (by kernel_rfl) rfl ?_
            refine WO.pass rfl (by kernel_rfl) rfl ?_
            refine WO.pass rfl (by kernel_rfl) rfl ?_
            refine WO.pass rfl (by kernel_rfl) rfl ?_
            refine WO.pass rfl (by kernel_rfl) rfl ?_
            refine WO.pass rfl (by kernel_rfl) rfl ?_
            refine WO.vals [(18, 43, (.bool true))] (by kernel_rfl) (fun _ => by kernel_rfl) ?_
            have hS71 := hS63.front3
            have hS72 := hS71.front2
            have hS73 := hS72.front3
            have hS74 := hS73.front3
            have he := Option.some.inj hr2
            subst j67
            refine WO.weaken (fr' := [(0, (.slice a_p0 p0.length c_p0)), (3, (.pointer (some ⟨b_r6, 0, none⟩))), (4, (.pointer (some ⟨b7, 0, none⟩))), (5, (.int .i64 s16)), (43, (.bool true))]) (WO.meet ⟨I61, rfl, Mem.Le.refl _, hS74⟩) (Sub.cons rfl (Sub.cons rfl (Sub.cons rfl (Sub.cons rfl (Sub.cons rfl Sub.nil)))))
          · replace hr2 := cond_f hc hr2
            refine WO.reslot 33 rfl (show Value.bool (!r64) = Value.bool false by rw [hc]) ?_
            refine WO.vals [(9, 34, (.int .i64 s16)), (10, 35, (.int .i64 (Int.tmod s16 4))), (11, 36, (.bool ((Int.tmod s16 4) == 0))), (12, 37, (.bool ((Int.tmod s16 4) == 0)))] (by kernel_rfl) (fun _ => by kernel_rfl) ?_
            obtain ⟨j75, hr3, hr2⟩ := bind_some hr2
            refine WO.join (l1 := [13, 14, 15, 16, 17]) (l2 := [18]) (J := (fun fr w => ∃ (I77 : Mem), fr = [(0, (.slice a_p0 p0.length c_p0)), (3, (.pointer (some ⟨b_r6, 0, none⟩))), (4, (.pointer (some ⟨b7, 0, none⟩))), (5, (.int .i64 s16)), (33, (.bool false)), (42, (.bool j75))] ∧ I61.Le I77 ∧ St E w I77 ((Gv.one b_r6 (.cells (cs_mdl_Locks r65 w_r65).toArray 56 (0, 0))) :: (Gv.one b7 (.cells (cs_registrarref21_Locks r66 w_r66).toArray 51 (0, 0))) :: (w_r65.at_.C) :: (w_r66.L.C) :: Os))) ?restj75 ?waysj75
            case waysj75 =>
              refine WO.caseb ((Int.tmod s16 4) == 0) (fun hc => ?_) (fun hc => ?_)
              · replace hr3 := cond_t hc hr3
                refine WO.reslot 37 rfl (show Value.bool ((Int.tmod s16 4) == 0) = Value.bool true by rw [hc]) ?_
                refine WO.vals [(13, 38, (.pointer (some ⟨b_r6, 0, none⟩))), (14, 39, (.pointer (some ⟨b7, 0, none⟩)))] (by kernel_rfl) (fun _ => by kernel_rfl) ?_
                have hS79 := hS63.front3
                have hS80 := hS79.front3
                have hS81 := hS80.front3
                have hS82 := hS81.front3
                obtain ⟨r88, hx_r83, hr3⟩ := bind_some hr3
                refine WO.call rfl (by kernel_rfl) rfl (f := 23) (args := #[(.pointer (some ⟨b_r6, 0, none⟩)), (.pointer (some ⟨b7, 0, none⟩))]) (by kernel_rfl) (registrarlaw21_like_ok h_r65 h_r66 hS82 hx_r83) ?_
                rintro _ w84 ⟨I85, rfl, hl86, hS87⟩
                refine ⟨_, rfl, trivial, ?_⟩
                refine WO.vals [(16, 41, (.bool (!r88))), (17, 42, (.bool (!r88)))] (by kernel_rfl) (fun _ => by kernel_rfl) ?_
                have hS89 := hS87.front3
                have hS90 := hS89.front2
                have hS91 := hS90.front3
                have hS92 := hS91.front3
                have he := Option.some.inj hr3
                subst j75
                refine WO.weaken (fr' := [(0, (.slice a_p0 p0.length c_p0)), (3, (.pointer (some ⟨b_r6, 0, none⟩))), (4, (.pointer (some ⟨b7, 0, none⟩))), (5, (.int .i64 s16)), (33, (.bool false)), (42, (.bool (!r88)))]) (WO.meet ⟨I85, rfl, hl86, hS92⟩) (Sub.cons rfl (Sub.cons rfl (Sub.cons rfl (Sub.cons rfl (Sub.cons rfl (Sub.cons rfl Sub.nil))))))
              · replace hr3 := cond_f hc hr3
                refine WO.reslot 37 rfl (show Value.bool ((Int.tmod s16 4) == 0) = Value.bool false by rw [hc]) ?_
                refine WO.pass rfl (by kernel_rfl) rfl ?_
                refine WO.pass rfl (by kernel_rfl) rfl ?_
                refine WO.pass rfl (by kernel_rfl) rfl ?_
                refine WO.pass rfl (by kernel_rfl) rfl ?_
                refine WO.vals [(17, 42, (.bool false))] (by kernel_rfl) (fun _ => by kernel_rfl) ?_
                have hS93 := hS63.front3
                have hS94 := hS93.front2
                have hS95 := hS94.front3
                have hS96 := hS95.front3
                have he := Option.some.inj hr3
                subst j75
                refine WO.weaken (fr' := [(0, (.slice a_p0 p0.length c_p0)), (3, (.pointer (some ⟨b_r6, 0, none⟩))), (4, (.pointer (some ⟨b7, 0, none⟩))), (5, (.int .i64 s16)), (33, (.bool false)), (42, (.bool false))]) (WO.meet ⟨I61, rfl, Mem.Le.refl _, hS96⟩) (Sub.cons rfl (Sub.cons rfl (Sub.cons rfl (Sub.cons rfl (Sub.cons rfl (Sub.cons rfl Sub.nil))))))
            case restj75 =>
              rintro _ w97 ⟨I77, rfl, hl78, hS98⟩
              refine WO.vals [(18, 43, (.bool j75))] (by kernel_rfl) (fun _ => by kernel_rfl) ?_
              have he := Option.some.inj hr2
              subst j67
              refine WO.weaken (fr' := [(0, (.slice a_p0 p0.length c_p0)), (3, (.pointer (some ⟨b_r6, 0, none⟩))), (4, (.pointer (some ⟨b7, 0, none⟩))), (5, (.int .i64 s16)), (43, (.bool j75))]) (WO.meet ⟨I77, rfl, hl78, hS98⟩) (Sub.cons rfl (Sub.cons rfl (Sub.cons rfl (Sub.cons rfl (Sub.cons rfl Sub.nil)))))
        case restj67 =>
          rintro _ w99 ⟨I69, rfl, hl70, hS100⟩
          refine WO.nil ?_
          refine En.next ?_
          refine W.cond (b := j67) rfl rfl (fun hc => ?_) (fun hc => ?_)
          · replace hr1 := cond_t hc hr1
            refine W.seq ?_
            refine W.region (l := [0]) (by kernel_rfl) ?_
            refine WO.vals [(0, 2, (.bool false))] (by kernel_rfl) (fun _ => by kernel_rfl) ?_
            refine WO.nil ?_
            refine En.next ?_
            refine W.ret ?_
            refine En.in_ret ?_
            refine En.nx_ret ?_
            refine En.rd_ret ?_
            have ht := hext11 _ (Option.some.inj hr1).symm
            subst t11
            refine En.in_ret ?_
            refine En.nx_ret ?_
            have hS101 := hS100.drop
            have hS102 := hS101.drop
            have hS103 := hS102.drop
            have hS104 := hS103.drop
            have he := Option.some.inj hr
            subst r
            exact En.ret1 rfl (.bool false) rfl ⟨I69, rfl, ((((hl4.trans hl15).trans hl33).trans hl62).trans hl70), hS104⟩
          · replace hr1 := cond_f hc hr1
            refine W.skip ?_
            refine En.in_normal ?_
            refine En.next ?_
            refine W.region (l := [0, 1, 2]) (by kernel_rfl) ?_
            refine WO.vals [(0, 17, (.int .i64 s16)), (1, 18, (.int .i64 (w64 (s16 + 1)))), (2, 5, (.int .i64 (w64 (s16 + 1))))] (by kernel_rfl) (fun _ => by kernel_rfl) ?_
            refine WO.nil ?_
            refine En.weaken (fr' := [(0, (.slice a_p0 p0.length c_p0)), (3, (.pointer (some ⟨b_r6, 0, none⟩))), (4, (.pointer (some ⟨b7, 0, none⟩))), (5, (.int .i64 (w64 (s16 + 1))))]) (En.round ⟨((w64 (s16 + 1)), r66, r65), (Option.some.inj hr1).symm, I69, w_r66, w_r65, rfl, (((hl15.trans hl33).trans hl62).trans hl70), hS100, (h_r66.mono hl70), (h_r65.mono hl70)⟩) (Sub.cons rfl (Sub.cons rfl (Sub.cons rfl (Sub.cons rfl Sub.nil))))
    · replace hr1 := cond_f hc hr1
      refine W.exit ?_
      refine En.nx_exit ?_
      refine En.rd_exit ?_
      have ht := hext11 _ (Option.some.inj hr1).symm
      subst t11
      refine En.in_hit ?_
      refine En.next ?_
      refine W.seq ?_
      refine W.region (l := [0, 1, 2, 3, 4, 5, 6]) (by kernel_rfl) ?_
      refine WO.vals [(0, 44, (.pointer (some ⟨b_r6, 0, none⟩))), (1, 45, (.pointer (some ⟨b7, 0, none⟩)))] (by kernel_rfl) (fun _ => by kernel_rfl) ?_
      have hS137 := hS25.front3
      have hS138 := hS137.front2
      have hS139 := hS138.front3
      have hS140 := hS139.front3
      obtain ⟨r146, hx_r141, hr⟩ := bind_some hr
      refine WO.call rfl (by kernel_rfl) rfl (f := 23) (args := #[(.pointer (some ⟨b_r6, 0, none⟩)), (.pointer (some ⟨b7, 0, none⟩))]) (by kernel_rfl) (registrarlaw21_like_ok h_s18 h_s17 hS140 hx_r141) ?_
      rintro _ w142 ⟨I143, rfl, hl144, hS145⟩
      refine ⟨_, rfl, trivial, ?_⟩
      refine WO.vals [(3, 47, (.bool r146))] (by kernel_rfl) (fun _ => by kernel_rfl) ?_
      obtain ⟨j147, hr1, hr⟩ := bind_some hr
      refine WO.join (l1 := [4, 5]) (l2 := [6]) (J := (fun fr w => ∃ (I149 : Mem), fr = [(49, (.bool j147))] ∧ I143.Le I149 ∧ St E w I149 Os)) ?restj147 ?waysj147
      case waysj147 =>
        refine WO.caseb r146 (fun hc => ?_) (fun hc => ?_)
        · replace hr1 := cond_t hc hr1
          refine WO.reslot 47 rfl (show Value.bool r146 = Value.bool true by rw [hc]) ?_
          obtain ⟨r156, hx_r151, hr1⟩ := bind_some hr1
          refine WO.call rfl (by kernel_rfl) rfl (f := 10) (args := #[]) (by kernel_rfl) (registrarlaw21_works_ok  hS145 hx_r151) ?_
          rintro _ w152 ⟨I153, rfl, hl154, hS155⟩
          refine ⟨_, rfl, trivial, ?_⟩
          refine WO.vals [(5, 49, (.bool r156))] (by kernel_rfl) (fun _ => by kernel_rfl) ?_
          have hS157 := hS155.drop
          have hS158 := hS157.drop
          have hS159 := hS158.drop
          have hS160 := hS159.drop
          have he := Option.some.inj hr1
          subst j147
          refine WO.weaken (fr' := [(49, (.bool r156))]) (WO.meet ⟨I153, rfl, hl154, hS160⟩) (Sub.cons rfl Sub.nil)
        · replace hr1 := cond_f hc hr1
          refine WO.reslot 47 rfl (show Value.bool r146 = Value.bool false by rw [hc]) ?_
          refine WO.pass rfl (by kernel_rfl) rfl ?_
          refine WO.vals [(5, 49, (.bool false))] (by kernel_rfl) (fun _ => by kernel_rfl) ?_
          have hS161 := hS145.drop
          have hS162 := hS161.drop
          have hS163 := hS162.drop
          have hS164 := hS163.drop
          have he := Option.some.inj hr1
          subst j147
          refine WO.weaken (fr' := [(49, (.bool false))]) (WO.meet ⟨I143, rfl, Mem.Le.refl _, hS164⟩) (Sub.cons rfl Sub.nil)
      case restj147 =>
        rintro _ w165 ⟨I149, rfl, hl150, hS166⟩
        refine WO.vals [(6, 2, (.bool j147))] (by kernel_rfl) (fun _ => by kernel_rfl) ?_
        refine WO.nil ?_
        refine En.next ?_
        refine W.ret ?_
        have he := Option.some.inj hr
        subst r
        exact En.ret1 rfl (.bool j147) rfl ⟨I149, rfl, (((hl4.trans hl15).trans hl144).trans hl150), hS166⟩
end Go.Proofs.Ytdmefifamlpbiaa
