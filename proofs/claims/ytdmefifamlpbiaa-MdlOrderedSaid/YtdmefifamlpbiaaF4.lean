/- What functions of the program come to, each by a plain one. Conditions: none. -/
import Derived.Test.YtdmefifamlpbiaaF3
set_option maxRecDepth 100000
namespace Go.Proofs.Ytdmefifamlpbiaa
open Go.Gv
def mdl_Locks_Holds (p0 : mdl_Locks) (p1 : Int) : Option (List api_Need) := (mdl_Locks_dead p0).bind (fun (r8 : Bool) => (mdl_Locks_Paths p0).bind (fun (r16 : List ByteArray) => (forE (fun (i21 : Nat) => fun (s20 : List api_Need) => (idx r16 (i21 : Int)).bind (fun (x32 : ByteArray) => (some ((mget sEq p0.at_ x32).getD z_mdl_place)).bind (fun (x33 : mdl_place) => (mdl_find x33.held p1).bind (fun (r39 : Int) => ((bif (decide (r39 ≥ 0)) then (some ((mget sEq p0.at_ x32).getD z_mdl_place)).bind (fun (x44 : mdl_place) => (idx x44.held r39).bind (fun (x45 : mdl_one) => (app 24 s20 ([(⟨x32, x45.mode⟩ : api_Need)] : List api_Need)).bind (fun (x54 : List api_Need) => some x54))) else some s20)).bind (fun (j40 : List api_Need) => some j40))))) r16.length 0 ([] : List api_Need)).bind (fun (s20 : (List api_Need)) => some s20)))
set_option maxHeartbeats 1000000 in
theorem mdl_Locks_Holds_ok {E w : World} {I : Mem} {Os : List Mem} {p0 : mdl_Locks} {p1 : Int} {b_p0 : Nat} {w_p0 : W_mdl_Locks} (h_p0 : ok_mdl_Locks I p0 w_p0) (hS : St E w I ((Gv.one b_p0 (.cells (cs_mdl_Locks p0 w_p0).toArray 56 (0, 0))) :: (w_p0.at_.C) :: Os)) {r : (List api_Need)} (hr : mdl_Locks_Holds p0 p1 = some r) :
    Calls P 18 #[(.pointer (some ⟨b_p0, 0, none⟩)), (.int .i64 p1)] w (fun e w' => ∃ (I' : Mem) (ra0 : Option Addr) (rc0 : Nat), e = .returned (.slice ra0 r.length rc0) ∧ I.Le I' ∧ St E w' I' ((Gv.one b_p0 (.cells (cs_mdl_Locks p0 w_p0).toArray 56 (0, 0))) :: w_p0.at_.C :: Os) ∧ RSl 2 R_api_Need I' ra0 rc0 r) := by
  refine calls_W (args := [(.pointer (some ⟨b_p0, 0, none⟩)), (.int .i64 p1)]) (fn := Try.f18) rfl rfl rfl ?_
  unfold mdl_Locks_Holds at hr
  refine W.seq ?_
  refine W.region (l := [0]) (by kernel_rfl) ?_
  refine WO.vals [(0, 4, (.slice none 0 0))] (by kernel_rfl) (fun _ => by kernel_rfl) ?_
  refine WO.nil ?_
  refine En.next ?_
  refine W.seq ?_
  refine W.seq ?_
  refine W.region (l := [0, 1]) (by kernel_rfl) ?_
  refine WO.vals [(0, 9, (.pointer (some ⟨b_p0, 0, none⟩)))] (by kernel_rfl) (fun _ => by kernel_rfl) ?_
  have hS1 := hS.front1
  have hS2 := hS1.front1
  obtain ⟨r8, hx_r3, hr⟩ := bind_some hr
  obtain rfl : false = r8 := Option.some.inj hx_r3
  refine WO.call rfl (by kernel_rfl) rfl (f := 28) (args := #[(.pointer (some ⟨b_p0, 0, none⟩))]) (by kernel_rfl) (mdl_Locks_dead_ok h_p0 hS2 hx_r3) ?_
  rintro _ w4 ⟨I5, rfl, hl6, hS7⟩
  refine ⟨_, rfl, trivial, ?_⟩
  refine WO.nil ?_
  refine En.next ?_
  refine W.cond (b := false) rfl rfl (fun hc => ?_) (fun hc => ?_)
  · cases hc
  clear hc
  refine W.skip ?_
  refine En.next ?_
  refine W.seq ?_
  refine W.region (l := [0]) (by kernel_rfl) ?_
  refine WO.vals [(0, 5, (.slice none 0 0))] (by kernel_rfl) (fun _ => by kernel_rfl) ?_
  refine WO.nil ?_
  refine En.next ?_
  refine W.seq ?_
  refine W.seq ?_
  refine W.region (l := [0, 1, 2, 3]) (by kernel_rfl) ?_
  refine WO.vals [(0, 11, (.pointer (some ⟨b_p0, 0, none⟩)))] (by kernel_rfl) (fun _ => by kernel_rfl) ?_
  have hS9 := hS7.front1
  have hS10 := hS9.front1
  obtain ⟨r16, hx_r11, hr⟩ := bind_some hr
  refine WO.call rfl (by kernel_rfl) rfl (f := 11) (args := #[(.pointer (some ⟨b_p0, 0, none⟩))]) (by kernel_rfl) (mdl_Locks_Paths_ok (h_p0.mono hl6) hS10 hx_r11) ?_
  rintro _ w12 ⟨I13, a_r16, c_r16, rfl, hl14, hS15, h_r16⟩
  refine ⟨_, rfl, trivial, ?_⟩
  refine WO.vals [(2, 13, (.int .i64 (r16.length : Int))), (3, 14, (.int .i64 0))] (by kernel_rfl) (fun _ => by kernel_rfl) ?_
  refine WO.nil ?_
  refine En.next ?_
  refine W.block ?_
  obtain ⟨s20, hloop22, hr⟩ := bind_some hr
  have hS24 := hS15.no
  have hS25 := hS24.front2
  have hS26 := hS25.front2
  have hlt30 := (h_r16).len_lt
  refine W.weaken (fr' := [(0, (.pointer (some ⟨b_p0, 0, none⟩))), (1, (.int .i64 p1)), (5, (.slice none ([] : List api_Need).length 0)), (12, (.slice a_r16 r16.length c_r16)), (13, (.int .i64 (r16.length : Int))), (14, (.int .i64 ((0 : Nat) : Int)))]) (W.forE (m := r16.length) hloop22 (fun (i21 : Nat) => fun (s20 : List api_Need) fr w => ∃ (I18 : Mem), ∃ (a_s20 : Option Addr), ∃ (c_s20 : Nat), ∃ (C_s20 : Mem), fr = [(0, (.pointer (some ⟨b_p0, 0, none⟩))), (1, (.int .i64 p1)), (5, (.slice a_s20 s20.length c_s20)), (12, (.slice a_r16 r16.length c_r16)), (13, (.int .i64 (r16.length : Int))), (14, (.int .i64 (i21 : Int)))] ∧ I13.Le I18 ∧ St E w I18 ((Gv.one b_p0 (.cells (cs_mdl_Locks p0 w_p0).toArray 56 (0, 0))) :: (w_p0.at_.C) :: (C_s20) :: Os) ∧ OwnSl 43 2 R_api_Need I18 C_s20 a_s20 c_s20 s20) ⟨I13, none, 0, Mem.no, rfl, Mem.Le.refl _, hS26, OwnSl.nil⟩ ?roundt17 ?lastt17) (Sub.cons rfl (Sub.cons rfl (Sub.cons rfl (Sub.cons rfl (Sub.cons rfl (Sub.cons rfl Sub.nil))))))
  case roundt17 =>
    rintro i21 s20 _ w27 hi31 ⟨I18, a_s20, c_s20, C_s20, rfl, hl19, hS28, h_s20⟩ x29 hr1
    refine W.seq ?_
    refine W.region (l := [0]) (by kernel_rfl) ?_
    refine WO.vals [(0, 15, (.bool (decide ((i21 : Int) < (r16.length : Int)))))] (by kernel_rfl) (fun _ => by kernel_rfl) ?_
    refine WO.nil ?_
    refine En.next ?_
    refine W.seq ?_
    refine W.cond (b := (decide ((i21 : Int) < (r16.length : Int)))) rfl rfl (fun hc => ?_) (fun hc => ?_)
    rotate_left
    · exact absurd hc (by first | (simp; done) | (simp; omega))
    clear hc
    refine W.skip ?_
    refine En.next ?_
    refine W.seq ?_
    refine W.block ?_
    refine W.seq ?_
    refine W.region (l := [0, 1, 2]) (by kernel_rfl) ?_
    obtain ⟨x32, hx_x32, hr1⟩ := bind_some hr1
    obtain ⟨h0_x32, h1_x32, hx_x32⟩ := idx_some hx_x32
    obtain ⟨ha_x32, cs_x32, hn_x32, hr_x32, hc_x32⟩ := ((RSl.mono h_r16 hl19)).el _ _ hx_x32
    obtain rfl := hr_x32
    refine WO.indexAddr (e := 9) (sz := 1) rfl (by kernel_rfl) (by kernel_rfl) (by kernel_rfl) rfl ha_x32 rfl h0_x32 h1_x32 ?_
    refine WO.load rfl (by kernel_rfl) (by kernel_rfl) rfl (v := (.string x32)) (fun w' hw' => hc_x32.cell0 (by kernel_rfl) ((rd_f hS28.im) w' hw')) ?_
    refine WO.vals [(2, 7, (.string x32))] (by kernel_rfl) (fun _ => by kernel_rfl) ?_
    refine WO.nil ?_
    refine En.next ?_
    refine W.seq ?_
    refine W.region (l := [0, 1, 2, 3, 4, 5, 6, 7, 8, 9]) (by kernel_rfl) ?_
    refine WO.vals [(0, 18, (.pointer (some ⟨b_p0, 0, none⟩))), (1, 19, (.pointer (some ⟨b_p0, 0, none⟩))), (2, 20, (.pointer (some ⟨b_p0, 0, none⟩)))] (by kernel_rfl) (fun _ => by kernel_rfl) ?_
    refine WO.load rfl (by kernel_rfl) (by kernel_rfl) rfl (v := (.map (some w_p0.at_.m))) (fun w' hw' => cell_one ((rd_f (hS28.rd (List.Mem.head _))) w' hw') (by kernel_rfl)) ?_
    refine WO.vals [(4, 22, (.string x32))] (by kernel_rfl) (fun _ => by kernel_rfl) ?_
    obtain ⟨x33, hx_x33, hr1⟩ := bind_some hr1
    obtain ⟨v_x33, hv_x33, hq_x33⟩ := OwnMap.lookup (OwnMap.mono h_p0.at_ ((hl6.trans hl14).trans hl19)) (t := 54) (kt := 9) (et := 68) (by kernel_rfl) (keyLaw_str (kt := 9) (by kernel_rfl)) x32 (zv := (.agg (cs_mdl_place z_mdl_place zw_mdl_place).toArray)) (z0 := z_mdl_place) (by kernel_rfl) ⟨(cs_mdl_place z_mdl_place zw_mdl_place), rfl, ⟨zw_mdl_place, rfl, zok_mdl_place⟩⟩
    rw [Option.some.inj hx_x33] at hv_x33
    obtain ⟨_, rfl, hv_x33⟩ := hv_x33
    obtain ⟨w_x33, rfl, h_x33⟩ := hv_x33
    refine WO.lookup rfl (by kernel_rfl) rfl rfl hq_x33 ((rd_f (hS28.rd (List.Mem.tail _ (List.Mem.head _))))) (.agg (cs_mdl_place x33 w_x33).toArray) rfl ?_
    refine WO.vals [(6, 24, (.slice w_x33.held.a x33.held.length w_x33.held.c)), (7, 25, (.int .i64 p1))] (by kernel_rfl) (fun _ => by kernel_rfl) ?_
    obtain ⟨r39, hx_r34, hr1⟩ := bind_some hr1
    refine WO.call rfl (by kernel_rfl) rfl (f := 32) (args := #[(.slice w_x33.held.a x33.held.length w_x33.held.c), (.int .i64 p1)]) (by kernel_rfl) (mdl_find_ok h_x33.held hS28 hx_r34) ?_
    rintro _ w35 ⟨I36, rfl, hl37, hS38⟩
    refine ⟨_, rfl, trivial, ?_⟩
    refine WO.vals [(9, 8, (.int .i64 r39))] (by kernel_rfl) (fun _ => by kernel_rfl) ?_
    refine WO.nil ?_
    refine En.next ?_
    refine W.seq ?_
    refine W.region (l := [0, 1]) (by kernel_rfl) ?_
    refine WO.vals [(0, 27, (.int .i64 r39)), (1, 28, (.bool (decide (r39 ≥ 0))))] (by kernel_rfl) (fun _ => by kernel_rfl) ?_
    refine WO.nil ?_
    refine En.next ?_
    obtain ⟨j40, hr2, hr1⟩ := bind_some hr1
    refine W.join (J := (fun fr w => ∃ (I42 : Mem), ∃ (a_j40 : Option Addr), ∃ (c_j40 : Nat), ∃ (C_j40 : Mem), fr = [(0, (.pointer (some ⟨b_p0, 0, none⟩))), (1, (.int .i64 p1)), (5, (.slice a_j40 j40.length c_j40)), (12, (.slice a_r16 r16.length c_r16)), (13, (.int .i64 (r16.length : Int))), (14, (.int .i64 (i21 : Int)))] ∧ I36.Le I42 ∧ St E w I42 ((Gv.one b_p0 (.cells (cs_mdl_Locks p0 w_p0).toArray 56 (0, 0))) :: (w_p0.at_.C) :: (C_j40) :: Os) ∧ OwnSl 43 2 R_api_Need I42 C_j40 a_j40 c_j40 j40)) ?restj40 ?waysj40
    case waysj40 =>
      refine W.cond (b := (decide (r39 ≥ 0))) rfl rfl (fun hc => ?_) (fun hc => ?_)
      · replace hr2 := cond_t hc hr2
        refine W.region (l := [0, 1, 2, 3, 4, 5, 6, 7, 8, 9, 10, 11, 12, 13, 14, 15, 16]) (by kernel_rfl) ?_
        refine WO.vals [(0, 29, (.slice a_s20 s20.length c_s20)), (1, 30, (.string x32)), (2, 31, (.pointer (some ⟨b_p0, 0, none⟩))), (3, 32, (.pointer (some ⟨b_p0, 0, none⟩))), (4, 33, (.pointer (some ⟨b_p0, 0, none⟩)))] (by kernel_rfl) (fun _ => by kernel_rfl) ?_
        refine WO.load rfl (by kernel_rfl) (by kernel_rfl) rfl (v := (.map (some w_p0.at_.m))) (fun w' hw' => cell_one ((rd_f (hS38.rd (List.Mem.head _))) w' hw') (by kernel_rfl)) ?_
        refine WO.vals [(6, 35, (.string x32))] (by kernel_rfl) (fun _ => by kernel_rfl) ?_
        obtain ⟨x44, hx_x44, hr2⟩ := bind_some hr2
        obtain ⟨v_x44, hv_x44, hq_x44⟩ := OwnMap.lookup (OwnMap.mono h_p0.at_ (((hl6.trans hl14).trans hl19).trans hl37)) (t := 54) (kt := 9) (et := 68) (by kernel_rfl) (keyLaw_str (kt := 9) (by kernel_rfl)) x32 (zv := (.agg (cs_mdl_place z_mdl_place zw_mdl_place).toArray)) (z0 := z_mdl_place) (by kernel_rfl) ⟨(cs_mdl_place z_mdl_place zw_mdl_place), rfl, ⟨zw_mdl_place, rfl, zok_mdl_place⟩⟩
        rw [Option.some.inj hx_x44] at hv_x44
        obtain ⟨_, rfl, hv_x44⟩ := hv_x44
        obtain ⟨w_x44, rfl, h_x44⟩ := hv_x44
        refine WO.lookup rfl (by kernel_rfl) rfl rfl hq_x44 ((rd_f (hS38.rd (List.Mem.tail _ (List.Mem.head _))))) (.agg (cs_mdl_place x44 w_x44).toArray) rfl ?_
        refine WO.vals [(8, 37, (.slice w_x44.held.a x44.held.length w_x44.held.c)), (9, 38, (.int .i64 r39))] (by kernel_rfl) (fun _ => by kernel_rfl) ?_
        obtain ⟨x45, hx_x45, hr2⟩ := bind_some hr2
        obtain ⟨h0_x45, h1_x45, hx_x45⟩ := idx_some hx_x45
        obtain ⟨ha_x45, cs_x45, hn_x45, hr_x45, hc_x45⟩ := (h_x44.held).el _ _ hx_x45
        obtain rfl := hr_x45
        refine WO.indexAddr (e := 70) (sz := 2) rfl (by kernel_rfl) (by kernel_rfl) (by kernel_rfl) rfl ha_x45 rfl h0_x45 h1_x45 ?_
        refine WO.vals [(11, 40, (.pointer (some ⟨bl w_x44.held.a, of w_x44.held.a + (r39).toNat * 2 + 1, none⟩)))] (by kernel_rfl) (fun _ => by kernel_rfl) ?_
        refine WO.load rfl (by kernel_rfl) (by kernel_rfl) rfl (v := (.int .i64 x45.mode)) (fun w' hw' => hc_x45.cellk 1 (by kernel_rfl) ((rd_f hS38.im) w' hw')) ?_
        refine WO.vals [(13, 42, (.agg (cs_api_Need (⟨x32, x45.mode⟩ : api_Need)).toArray))] (by kernel_rfl) (fun _ => by kernel_rfl) ?_
        refine WO.newSlice (rel := R_api_Need) (xs := ([(⟨x32, x45.mode⟩ : api_Need)] : List api_Need)) hS38 rfl (by kernel_rfl) rfl 43 2 [(cs_api_Need (⟨x32, x45.mode⟩ : api_Need))] (by kernel_rfl) rfl ((Elr.cons rfl Elr.nil)) (fun _ _ _ => trivial) ?_
        intro a49 C47 w51 hS50 ho48
        have hS53 := hS50.front3
        obtain ⟨x54, hx_x54, hr2⟩ := bind_some hr2
        obtain ⟨h0_x54, he_x54⟩ := app_some hx_x54
        refine WO.append (e' := 43) (b := 24) (zs := (cs_api_Need z_api_Need).toArray) hS53 (OwnSl.mono h_s20 hl37) rfl (by kernel_rfl) rfl (by kernel_rfl) (by kernel_rfl) (by kernel_rfl) rfl rfl rfl rfl ho48.sl (hS53.rd (List.Mem.tail _ (List.Mem.head _))) h0_x54 he_x54 (fun _ _ _ => trivial) ?_
        intro a55 c56 w57 C58 hS59 ho60
        have hS61 := hS59.front1
        have hS62 := hS61.drop
        refine WO.vals [(16, 5, (.slice a55 x54.length c56))] (by kernel_rfl) (fun _ => by kernel_rfl) ?_
        refine WO.nil ?_
        have hS63 := hS62.front2
        have hS64 := hS63.front2
        have he := Option.some.inj hr2
        subst j40
        refine En.weaken (fr' := [(0, (.pointer (some ⟨b_p0, 0, none⟩))), (1, (.int .i64 p1)), (5, (.slice a55 x54.length c56)), (12, (.slice a_r16 r16.length c_r16)), (13, (.int .i64 (r16.length : Int))), (14, (.int .i64 (i21 : Int)))]) (En.round ⟨I36, a55, c56, C58, rfl, Mem.Le.refl _, hS64, ho60⟩) (Sub.cons rfl (Sub.cons rfl (Sub.cons rfl (Sub.cons rfl (Sub.cons rfl (Sub.cons rfl Sub.nil))))))
      · replace hr2 := cond_f hc hr2
        refine W.skip ?_
        have he := Option.some.inj hr2
        subst j40
        refine En.weaken (fr' := [(0, (.pointer (some ⟨b_p0, 0, none⟩))), (1, (.int .i64 p1)), (5, (.slice a_s20 s20.length c_s20)), (12, (.slice a_r16 r16.length c_r16)), (13, (.int .i64 (r16.length : Int))), (14, (.int .i64 (i21 : Int)))]) (En.round ⟨I36, a_s20, c_s20, C_s20, rfl, Mem.Le.refl _, hS38, (OwnSl.mono h_s20 hl37)⟩) (Sub.cons rfl (Sub.cons rfl (Sub.cons rfl (Sub.cons rfl (Sub.cons rfl (Sub.cons rfl Sub.nil))))))
    case restj40 =>
      rintro _ w65 ⟨I42, a_j40, c_j40, C_j40, rfl, hl43, hS66, h_j40⟩
      refine En.in_normal ?_
      refine En.next ?_
      refine W.region (l := [0, 1]) (by kernel_rfl) ?_
      refine WO.incr (j := i21) rfl (by kernel_rfl) rfl (by omega) ?_
      refine WO.vals [(1, 14, (.int .i64 ((i21 + 1 : Nat) : Int)))] (by kernel_rfl) (fun _ => by kernel_rfl) ?_
      refine WO.nil ?_
      have he := Option.some.inj hr1
      subst x29
      refine En.weaken (fr' := [(0, (.pointer (some ⟨b_p0, 0, none⟩))), (1, (.int .i64 p1)), (5, (.slice a_j40 j40.length c_j40)), (12, (.slice a_r16 r16.length c_r16)), (13, (.int .i64 (r16.length : Int))), (14, (.int .i64 ((i21 + 1 : Nat) : Int)))]) (En.round ⟨I42, a_j40, c_j40, C_j40, rfl, ((hl19.trans hl37).trans hl43), hS66, h_j40⟩) (Sub.cons rfl (Sub.cons rfl (Sub.cons rfl (Sub.cons rfl (Sub.cons rfl (Sub.cons rfl Sub.nil))))))
  case lastt17 =>
    rintro _ w67 ⟨I18, a_s20, c_s20, C_s20, rfl, hl19, hS68, h_s20⟩
    refine W.seq ?_
    refine W.region (l := [0]) (by kernel_rfl) ?_
    refine WO.vals [(0, 15, (.bool (decide ((r16.length : Int) < (r16.length : Int)))))] (by kernel_rfl) (fun _ => by kernel_rfl) ?_
    refine WO.nil ?_
    refine En.next ?_
    refine W.seq ?_
    refine W.cond (b := (decide ((r16.length : Int) < (r16.length : Int)))) rfl rfl (fun hc => ?_) (fun hc => ?_)
    · exact absurd hc (by first | (simp; done) | (simp; omega))
    clear hc
    refine W.exit ?_
    refine En.nx_exit ?_
    refine En.rd_exit ?_
    refine En.in_hit ?_
    refine En.next ?_
    refine W.seq ?_
    refine W.region (l := [0, 1]) (by kernel_rfl) ?_
    refine WO.vals [(0, 46, (.slice a_s20 s20.length c_s20))] (by kernel_rfl) (fun _ => by kernel_rfl) ?_
    have hS69 := hS68.front2
    obtain ⟨I70, hl71, hS73, hp72⟩ := OwnSl.pub h_s20 hS69
    refine WO.vals [(1, 4, (.slice a_s20 s20.length c_s20))] (by kernel_rfl) (fun _ => by kernel_rfl) ?_
    refine WO.nil ?_
    refine En.next ?_
    refine W.ret ?_
    have he := Option.some.inj hr
    subst r
    exact En.ret1 rfl (.slice a_s20 s20.length c_s20) rfl ⟨I70, a_s20, c_s20, rfl, (((hl6.trans hl14).trans hl19).trans hl71), hS73, hp72⟩
def registrarlaw21_mode (p0 : mdl_Locks) (p1 : Int) (p2 : ByteArray) : Option Int := (mdl_Locks_Holds p0 p1).bind (fun (r8 : List api_Need) => (forN (fun (i12 : Nat) => fun (_s : Unit) => (idx r8 (i12 : Int)).bind (fun (x19 : api_Need) => (bif (sEq x19.Path p2) then (idx r8 (i12 : Int)).bind (fun (x20 : api_Need) => some (.inr x20.Mode)) else some (.inl ())))) r8.length 0 ()).bind (fun (t : Unit ⊕ (Int)) => match t with | .inl _ => some 0 | .inr s22 => some s22))
set_option maxHeartbeats 1000000 in
theorem registrarlaw21_mode_ok {E w : World} {I : Mem} {Os : List Mem} {p0 : mdl_Locks} {p1 : Int} {p2 : ByteArray} {b_p0 : Nat} {w_p0 : W_mdl_Locks} (h_p0 : ok_mdl_Locks I p0 w_p0) (hS : St E w I ((Gv.one b_p0 (.cells (cs_mdl_Locks p0 w_p0).toArray 56 (0, 0))) :: (w_p0.at_.C) :: Os)) {r : Int} (hr : registrarlaw21_mode p0 p1 p2 = some r) :
    Calls P 31 #[(.pointer (some ⟨b_p0, 0, none⟩)), (.int .i64 p1), (.string p2)] w (fun e w' => ∃ (I' : Mem), e = .returned (.int .i64 r) ∧ I.Le I' ∧ St E w' I' ((Gv.one b_p0 (.cells (cs_mdl_Locks p0 w_p0).toArray 56 (0, 0))) :: w_p0.at_.C :: Os)) := by
  refine calls_W (args := [(.pointer (some ⟨b_p0, 0, none⟩)), (.int .i64 p1), (.string p2)]) (fn := Try.f31) rfl rfl rfl ?_
  unfold registrarlaw21_mode at hr
  refine W.seq ?_
  refine W.region (l := [0]) (by kernel_rfl) ?_
  refine WO.vals [(0, 6, (.int .i64 0))] (by kernel_rfl) (fun _ => by kernel_rfl) ?_
  refine WO.nil ?_
  refine En.next ?_
  refine W.seq ?_
  refine W.region (l := [0, 1, 2, 3]) (by kernel_rfl) ?_
  refine WO.vals [(0, 9, (.pointer (some ⟨b_p0, 0, none⟩))), (1, 10, (.int .i64 p1))] (by kernel_rfl) (fun _ => by kernel_rfl) ?_
  have hS1 := hS.front1
  have hS2 := hS1.front1
  obtain ⟨r8, hx_r3, hr⟩ := bind_some hr
  refine WO.call rfl (by kernel_rfl) rfl (f := 18) (args := #[(.pointer (some ⟨b_p0, 0, none⟩)), (.int .i64 p1)]) (by kernel_rfl) (mdl_Locks_Holds_ok h_p0 hS2 hx_r3) ?_
  rintro _ w4 ⟨I5, a_r8, c_r8, rfl, hl6, hS7, h_r8⟩
  refine ⟨_, rfl, trivial, ?_⟩
  refine WO.vals [(3, 7, (.slice a_r8 r8.length c_r8))] (by kernel_rfl) (fun _ => by kernel_rfl) ?_
  refine WO.nil ?_
  refine En.next ?_
  refine W.seq ?_
  refine W.seq ?_
  refine W.region (l := [0]) (by kernel_rfl) ?_
  refine WO.vals [(0, 8, (.int .i64 0))] (by kernel_rfl) (fun _ => by kernel_rfl) ?_
  refine WO.nil ?_
  refine En.next ?_
  refine W.block ?_
  obtain ⟨t9, hloop13, hr⟩ := bind_some hr
  have hlt17 := (h_r8).len_lt
  refine W.weaken (fr' := [(2, (.string p2)), (7, (.slice a_r8 r8.length c_r8)), (8, (.int .i64 ((0 : Nat) : Int)))]) (W.forN (m := r8.length) hloop13 (fun (i12 : Nat) => fun (_s : Unit) fr w => ∃ (I10 : Mem), fr = [(2, (.string p2)), (7, (.slice a_r8 r8.length c_r8)), (8, (.int .i64 (i12 : Int)))] ∧ I5.Le I10 ∧ St E w I10 ((Gv.one b_p0 (.cells (cs_mdl_Locks p0 w_p0).toArray 56 (0, 0))) :: (w_p0.at_.C) :: Os)) ⟨I5, rfl, Mem.Le.refl _, hS7⟩ ?roundt9 ?lastt9) (Sub.cons rfl (Sub.cons rfl (Sub.cons rfl Sub.nil)))
  case roundt9 =>
    rintro i12 _ _ w14 hi18 ⟨I10, rfl, hl11, hS15⟩ x16 hr1 hext9
    refine W.seq ?_
    refine W.seq ?_
    refine W.region (l := [0, 1, 2, 3]) (by kernel_rfl) ?_
    refine WO.vals [(0, 12, (.int .i64 (i12 : Int))), (1, 13, (.slice a_r8 r8.length c_r8)), (2, 14, (.int .i64 (r8.length : Int))), (3, 15, (.bool (decide ((i12 : Int) < (r8.length : Int)))))] (by kernel_rfl) (fun _ => by kernel_rfl) ?_
    refine WO.nil ?_
    refine En.next ?_
    refine W.cond (b := (decide ((i12 : Int) < (r8.length : Int)))) rfl rfl (fun hc => ?_) (fun hc => ?_)
    rotate_left
    · exact absurd hc (by first | (simp; done) | (simp; omega))
    clear hc
    refine W.skip ?_
    refine En.next ?_
    refine W.seq ?_
    refine W.block ?_
    refine W.seq ?_
    refine W.region (l := [0, 1, 2, 3, 4, 5, 6]) (by kernel_rfl) ?_
    refine WO.vals [(0, 18, (.slice a_r8 r8.length c_r8)), (1, 19, (.int .i64 (i12 : Int)))] (by kernel_rfl) (fun _ => by kernel_rfl) ?_
    obtain ⟨x19, hx_x19, hr1⟩ := bind_some hr1
    obtain ⟨h0_x19, h1_x19, hx_x19⟩ := idx_some hx_x19
    obtain ⟨ha_x19, cs_x19, hn_x19, hr_x19, hc_x19⟩ := ((RSl.mono h_r8 hl11)).el _ _ hx_x19
    obtain rfl := hr_x19
    refine WO.indexAddr (e := 43) (sz := 2) rfl (by kernel_rfl) (by kernel_rfl) (by kernel_rfl) rfl ha_x19 rfl h0_x19 h1_x19 ?_
    refine WO.vals [(3, 21, (.pointer (some ⟨bl a_r8, of a_r8 + ((i12 : Int)).toNat * 2, none⟩)))] (by kernel_rfl) (fun _ => by kernel_rfl) ?_
    refine WO.load rfl (by kernel_rfl) (by kernel_rfl) rfl (v := (.string x19.Path)) (fun w' hw' => hc_x19.cell0 (by kernel_rfl) ((rd_f hS15.im) w' hw')) ?_
    refine WO.vals [(5, 23, (.string p2)), (6, 24, (.bool (sEq x19.Path p2)))] (by kernel_rfl) (fun _ => by kernel_rfl) ?_
    refine WO.nil ?_
    refine En.next ?_
    refine W.cond (b := (sEq x19.Path p2)) rfl rfl (fun hc => ?_) (fun hc => ?_)
    · replace hr1 := cond_t hc hr1
      refine W.seq ?_
      refine W.region (l := [0, 1, 2, 3, 4, 5]) (by kernel_rfl) ?_
      refine WO.vals [(0, 25, (.slice a_r8 r8.length c_r8)), (1, 26, (.int .i64 (i12 : Int)))] (by kernel_rfl) (fun _ => by kernel_rfl) ?_
      obtain ⟨x20, hx_x20, hr1⟩ := bind_some hr1
      obtain ⟨h0_x20, h1_x20, hx_x20⟩ := idx_some hx_x20
      obtain ⟨ha_x20, cs_x20, hn_x20, hr_x20, hc_x20⟩ := ((RSl.mono h_r8 hl11)).el _ _ hx_x20
      obtain rfl := hr_x20
      refine WO.indexAddr (e := 43) (sz := 2) rfl (by kernel_rfl) (by kernel_rfl) (by kernel_rfl) rfl ha_x20 rfl h0_x20 h1_x20 ?_
      refine WO.vals [(3, 28, (.pointer (some ⟨bl a_r8, of a_r8 + ((i12 : Int)).toNat * 2 + 1, none⟩)))] (by kernel_rfl) (fun _ => by kernel_rfl) ?_
      refine WO.load rfl (by kernel_rfl) (by kernel_rfl) rfl (v := (.int .i64 x20.Mode)) (fun w' hw' => hc_x20.cellk 1 (by kernel_rfl) ((rd_f hS15.im) w' hw')) ?_
      refine WO.vals [(5, 6, (.int .i64 x20.Mode))] (by kernel_rfl) (fun _ => by kernel_rfl) ?_
      refine WO.nil ?_
      refine En.next ?_
      refine W.ret ?_
      refine En.in_ret ?_
      refine En.nx_ret ?_
      refine En.rd_ret ?_
      have ht := hext9 _ (Option.some.inj hr1).symm
      subst t9
      refine En.in_ret ?_
      refine En.nx_ret ?_
      have he := Option.some.inj hr
      subst r
      exact En.ret1 rfl (.int .i64 x20.Mode) rfl ⟨I10, rfl, (hl6.trans hl11), hS15⟩
    · replace hr1 := cond_f hc hr1
      refine W.skip ?_
      refine En.in_normal ?_
      refine En.next ?_
      refine W.region (l := [0, 1, 2]) (by kernel_rfl) ?_
      refine WO.vals [(0, 16, (.int .i64 (i12 : Int)))] (by kernel_rfl) (fun _ => by kernel_rfl) ?_
      refine WO.incr (j := i12) rfl (by kernel_rfl) rfl (by omega) ?_
      refine WO.vals [(2, 8, (.int .i64 ((i12 + 1 : Nat) : Int)))] (by kernel_rfl) (fun _ => by kernel_rfl) ?_
      refine WO.nil ?_
      refine En.weaken (fr' := [(2, (.string p2)), (7, (.slice a_r8 r8.length c_r8)), (8, (.int .i64 ((i12 + 1 : Nat) : Int)))]) (En.round ⟨(), (Option.some.inj hr1).symm, I10, rfl, hl11, hS15⟩) (Sub.cons rfl (Sub.cons rfl (Sub.cons rfl Sub.nil)))
  case lastt9 =>
    rintro _ _ w23 ⟨I10, rfl, hl11, hS24⟩ he
    cases he
    refine W.seq ?_
    refine W.seq ?_
    refine W.region (l := [0, 1, 2, 3]) (by kernel_rfl) ?_
    refine WO.vals [(0, 12, (.int .i64 (r8.length : Int))), (1, 13, (.slice a_r8 r8.length c_r8)), (2, 14, (.int .i64 (r8.length : Int))), (3, 15, (.bool (decide ((r8.length : Int) < (r8.length : Int)))))] (by kernel_rfl) (fun _ => by kernel_rfl) ?_
    refine WO.nil ?_
    refine En.next ?_
    refine W.cond (b := (decide ((r8.length : Int) < (r8.length : Int)))) rfl rfl (fun hc => ?_) (fun hc => ?_)
    · exact absurd hc (by first | (simp; done) | (simp; omega))
    clear hc
    refine W.exit ?_
    refine En.nx_exit ?_
    refine En.rd_exit ?_
    refine En.in_hit ?_
    refine En.next ?_
    refine W.seq ?_
    refine W.region (l := [0]) (by kernel_rfl) ?_
    refine WO.vals [(0, 6, (.int .i64 0))] (by kernel_rfl) (fun _ => by kernel_rfl) ?_
    refine WO.nil ?_
    refine En.next ?_
    refine W.ret ?_
    have he := Option.some.inj hr
    subst r
    exact En.ret1 rfl (.int .i64 0) rfl ⟨I10, rfl, (hl6.trans hl11), hS24⟩
def registrarlaw21_goesOn (p0 : mdl_Locks) (p1 : ByteArray) (p2 : List Int) (p3 : registrarlaw21_Act) : Option Bool := (mdl_Locks_Waiters p0 p1).bind (fun (r12 : List Int) => (forN (fun (i18 : Nat) => fun (s : Int × Bool) => match s with | (s16, s17) => (((bif (p3.Do == 2) then (idx p2 (i18 : Int)).bind (fun (x35 : Int) => some (x35 == p3.Who)) else some false)).bind (fun (j31 : Bool) => (bif j31 then some (.inl (s16, s17)) else (idx p2 (i18 : Int)).bind (fun (x40 : Int) => (registrarlaw21_mode p0 x40 p1).bind (fun (r48 : Int) => (bif (decide (r48 > 0)) then (bif s17 then some (.inr false) else some (.inl (s16, s17))) else ((bif (decide (s16 ≥ (r12.length : Int))) then some true else (idx r12 s16).bind (fun (x65 : Int) => (idx p2 (i18 : Int)).bind (fun (x66 : Int) => some (x65 != x66))))).bind (fun (j61 : Bool) => (bif j61 then some (.inr false) else some (.inl ((w64 (s16 + 1)), true)))))))))).bind (fun (t : (Int × Bool) ⊕ Bool) => match t with | (.inl (s38, s39)) => some (.inl (s38, s39)) | (.inr s50) => some (.inr s50))) p2.length 0 (0, false)).bind (fun (t : (Int × Bool) ⊕ (Bool)) => match t with | .inl (s16, s17) => some true | .inr s52 => some s52))
set_option maxHeartbeats 1000000 in
theorem registrarlaw21_goesOn_ok {E w : World} {I : Mem} {Os : List Mem} {p0 : mdl_Locks} {p1 : ByteArray} {p2 : List Int} {p3 : registrarlaw21_Act} {b_p0 : Nat} {w_p0 : W_mdl_Locks} {a_p2 : Option Addr} {c_p2 : Nat} (h_p0 : ok_mdl_Locks I p0 w_p0) (h_p2 : RSl 1 (RInt .i64) I a_p2 c_p2 p2) (hS : St E w I ((Gv.one b_p0 (.cells (cs_mdl_Locks p0 w_p0).toArray 56 (0, 0))) :: (w_p0.at_.C) :: Os)) {r : Bool} (hr : registrarlaw21_goesOn p0 p1 p2 p3 = some r) :
    Calls P 14 #[(.pointer (some ⟨b_p0, 0, none⟩)), (.string p1), (.slice a_p2 p2.length c_p2), (.agg (cs_registrarlaw21_Act p3).toArray)] w (fun e w' => ∃ (I' : Mem), e = .returned (.bool r) ∧ I.Le I' ∧ St E w' I' ((Gv.one b_p0 (.cells (cs_mdl_Locks p0 w_p0).toArray 56 (0, 0))) :: w_p0.at_.C :: Os)) := by
  refine calls_W (args := [(.pointer (some ⟨b_p0, 0, none⟩)), (.string p1), (.slice a_p2 p2.length c_p2), (.agg (cs_registrarlaw21_Act p3).toArray)]) (fn := Try.f14) rfl rfl rfl ?_
  unfold registrarlaw21_goesOn at hr
  refine W.seq ?_
  refine W.region (l := [0, 1]) (by kernel_rfl) ?_
  refine WO.new hS rfl (by kernel_rfl) rfl (.cells (cs_registrarlaw21_Act p3).toArray 27 (0, 0)) (fun b => .pointer (some ⟨b, 0, none⟩)) (by kernel_rfl) (fun _ _ _ => trivial) ?_
  intro b1 w4 hS3
  refine WO.vals [(1, 8, (.bool false))] (by kernel_rfl) (fun _ => by kernel_rfl) ?_
  refine WO.nil ?_
  refine En.next ?_
  refine W.seq ?_
  refine W.region (l := [0, 1, 2, 3]) (by kernel_rfl) ?_
  refine WO.vals [(0, 13, (.pointer (some ⟨b_p0, 0, none⟩))), (1, 14, (.string p1))] (by kernel_rfl) (fun _ => by kernel_rfl) ?_
  have hS5 := hS3.front2
  have hS6 := hS5.front2
  obtain ⟨r12, hx_r7, hr⟩ := bind_some hr
  refine WO.call rfl (by kernel_rfl) rfl (f := 12) (args := #[(.pointer (some ⟨b_p0, 0, none⟩)), (.string p1)]) (by kernel_rfl) (mdl_Locks_Waiters_ok h_p0 hS6 hx_r7) ?_
  rintro _ w8 ⟨I9, a_r12, c_r12, rfl, hl10, hS11, h_r12⟩
  refine ⟨_, rfl, trivial, ?_⟩
  refine WO.vals [(3, 9, (.slice a_r12 r12.length c_r12))] (by kernel_rfl) (fun _ => by kernel_rfl) ?_
  refine WO.nil ?_
  refine En.next ?_
  refine W.seq ?_
  refine W.region (l := [0]) (by kernel_rfl) ?_
  refine WO.vals [(0, 10, (.int .i64 0))] (by kernel_rfl) (fun _ => by kernel_rfl) ?_
  refine WO.nil ?_
  refine En.next ?_
  refine W.seq ?_
  refine W.region (l := [0]) (by kernel_rfl) ?_
  refine WO.vals [(0, 11, (.bool false))] (by kernel_rfl) (fun _ => by kernel_rfl) ?_
  refine WO.nil ?_
  refine En.next ?_
  refine W.seq ?_
  refine W.seq ?_
  refine W.region (l := [0]) (by kernel_rfl) ?_
  refine WO.vals [(0, 12, (.int .i64 0))] (by kernel_rfl) (fun _ => by kernel_rfl) ?_
  refine WO.nil ?_
  refine En.next ?_
  refine W.block ?_
  obtain ⟨t13, hloop19, hr⟩ := bind_some hr
  have hlt23 := ((RSl.mono h_p2 hl10)).len_lt
  refine W.weaken (fr' := [(0, (.pointer (some ⟨b_p0, 0, none⟩))), (1, (.string p1)), (2, (.slice a_p2 p2.length c_p2)), (7, (.pointer (some ⟨b1, 0, none⟩))), (9, (.slice a_r12 r12.length c_r12)), (10, (.int .i64 0)), (11, (.bool false)), (12, (.int .i64 ((0 : Nat) : Int)))]) (W.forN (m := p2.length) hloop19 (fun (i18 : Nat) => fun (s : Int × Bool) fr w => match s with | (s16, s17) => ∃ (I14 : Mem), fr = [(0, (.pointer (some ⟨b_p0, 0, none⟩))), (1, (.string p1)), (2, (.slice a_p2 p2.length c_p2)), (7, (.pointer (some ⟨b1, 0, none⟩))), (9, (.slice a_r12 r12.length c_r12)), (10, (.int .i64 s16)), (11, (.bool s17)), (12, (.int .i64 (i18 : Int)))] ∧ I9.Le I14 ∧ St E w I14 ((Gv.one b_p0 (.cells (cs_mdl_Locks p0 w_p0).toArray 56 (0, 0))) :: (w_p0.at_.C) :: (Gv.one b1 (.cells (cs_registrarlaw21_Act p3).toArray 27 (0, 0))) :: Os)) ⟨I9, rfl, Mem.Le.refl _, hS11⟩ ?roundt13 ?lastt13) (Sub.cons rfl (Sub.cons rfl (Sub.cons rfl (Sub.cons rfl (Sub.cons rfl (Sub.cons rfl (Sub.cons rfl (Sub.cons rfl Sub.nil))))))))
  case roundt13 =>
    rintro i18 ⟨s16, s17⟩ _ w20 hi24 ⟨I14, rfl, hl15, hS21⟩ x22 hr1 hext13
    refine W.seq ?_
    refine W.seq ?_
    refine W.region (l := [0, 1, 2, 3]) (by kernel_rfl) ?_
    refine WO.vals [(0, 16, (.int .i64 (i18 : Int))), (1, 17, (.slice a_p2 p2.length c_p2)), (2, 18, (.int .i64 (p2.length : Int))), (3, 19, (.bool (decide ((i18 : Int) < (p2.length : Int)))))] (by kernel_rfl) (fun _ => by kernel_rfl) ?_
    refine WO.nil ?_
    refine En.next ?_
    refine W.cond (b := (decide ((i18 : Int) < (p2.length : Int)))) rfl rfl (fun hc => ?_) (fun hc => ?_)
    rotate_left
    · exact absurd hc (by first | (simp; done) | (simp; omega))
    clear hc
    refine W.skip ?_
    refine En.next ?_
    refine W.seq ?_
    obtain ⟨j25, hr2, hr1⟩ := bind_some hr1
    refine W.join (J := (fun fr w => ∃ (s38 : Int), ∃ (s39 : Bool), ∃ (I27 : Mem), (.inl (s38, s39)) = j25 ∧ fr = [(0, (.pointer (some ⟨b_p0, 0, none⟩))), (1, (.string p1)), (2, (.slice a_p2 p2.length c_p2)), (7, (.pointer (some ⟨b1, 0, none⟩))), (9, (.slice a_r12 r12.length c_r12)), (10, (.int .i64 s38)), (11, (.bool s39)), (12, (.int .i64 (i18 : Int)))] ∧ I14.Le I27 ∧ St E w I27 ((Gv.one b_p0 (.cells (cs_mdl_Locks p0 w_p0).toArray 56 (0, 0))) :: (w_p0.at_.C) :: (Gv.one b1 (.cells (cs_registrarlaw21_Act p3).toArray 27 (0, 0))) :: Os))) ?restj25 ?waysj25
    case waysj25 =>
      refine W.block ?_
      refine W.seq ?_
      refine W.seq ?_
      have hS29 := hS21.drew
      refine W.draw (l := [0, 1, 2, 3, 4, 5, 6, 7, 8, 9, 10, 11]) (by kernel_rfl) 12 (KR I14 [Gv.one b1 (.cells (cs_registrarlaw21_Act p3).toArray 27 (0, 0))]) qR (.back (by kernel_rfl)) (by kernel_rfl) (KR.cons (hS29.rd (List.Mem.tail _ (List.Mem.tail _ (List.Mem.head _)))) (KR.nil hS29.im)) ?_
      generalize World.drew _ = w30 at *
      refine WO.vals [(0, 22, (.pointer (some ⟨b1, 0, none⟩)))] (by kernel_rfl) (fun _ => by kernel_rfl) ?_
      refine WO.load rfl (by kernel_rfl) (by kernel_rfl) rfl (v := (.int .i64 p3.Do)) (fun w' hw' => cell_one ((rd_c (List.Mem.head _) (hS29.rd (List.Mem.tail _ (List.Mem.tail _ (List.Mem.head _))))) w' hw') (by kernel_rfl)) ?_
      refine WO.vals [(2, 24, (.bool (p3.Do == 2))), (3, 25, (.bool (p3.Do == 2)))] (by kernel_rfl) (fun _ => by kernel_rfl) ?_
      obtain ⟨j31, hr3, hr2⟩ := bind_some hr2
      refine WO.join (l1 := [4, 5, 6, 7, 8, 9, 10, 11]) (l2 := []) (J := (fun fr w => ∃ (I33 : Mem), fr = [(0, (.pointer (some ⟨b_p0, 0, none⟩))), (1, (.string p1)), (2, (.slice a_p2 p2.length c_p2)), (7, (.pointer (some ⟨b1, 0, none⟩))), (9, (.slice a_r12 r12.length c_r12)), (10, (.int .i64 s16)), (11, (.bool s17)), (12, (.int .i64 (i18 : Int))), (33, (.bool j31))] ∧ I14.Le I33 ∧ St E w I33 ((Gv.one b_p0 (.cells (cs_mdl_Locks p0 w_p0).toArray 56 (0, 0))) :: (w_p0.at_.C) :: (Gv.one b1 (.cells (cs_registrarlaw21_Act p3).toArray 27 (0, 0))) :: Os))) ?restj31 ?waysj31
      case waysj31 =>
        refine WO.caseb (p3.Do == 2) (fun hc => ?_) (fun hc => ?_)
        · replace hr3 := cond_t hc hr3
          refine WO.reslot 25 rfl (show Value.bool (p3.Do == 2) = Value.bool true by rw [hc]) ?_
          refine WO.vals [(4, 26, (.slice a_p2 p2.length c_p2)), (5, 27, (.int .i64 (i18 : Int)))] (by kernel_rfl) (fun _ => by kernel_rfl) ?_
          obtain ⟨x35, hx_x35, hr3⟩ := bind_some hr3
          obtain ⟨h0_x35, h1_x35, hx_x35⟩ := idx_some hx_x35
          obtain ⟨ha_x35, cs_x35, hn_x35, hr_x35, hc_x35⟩ := ((RSl.mono h_p2 (hl10.trans hl15))).el _ _ hx_x35
          obtain rfl := hr_x35
          refine WO.indexAddr (e := 3) (sz := 1) rfl (by kernel_rfl) (by kernel_rfl) (by kernel_rfl) rfl ha_x35 rfl h0_x35 h1_x35 ?_
          refine WO.load rfl (by kernel_rfl) (by kernel_rfl) rfl (v := (.int .i64 x35)) (fun w' hw' => hc_x35.cell0 (by kernel_rfl) ((rd_i hS29.im) w' hw')) ?_
          refine WO.vals [(8, 30, (.pointer (some ⟨b1, 1, none⟩)))] (by kernel_rfl) (fun _ => by kernel_rfl) ?_
          refine WO.load rfl (by kernel_rfl) (by kernel_rfl) rfl (v := (.int .i64 p3.Who)) (fun w' hw' => cell_one ((rd_c (List.Mem.head _) (hS29.rd (List.Mem.tail _ (List.Mem.tail _ (List.Mem.head _))))) w' hw') (by kernel_rfl)) ?_
          refine WO.vals [(10, 32, (.bool (x35 == p3.Who))), (11, 33, (.bool (x35 == p3.Who)))] (by kernel_rfl) (fun _ => by kernel_rfl) ?_
          have he := Option.some.inj hr3
          subst j31
          refine WO.weaken (fr' := [(0, (.pointer (some ⟨b_p0, 0, none⟩))), (1, (.string p1)), (2, (.slice a_p2 p2.length c_p2)), (7, (.pointer (some ⟨b1, 0, none⟩))), (9, (.slice a_r12 r12.length c_r12)), (10, (.int .i64 s16)), (11, (.bool s17)), (12, (.int .i64 (i18 : Int))), (33, (.bool (x35 == p3.Who)))]) (WO.meet ⟨I14, rfl, Mem.Le.refl _, hS29⟩) (Sub.cons rfl (Sub.cons rfl (Sub.cons rfl (Sub.cons rfl (Sub.cons rfl (Sub.cons rfl (Sub.cons rfl (Sub.cons rfl (Sub.cons rfl Sub.nil)))))))))
        · replace hr3 := cond_f hc hr3
          refine WO.reslot 25 rfl (show Value.bool (p3.Do == 2) = Value.bool false by rw [hc]) ?_
          refine WO.pass rfl (by kernel_rfl) rfl ?_
          refine WO.pass rfl (by kernel_rfl) rfl ?_
          refine WO.pass rfl (by kernel_rfl) rfl ?_
          refine WO.pass rfl (by kernel_rfl) rfl ?_
          refine WO.pass rfl (by kernel_rfl) rfl ?_
          refine WO.pass rfl (by kernel_rfl) rfl ?_
          refine WO.pass rfl (by kernel_rfl) rfl ?_
          refine WO.vals [(11, 33, (.bool false))] (by kernel_rfl) (fun _ => by kernel_rfl) ?_
          have he := Option.some.inj hr3
          subst j31
          refine WO.weaken (fr' := [(0, (.pointer (some ⟨b_p0, 0, none⟩))), (1, (.string p1)), (2, (.slice a_p2 p2.length c_p2)), (7, (.pointer (some ⟨b1, 0, none⟩))), (9, (.slice a_r12 r12.length c_r12)), (10, (.int .i64 s16)), (11, (.bool s17)), (12, (.int .i64 (i18 : Int))), (33, (.bool false))]) (WO.meet ⟨I14, rfl, Mem.Le.refl _, hS29⟩) (Sub.cons rfl (Sub.cons rfl (Sub.cons rfl (Sub.cons rfl (Sub.cons rfl (Sub.cons rfl (Sub.cons rfl (Sub.cons rfl (Sub.cons rfl Sub.nil)))))))))
      case restj31 =>
        rintro _ w36 ⟨I33, rfl, hl34, hS37⟩
        refine WO.nil ?_
        refine En.next ?_
        refine W.cond (b := j31) rfl rfl (fun hc => ?_) (fun hc => ?_)
        · replace hr2 := cond_t hc hr2
          refine W.exit ?_
          refine En.nx_exit ?_
          refine En.in_hit ?_
          refine En.weaken (fr' := [(0, (.pointer (some ⟨b_p0, 0, none⟩))), (1, (.string p1)), (2, (.slice a_p2 p2.length c_p2)), (7, (.pointer (some ⟨b1, 0, none⟩))), (9, (.slice a_r12 r12.length c_r12)), (10, (.int .i64 s16)), (11, (.bool s17)), (12, (.int .i64 (i18 : Int)))]) (En.round ⟨s16, s17, I33, Option.some.inj hr2, rfl, hl34, hS37⟩) (Sub.cons rfl (Sub.cons rfl (Sub.cons rfl (Sub.cons rfl (Sub.cons rfl (Sub.cons rfl (Sub.cons rfl (Sub.cons rfl Sub.nil))))))))
        · replace hr2 := cond_f hc hr2
          refine W.skip ?_
          refine En.next ?_
          refine W.seq ?_
          refine W.seq ?_
          refine W.region (l := [0, 1, 2, 3, 4, 5, 6, 7]) (by kernel_rfl) ?_
          refine WO.vals [(0, 34, (.pointer (some ⟨b_p0, 0, none⟩))), (1, 35, (.slice a_p2 p2.length c_p2)), (2, 36, (.int .i64 (i18 : Int)))] (by kernel_rfl) (fun _ => by kernel_rfl) ?_
          obtain ⟨x40, hx_x40, hr2⟩ := bind_some hr2
          obtain ⟨h0_x40, h1_x40, hx_x40⟩ := idx_some hx_x40
          obtain ⟨ha_x40, cs_x40, hn_x40, hr_x40, hc_x40⟩ := ((RSl.mono h_p2 ((hl10.trans hl15).trans hl34))).el _ _ hx_x40
          obtain rfl := hr_x40
          refine WO.indexAddr (e := 3) (sz := 1) rfl (by kernel_rfl) (by kernel_rfl) (by kernel_rfl) rfl ha_x40 rfl h0_x40 h1_x40 ?_
          refine WO.load rfl (by kernel_rfl) (by kernel_rfl) rfl (v := (.int .i64 x40)) (fun w' hw' => hc_x40.cell0 (by kernel_rfl) ((rd_f hS37.im) w' hw')) ?_
          refine WO.vals [(5, 39, (.string p1))] (by kernel_rfl) (fun _ => by kernel_rfl) ?_
          have hS41 := hS37.front1
          have hS42 := hS41.front1
          obtain ⟨r48, hx_r43, hr2⟩ := bind_some hr2
          refine WO.call rfl (by kernel_rfl) rfl (f := 31) (args := #[(.pointer (some ⟨b_p0, 0, none⟩)), (.int .i64 x40), (.string p1)]) (by kernel_rfl) (registrarlaw21_mode_ok (h_p0.mono ((hl10.trans hl15).trans hl34)) hS42 hx_r43) ?_
          rintro _ w44 ⟨I45, rfl, hl46, hS47⟩
          refine ⟨_, rfl, trivial, ?_⟩
          refine WO.vals [(7, 41, (.bool (decide (r48 > 0))))] (by kernel_rfl) (fun _ => by kernel_rfl) ?_
          refine WO.nil ?_
          refine En.next ?_
          refine W.cond (b := (decide (r48 > 0))) rfl rfl (fun hc => ?_) (fun hc => ?_)
          · replace hr2 := cond_t hc hr2
            refine W.seq ?_
            refine W.seq ?_
            refine W.region (l := [0]) (by kernel_rfl) ?_
            refine WO.vals [(0, 42, (.bool s17))] (by kernel_rfl) (fun _ => by kernel_rfl) ?_
            refine WO.nil ?_
            refine En.next ?_
            refine W.cond (b := s17) rfl rfl (fun hc => ?_) (fun hc => ?_)
            · replace hr2 := cond_t hc hr2
              refine W.seq ?_
              refine W.region (l := [0]) (by kernel_rfl) ?_
              refine WO.vals [(0, 8, (.bool false))] (by kernel_rfl) (fun _ => by kernel_rfl) ?_
              refine WO.nil ?_
              refine En.next ?_
              refine W.ret ?_
              refine En.nx_ret ?_
              refine En.nx_ret ?_
              refine En.in_ret ?_
              refine En.rd_ret ?_
              have ht := Option.some.inj hr2
              subst j25
              refine En.nx_ret ?_
              refine En.rd_ret ?_
              have ht := hext13 _ (Option.some.inj hr1).symm
              subst t13
              refine En.in_ret ?_
              refine En.nx_ret ?_
              have hS57 := hS47.front2
              have hS58 := hS57.drop
              have he := Option.some.inj hr
              subst r
              exact En.ret1 rfl (.bool false) rfl ⟨I45, rfl, (((hl10.trans hl15).trans hl34).trans hl46), hS58⟩
            · replace hr2 := cond_f hc hr2
              refine W.skip ?_
              refine En.next ?_
              refine W.exit ?_
              refine En.nx_exit ?_
              refine En.in_hit ?_
              refine En.weaken (fr' := [(0, (.pointer (some ⟨b_p0, 0, none⟩))), (1, (.string p1)), (2, (.slice a_p2 p2.length c_p2)), (7, (.pointer (some ⟨b1, 0, none⟩))), (9, (.slice a_r12 r12.length c_r12)), (10, (.int .i64 s16)), (11, (.bool s17)), (12, (.int .i64 (i18 : Int)))]) (En.round ⟨s16, s17, I45, Option.some.inj hr2, rfl, (hl34.trans hl46), hS47⟩) (Sub.cons rfl (Sub.cons rfl (Sub.cons rfl (Sub.cons rfl (Sub.cons rfl (Sub.cons rfl (Sub.cons rfl (Sub.cons rfl Sub.nil))))))))
          · replace hr2 := cond_f hc hr2
            refine W.skip ?_
            refine En.next ?_
            refine W.seq ?_
            refine W.region (l := [0]) (by kernel_rfl) ?_
            refine WO.vals [(0, 11, (.bool true))] (by kernel_rfl) (fun _ => by kernel_rfl) ?_
            refine WO.nil ?_
            refine En.next ?_
            refine W.seq ?_
            refine W.seq ?_
            have hS59 := hS47.drew
            refine W.draw (l := [0, 1, 2, 3, 4, 5, 6, 7, 8, 9, 10, 11, 12, 13, 14]) (by kernel_rfl) 15 (KR I45 []) qR (.back (by kernel_rfl)) (by kernel_rfl) (KR.nil hS59.im) ?_
            generalize World.drew _ = w60 at *
            refine WO.vals [(0, 43, (.int .i64 s16)), (1, 44, (.slice a_r12 r12.length c_r12)), (2, 45, (.int .i64 (r12.length : Int))), (3, 46, (.bool (decide (s16 ≥ (r12.length : Int))))), (4, 47, (.bool (decide (s16 ≥ (r12.length : Int)))))] (by kernel_rfl) (fun _ => by kernel_rfl) ?_
            obtain ⟨j61, hr3, hr2⟩ := bind_some hr2
            refine WO.join (l1 := [5, 6, 7, 8, 9, 10, 11, 12, 13, 14]) (l2 := []) (J := (fun fr w => ∃ (I63 : Mem), fr = [(0, (.pointer (some ⟨b_p0, 0, none⟩))), (1, (.string p1)), (2, (.slice a_p2 p2.length c_p2)), (7, (.pointer (some ⟨b1, 0, none⟩))), (9, (.slice a_r12 r12.length c_r12)), (10, (.int .i64 s16)), (11, (.bool true)), (12, (.int .i64 (i18 : Int))), (57, (.bool j61))] ∧ I45.Le I63 ∧ St E w I63 ((Gv.one b_p0 (.cells (cs_mdl_Locks p0 w_p0).toArray 56 (0, 0))) :: (w_p0.at_.C) :: (Gv.one b1 (.cells (cs_registrarlaw21_Act p3).toArray 27 (0, 0))) :: Os))) ?restj61 ?waysj61
            case waysj61 =>
              refine WO.caseb (decide (s16 ≥ (r12.length : Int))) (fun hc => ?_) (fun hc => ?_)
              · replace hr3 := cond_t hc hr3
                refine WO.reslot 47 rfl (show Value.bool (decide (s16 ≥ (r12.length : Int))) = Value.bool true by rw [hc]) ?_
                refine WO.pass rfl (by kernel_rfl) rfl ?_
                refine WO.pass rfl (by kernel_rfl) rfl ?_
                refine WO.pass rfl (by kernel_rfl) rfl ?_
                refine WO.pass rfl (by kernel_rfl) rfl ?_
                refine WO.pass rfl (by kernel_rfl) rfl ?_
                refine WO.pass rfl (by kernel_rfl) rfl ?_
                refine WO.pass rfl (by kernel_rfl) rfl ?_
                refine WO.pass rfl (by kernel_rfl) rfl ?_
                refine WO.pass rfl (by kernel_rfl) rfl ?_
                refine WO.vals [(14, 57, (.bool true))] (by kernel_rfl) (fun _ => by kernel_rfl) ?_
                have he := Option.some.inj hr3
                subst j61
                refine WO.weaken (fr' := [(0, (.pointer (some ⟨b_p0, 0, none⟩))), (1, (.string p1)), (2, (.slice a_p2 p2.length c_p2)), (7, (.pointer (some ⟨b1, 0, none⟩))), (9, (.slice a_r12 r12.length c_r12)), (10, (.int .i64 s16)), (11, (.bool true)), (12, (.int .i64 (i18 : Int))), (57, (.bool true))]) (WO.meet ⟨I45, rfl, Mem.Le.refl _, hS59⟩) (Sub.cons rfl (Sub.cons rfl (Sub.cons rfl (Sub.cons rfl (Sub.cons rfl (Sub.cons rfl (Sub.cons rfl (Sub.cons rfl (Sub.cons rfl Sub.nil)))))))))
              · replace hr3 := cond_f hc hr3
                refine WO.reslot 47 rfl (show Value.bool (decide (s16 ≥ (r12.length : Int))) = Value.bool false by rw [hc]) ?_
                refine WO.vals [(5, 48, (.slice a_r12 r12.length c_r12)), (6, 49, (.int .i64 s16))] (by kernel_rfl) (fun _ => by kernel_rfl) ?_
                obtain ⟨x65, hx_x65, hr3⟩ := bind_some hr3
                obtain ⟨h0_x65, h1_x65, hx_x65⟩ := idx_some hx_x65
                obtain ⟨ha_x65, cs_x65, hn_x65, hr_x65, hc_x65⟩ := ((RSl.mono h_r12 ((hl15.trans hl34).trans hl46))).el _ _ hx_x65
                obtain rfl := hr_x65
                refine WO.indexAddr (e := 3) (sz := 1) rfl (by kernel_rfl) (by kernel_rfl) (by kernel_rfl) rfl ha_x65 rfl h0_x65 h1_x65 ?_
                refine WO.load rfl (by kernel_rfl) (by kernel_rfl) rfl (v := (.int .i64 x65)) (fun w' hw' => hc_x65.cell0 (by kernel_rfl) ((rd_i hS59.im) w' hw')) ?_
                refine WO.vals [(9, 52, (.slice a_p2 p2.length c_p2)), (10, 53, (.int .i64 (i18 : Int)))] (by kernel_rfl) (fun _ => by kernel_rfl) ?_
                obtain ⟨x66, hx_x66, hr3⟩ := bind_some hr3
                obtain ⟨h0_x66, h1_x66, hx_x66⟩ := idx_some hx_x66
                obtain ⟨ha_x66, cs_x66, hn_x66, hr_x66, hc_x66⟩ := ((RSl.mono h_p2 (((hl10.trans hl15).trans hl34).trans hl46))).el _ _ hx_x66
                obtain rfl := hr_x66
                refine WO.indexAddr (e := 3) (sz := 1) rfl (by kernel_rfl) (by kernel_rfl) (by kernel_rfl) rfl ha_x66 rfl h0_x66 h1_x66 ?_
                refine WO.load rfl (by kernel_rfl) (by kernel_rfl) rfl (v := (.int .i64 x66)) (fun w' hw' => hc_x66.cell0 (by kernel_rfl) ((rd_i hS59.im) w' hw')) ?_
                refine WO.vals [(13, 56, (.bool (x65 != x66))), (14, 57, (.bool (x65 != x66)))] (by kernel_rfl) (fun _ => by kernel_rfl) ?_
                have he := Option.some.inj hr3
                subst j61
                refine WO.weaken (fr' := [(0, (.pointer (some ⟨b_p0, 0, none⟩))), (1, (.string p1)), (2, (.slice a_p2 p2.length c_p2)), (7, (.pointer (some ⟨b1, 0, none⟩))), (9, (.slice a_r12 r12.length c_r12)), (10, (.int .i64 s16)), (11, (.bool true)), (12, (.int .i64 (i18 : Int))), (57, (.bool (x65 != x66)))]) (WO.meet ⟨I45, rfl, Mem.Le.refl _, hS59⟩) (Sub.cons rfl (Sub.cons rfl (Sub.cons rfl (Sub.cons rfl (Sub.cons rfl (Sub.cons rfl (Sub.cons rfl (Sub.cons rfl (Sub.cons rfl Sub.nil)))))))))
            case restj61 =>
              rintro _ w67 ⟨I63, rfl, hl64, hS68⟩
              refine WO.nil ?_
              refine En.next ?_
              refine W.cond (b := j61) rfl rfl (fun hc => ?_) (fun hc => ?_)
              · replace hr2 := cond_t hc hr2
                refine W.seq ?_
                refine W.region (l := [0]) (by kernel_rfl) ?_
                refine WO.vals [(0, 8, (.bool false))] (by kernel_rfl) (fun _ => by kernel_rfl) ?_
                refine WO.nil ?_
                refine En.next ?_
                refine W.ret ?_
                refine En.nx_ret ?_
                refine En.in_ret ?_
                refine En.rd_ret ?_
                have ht := Option.some.inj hr2
                subst j25
                refine En.nx_ret ?_
                refine En.rd_ret ?_
                have ht := hext13 _ (Option.some.inj hr1).symm
                subst t13
                refine En.in_ret ?_
                refine En.nx_ret ?_
                have hS69 := hS68.front2
                have hS70 := hS69.drop
                have he := Option.some.inj hr
                subst r
                exact En.ret1 rfl (.bool false) rfl ⟨I63, rfl, ((((hl10.trans hl15).trans hl34).trans hl46).trans hl64), hS70⟩
              · replace hr2 := cond_f hc hr2
                refine W.skip ?_
                refine En.next ?_
                refine W.region (l := [0, 1, 2]) (by kernel_rfl) ?_
                refine WO.vals [(0, 58, (.int .i64 s16)), (1, 59, (.int .i64 (w64 (s16 + 1)))), (2, 10, (.int .i64 (w64 (s16 + 1))))] (by kernel_rfl) (fun _ => by kernel_rfl) ?_
                refine WO.nil ?_
                refine En.in_normal ?_
                refine En.weaken (fr' := [(0, (.pointer (some ⟨b_p0, 0, none⟩))), (1, (.string p1)), (2, (.slice a_p2 p2.length c_p2)), (7, (.pointer (some ⟨b1, 0, none⟩))), (9, (.slice a_r12 r12.length c_r12)), (10, (.int .i64 (w64 (s16 + 1)))), (11, (.bool true)), (12, (.int .i64 (i18 : Int)))]) (En.round ⟨(w64 (s16 + 1)), true, I63, Option.some.inj hr2, rfl, ((hl34.trans hl46).trans hl64), hS68⟩) (Sub.cons rfl (Sub.cons rfl (Sub.cons rfl (Sub.cons rfl (Sub.cons rfl (Sub.cons rfl (Sub.cons rfl (Sub.cons rfl Sub.nil))))))))
    case restj25 =>
      rintro _ w71 ⟨s38, s39, I27, rfl, rfl, hl28, hS72⟩
      refine En.next ?_
      refine W.region (l := [0, 1, 2]) (by kernel_rfl) ?_
      refine WO.vals [(0, 20, (.int .i64 (i18 : Int)))] (by kernel_rfl) (fun _ => by kernel_rfl) ?_
      refine WO.incr (j := i18) rfl (by kernel_rfl) rfl (by omega) ?_
      refine WO.vals [(2, 12, (.int .i64 ((i18 + 1 : Nat) : Int)))] (by kernel_rfl) (fun _ => by kernel_rfl) ?_
      refine WO.nil ?_
      refine En.weaken (fr' := [(0, (.pointer (some ⟨b_p0, 0, none⟩))), (1, (.string p1)), (2, (.slice a_p2 p2.length c_p2)), (7, (.pointer (some ⟨b1, 0, none⟩))), (9, (.slice a_r12 r12.length c_r12)), (10, (.int .i64 s38)), (11, (.bool s39)), (12, (.int .i64 ((i18 + 1 : Nat) : Int)))]) (En.round ⟨(s38, s39), (Option.some.inj hr1).symm, I27, rfl, (hl15.trans hl28), hS72⟩) (Sub.cons rfl (Sub.cons rfl (Sub.cons rfl (Sub.cons rfl (Sub.cons rfl (Sub.cons rfl (Sub.cons rfl (Sub.cons rfl Sub.nil))))))))
  case lastt13 =>
    rintro ⟨s16, s17⟩ _ w73 ⟨I14, rfl, hl15, hS74⟩ he
    cases he
    refine W.seq ?_
    refine W.seq ?_
    refine W.region (l := [0, 1, 2, 3]) (by kernel_rfl) ?_
    refine WO.vals [(0, 16, (.int .i64 (p2.length : Int))), (1, 17, (.slice a_p2 p2.length c_p2)), (2, 18, (.int .i64 (p2.length : Int))), (3, 19, (.bool (decide ((p2.length : Int) < (p2.length : Int)))))] (by kernel_rfl) (fun _ => by kernel_rfl) ?_
    refine WO.nil ?_
    refine En.next ?_
    refine W.cond (b := (decide ((p2.length : Int) < (p2.length : Int)))) rfl rfl (fun hc => ?_) (fun hc => ?_)
    · exact absurd hc (by first | (simp; done) | (simp; omega))
    clear hc
    refine W.exit ?_
    refine En.nx_exit ?_
    refine En.rd_exit ?_
    refine En.in_hit ?_
    refine En.next ?_
    refine W.seq ?_
    refine W.region (l := [0]) (by kernel_rfl) ?_
    refine WO.vals [(0, 8, (.bool true))] (by kernel_rfl) (fun _ => by kernel_rfl) ?_
    refine WO.nil ?_
    refine En.next ?_
    refine W.ret ?_
    have hS75 := hS74.front2
    have hS76 := hS75.drop
    have he := Option.some.inj hr
    subst r
    exact En.ret1 rfl (.bool true) rfl ⟨I14, rfl, (hl10.trans hl15), hS76⟩
noncomputable def registrarlaw21_MdlServes (p0 : List registrarlaw21_Act) : Option Bool := (mdl_New).bind (fun (r6 : mdl_Locks) => (loopO (fun (s : Int × mdl_Locks) => match s with | (s10, s11) => (bif ((decide (s10 < (p0.length : Int))) && (decide (s10 < 60))) then (idx p0 s10).bind (fun (x18 : registrarlaw21_Act) => (registrarlaw21_long x18).bind (fun (r24 : Bool) => (bif r24 then (registrarlaw21_works).bind (fun (r30 : Bool) => some (.inr (.inl (r30, s11)))) else (mdl_Locks_Paths s11).bind (fun (r45 : List ByteArray) => (forE (fun (i50 : Nat) => fun (s49 : List (List Int)) => (idx r45 (i50 : Int)).bind (fun (x62 : ByteArray) => (mdl_Locks_Waiters s11 x62).bind (fun (r70 : List Int) => (app 24 s49 ([r70] : List (List Int))).bind (fun (x79 : List (List Int)) => some x79)))) r45.length 0 ([] : List (List Int))).bind (fun (s49 : (List (List Int))) => (idx p0 s10).bind (fun (x93 : registrarlaw21_Act) => (registrarlaw21_act s11 x93).bind (fun (r101 : mdl_Locks) => (forN (fun (i105 : Nat) => fun (_s : Unit) => (idx r45 (i105 : Int)).bind (fun (x117 : ByteArray) => (idx s49 (i105 : Int)).bind (fun (x118 : List Int) => (idx p0 s10).bind (fun (x119 : registrarlaw21_Act) => (registrarlaw21_goesOn r101 x117 x118 x119).bind (fun (r127 : Bool) => (bif (!r127) then some (.inr false) else some (.inl ()))))))) r45.length 0 ()).bind (fun (t : Unit ⊕ (Bool)) => match t with | .inl _ => some (.inl ((w64 (s10 + 1)), r101)) | .inr s129 => some (.inr (.inl (s129, r101))))))))))) else some (.inr (.inr s11)))) (0, r6)).bind (fun (t : (Bool × mdl_Locks) ⊕ mdl_Locks) => match t with | (.inl (s32, s33)) => some s32 | (.inr s144) => (registrarlaw21_works).bind (fun (r150 : Bool) => some r150)))
set_option maxHeartbeats 1000000 in
theorem registrarlaw21_MdlServes_ok {E w : World} {I : Mem} {Os : List Mem} {p0 : List registrarlaw21_Act} {a_p0 : Option Addr} {c_p0 : Nat} (h_p0 : RSl 4 R_registrarlaw21_Act I a_p0 c_p0 p0) (hS : St E w I Os) {r : Bool} (hr : registrarlaw21_MdlServes p0 = some r) :
    Calls P 3 #[(.slice a_p0 p0.length c_p0)] w (fun e w' => ∃ (I' : Mem), e = .returned (.bool r) ∧ I.Le I' ∧ St E w' I' Os) := by
  refine calls_W (args := [(.slice a_p0 p0.length c_p0)]) (fn := Try.f3) rfl rfl rfl ?_
  unfold registrarlaw21_MdlServes at hr
  refine W.seq ?_
  refine W.region (l := [0]) (by kernel_rfl) ?_
  refine WO.vals [(0, 2, (.bool false))] (by kernel_rfl) (fun _ => by kernel_rfl) ?_
  refine WO.nil ?_
  refine En.next ?_
  refine W.seq ?_
  refine W.region (l := [0, 1]) (by kernel_rfl) ?_
  obtain ⟨r6, hx_r1, hr⟩ := bind_some hr
  refine WO.call rfl (by kernel_rfl) rfl (f := 8) (args := #[]) (by kernel_rfl) (mdl_New_ok  hS hx_r1) ?_
  rintro _ w2 ⟨I3, b_r6, w_r6, rfl, hl4, hS5, h_r6⟩
  refine ⟨_, rfl, trivial, ?_⟩
  refine WO.vals [(1, 3, (.pointer (some ⟨b_r6, 0, none⟩)))] (by kernel_rfl) (fun _ => by kernel_rfl) ?_
  refine WO.nil ?_
  refine En.next ?_
  refine W.seq ?_
  refine W.seq ?_
  refine W.region (l := [0]) (by kernel_rfl) ?_
  refine WO.vals [(0, 4, (.int .i64 0))] (by kernel_rfl) (fun _ => by kernel_rfl) ?_
  refine WO.nil ?_
  refine En.next ?_
  refine W.block ?_
  obtain ⟨t7, hloop12, hr⟩ := bind_some hr
  refine W.weaken (fr' := [(0, (.slice a_p0 p0.length c_p0)), (3, (.pointer (some ⟨b_r6, 0, none⟩))), (4, (.int .i64 0))]) (W.loopO hloop12 (fun (s : Int × mdl_Locks) fr w => match s with | (s10, s11) => ∃ (I8 : Mem), ∃ (w_s11 : W_mdl_Locks), fr = [(0, (.slice a_p0 p0.length c_p0)), (3, (.pointer (some ⟨b_r6, 0, none⟩))), (4, (.int .i64 s10))] ∧ I3.Le I8 ∧ St E w I8 ((Gv.one b_r6 (.cells (cs_mdl_Locks s11 w_s11).toArray 56 (0, 0))) :: (w_s11.at_.C) :: Os) ∧ ok_mdl_Locks I8 s11 w_s11) ⟨I3, w_r6, rfl, Mem.Le.refl _, hS5, h_r6⟩ ?_) (Sub.cons rfl (Sub.cons rfl (Sub.cons rfl Sub.nil)))
  rintro ⟨s10, s11⟩ _ w13 ⟨I8, w_s11, rfl, hl9, hS14, h_s11⟩ x15 hr1 hext7
  refine W.seq ?_
  refine W.seq ?_
  refine W.region (l := [0, 1, 2, 3, 4, 5, 6, 7]) (by kernel_rfl) ?_
  refine WO.vals [(0, 10, (.int .i64 s10)), (1, 11, (.slice a_p0 p0.length c_p0)), (2, 12, (.int .i64 (p0.length : Int))), (3, 13, (.bool (decide (s10 < (p0.length : Int))))), (4, 14, (.bool (decide (s10 < (p0.length : Int)))))] (by kernel_rfl) (fun _ => by kernel_rfl) ?_
  refine WO.join (l1 := [5, 6, 7]) (l2 := []) (J := fun frx wx => frx = [(17, (.bool ((decide (s10 < (p0.length : Int))) && (decide (s10 < 60))))), (0, (.slice a_p0 p0.length c_p0)), (3, (.pointer (some ⟨b_r6, 0, none⟩))), (4, (.int .i64 s10))] ∧ w13 = wx) ?restm16 ?waysm16
  case waysm16 =>
    refine WO.caseb (decide (s10 < (p0.length : Int))) (fun hc => ?_) (fun hc => ?_)
    · skip
      refine WO.reslot 14 rfl (show Value.bool (decide (s10 < (p0.length : Int))) = Value.bool true by rw [hc]) ?_
      refine WO.vals [(5, 15, (.int .i64 s10)), (6, 16, (.bool (decide (s10 < 60)))), (7, 17, (.bool (decide (s10 < 60))))] (by kernel_rfl) (fun _ => by kernel_rfl) ?_
      refine WO.weaken (fr' := [(17, (.bool ((decide (s10 < (p0.length : Int))) && (decide (s10 < 60))))), (0, (.slice a_p0 p0.length c_p0)), (3, (.pointer (some ⟨b_r6, 0, none⟩))), (4, (.int .i64 s10))]) (WO.meet ⟨rfl, rfl⟩) (Sub.cons (by rw [hc]; rfl) (Sub.cons rfl (Sub.cons rfl (Sub.cons rfl Sub.nil))))
    · skip
      refine WO.reslot 14 rfl (show Value.bool (decide (s10 < (p0.length : Int))) = Value.bool false by rw [hc]) ?_
      refine WO.pass rfl (by kernel_rfl) rfl ?_
      refine WO.pass rfl (by kernel_rfl) rfl ?_
      refine WO.vals [(7, 17, (.bool false))] (by kernel_rfl) (fun _ => by kernel_rfl) ?_
      refine WO.weaken (fr' := [(17, (.bool ((decide (s10 < (p0.length : Int))) && (decide (s10 < 60))))), (0, (.slice a_p0 p0.length c_p0)), (3, (.pointer (some ⟨b_r6, 0, none⟩))), (4, (.int .i64 s10))]) (WO.meet ⟨rfl, rfl⟩) (Sub.cons (by rw [hc]; rfl) (Sub.cons rfl (Sub.cons rfl (Sub.cons rfl Sub.nil))))
  case restm16 =>
    rintro _ _ ⟨rfl, rfl⟩
    refine WO.nil ?_
    refine En.next ?_
    refine W.cond (b := ((decide (s10 < (p0.length : Int))) && (decide (s10 < 60)))) rfl rfl (fun hc => ?_) (fun hc => ?_)
    · replace hr1 := cond_t hc hr1
      refine W.skip ?_
      refine En.next ?_
      refine W.seq ?_
      refine W.block ?_
      refine W.seq ?_
      refine W.seq ?_
      refine W.region (l := [0, 1, 2, 3, 4]) (by kernel_rfl) ?_
      refine WO.vals [(0, 20, (.slice a_p0 p0.length c_p0)), (1, 21, (.int .i64 s10))] (by kernel_rfl) (fun _ => by kernel_rfl) ?_
      obtain ⟨x18, hx_x18, hr1⟩ := bind_some hr1
      obtain ⟨h0_x18, h1_x18, hx_x18⟩ := idx_some hx_x18
      obtain ⟨ha_x18, cs_x18, hn_x18, hr_x18, hc_x18⟩ := ((RSl.mono h_p0 (hl4.trans hl9))).el _ _ hx_x18
      obtain rfl := hr_x18
      refine WO.indexAddr (e := 27) (sz := 4) rfl (by kernel_rfl) (by kernel_rfl) (by kernel_rfl) rfl ha_x18 rfl h0_x18 h1_x18 ?_
      refine WO.loadN rfl (by kernel_rfl) (by kernel_rfl) rfl ((cs_registrarlaw21_Act x18)) (by kernel_rfl) (fun w' hw' => hc_x18.cells (k := 0) (by kernel_rfl) rfl ((rd_f hS14.im) w' hw')) ?_
      obtain ⟨r24, hx_r19, hr1⟩ := bind_some hr1
      refine WO.call rfl (by kernel_rfl) rfl (f := 9) (args := #[(.agg (cs_registrarlaw21_Act x18).toArray)]) (by kernel_rfl) (registrarlaw21_long_ok  hS14 hx_r19) ?_
      rintro _ w20 ⟨I21, rfl, hl22, hS23⟩
      refine ⟨_, rfl, trivial, ?_⟩
      refine WO.nil ?_
      refine En.next ?_
      refine W.cond (b := r24) rfl rfl (fun hc => ?_) (fun hc => ?_)
      · replace hr1 := cond_t hc hr1
        refine W.seq ?_
        refine W.region (l := [0, 1]) (by kernel_rfl) ?_
        obtain ⟨r30, hx_r25, hr1⟩ := bind_some hr1
        refine WO.call rfl (by kernel_rfl) rfl (f := 10) (args := #[]) (by kernel_rfl) (registrarlaw21_works_ok  hS23 hx_r25) ?_
        rintro _ w26 ⟨I27, rfl, hl28, hS29⟩
        refine ⟨_, rfl, trivial, ?_⟩
        refine WO.vals [(1, 2, (.bool r30))] (by kernel_rfl) (fun _ => by kernel_rfl) ?_
        refine WO.nil ?_
        refine En.next ?_
        refine W.ret ?_
        refine En.nx_ret ?_
        refine En.in_ret ?_
        refine En.nx_ret ?_
        refine En.rd_ret ?_
        have ht := hext7 _ (Option.some.inj hr1).symm
        subst t7
        refine En.in_ret ?_
        refine En.nx_ret ?_
        have hS36 := hS29.drop
        have hS37 := hS36.drop
        have he := Option.some.inj hr
        subst r
        exact En.ret1 rfl (.bool r30) rfl ⟨I27, rfl, (((hl4.trans hl9).trans hl22).trans hl28), hS37⟩
      · replace hr1 := cond_f hc hr1
        refine W.skip ?_
        refine En.next ?_
        refine W.seq ?_
        refine W.region (l := [0, 1, 2]) (by kernel_rfl) ?_
        refine WO.vals [(0, 26, (.pointer (some ⟨b_r6, 0, none⟩)))] (by kernel_rfl) (fun _ => by kernel_rfl) ?_
        have hS38 := hS23.front1
        have hS39 := hS38.front1
        obtain ⟨r45, hx_r40, hr1⟩ := bind_some hr1
        refine WO.call rfl (by kernel_rfl) rfl (f := 11) (args := #[(.pointer (some ⟨b_r6, 0, none⟩))]) (by kernel_rfl) (mdl_Locks_Paths_ok (h_s11.mono hl22) hS39 hx_r40) ?_
        rintro _ w41 ⟨I42, a_r45, c_r45, rfl, hl43, hS44, h_r45⟩
        refine ⟨_, rfl, trivial, ?_⟩
        refine WO.vals [(2, 5, (.slice a_r45 r45.length c_r45))] (by kernel_rfl) (fun _ => by kernel_rfl) ?_
        refine WO.nil ?_
        refine En.next ?_
        refine W.seq ?_
        refine W.region (l := [0]) (by kernel_rfl) ?_
        refine WO.vals [(0, 6, (.slice none 0 0))] (by kernel_rfl) (fun _ => by kernel_rfl) ?_
        refine WO.nil ?_
        refine En.next ?_
        refine W.seq ?_
        refine W.seq ?_
        refine W.region (l := [0]) (by kernel_rfl) ?_
        refine WO.vals [(0, 7, (.int .i64 0))] (by kernel_rfl) (fun _ => by kernel_rfl) ?_
        refine WO.nil ?_
        refine En.next ?_
        refine W.block ?_
        obtain ⟨s49, hloop51, hr1⟩ := bind_some hr1
        have hS53 := hS44.no
        have hS54 := hS53.front2
        have hS55 := hS54.front1
        have hS56 := hS55.front2
        have hlt60 := (h_r45).len_lt
        refine W.weaken (fr' := [(0, (.slice a_p0 p0.length c_p0)), (3, (.pointer (some ⟨b_r6, 0, none⟩))), (4, (.int .i64 s10)), (5, (.slice a_r45 r45.length c_r45)), (6, (.slice none ([] : List (List Int)).length 0)), (7, (.int .i64 ((0 : Nat) : Int)))]) (W.forE (m := r45.length) hloop51 (fun (i50 : Nat) => fun (s49 : List (List Int)) fr w => ∃ (I47 : Mem), ∃ (a_s49 : Option Addr), ∃ (c_s49 : Nat), ∃ (C_s49 : Mem), fr = [(0, (.slice a_p0 p0.length c_p0)), (3, (.pointer (some ⟨b_r6, 0, none⟩))), (4, (.int .i64 s10)), (5, (.slice a_r45 r45.length c_r45)), (6, (.slice a_s49 s49.length c_s49)), (7, (.int .i64 (i50 : Int)))] ∧ I42.Le I47 ∧ St E w I47 ((Gv.one b_r6 (.cells (cs_mdl_Locks s11 w_s11).toArray 56 (0, 0))) :: (C_s49) :: (w_s11.at_.C) :: Os) ∧ OwnSl 32 1 (RSlC 1 (RInt .i64)) I47 C_s49 a_s49 c_s49 s49) ⟨I42, none, 0, Mem.no, rfl, Mem.Le.refl _, hS56, OwnSl.nil⟩ ?roundt46 ?lastt46) (Sub.cons rfl (Sub.cons rfl (Sub.cons rfl (Sub.cons rfl (Sub.cons rfl (Sub.cons rfl Sub.nil))))))
        case roundt46 =>
          rintro i50 s49 _ w57 hi61 ⟨I47, a_s49, c_s49, C_s49, rfl, hl48, hS58, h_s49⟩ x59 hr2
          refine W.seq ?_
          refine W.seq ?_
          refine W.region (l := [0, 1, 2, 3]) (by kernel_rfl) ?_
          refine WO.vals [(0, 28, (.int .i64 (i50 : Int))), (1, 29, (.slice a_r45 r45.length c_r45)), (2, 30, (.int .i64 (r45.length : Int))), (3, 31, (.bool (decide ((i50 : Int) < (r45.length : Int)))))] (by kernel_rfl) (fun _ => by kernel_rfl) ?_
          refine WO.nil ?_
          refine En.next ?_
          refine W.cond (b := (decide ((i50 : Int) < (r45.length : Int)))) rfl rfl (fun hc => ?_) (fun hc => ?_)
          rotate_left
          · exact absurd hc (by first | (simp; done) | (simp; omega))
          clear hc
          refine W.skip ?_
          refine En.next ?_
          refine W.seq ?_
          refine W.block ?_
          refine W.region (l := [0, 1, 2, 3, 4, 5, 6, 7, 8, 9]) (by kernel_rfl) ?_
          refine WO.vals [(0, 34, (.slice a_s49 s49.length c_s49)), (1, 35, (.pointer (some ⟨b_r6, 0, none⟩))), (2, 36, (.slice a_r45 r45.length c_r45)), (3, 37, (.int .i64 (i50 : Int)))] (by kernel_rfl) (fun _ => by kernel_rfl) ?_
          obtain ⟨x62, hx_x62, hr2⟩ := bind_some hr2
          obtain ⟨h0_x62, h1_x62, hx_x62⟩ := idx_some hx_x62
          obtain ⟨ha_x62, cs_x62, hn_x62, hr_x62, hc_x62⟩ := ((RSl.mono h_r45 hl48)).el _ _ hx_x62
          obtain rfl := hr_x62
          refine WO.indexAddr (e := 9) (sz := 1) rfl (by kernel_rfl) (by kernel_rfl) (by kernel_rfl) rfl ha_x62 rfl h0_x62 h1_x62 ?_
          refine WO.load rfl (by kernel_rfl) (by kernel_rfl) rfl (v := (.string x62)) (fun w' hw' => hc_x62.cell0 (by kernel_rfl) ((rd_f hS58.im) w' hw')) ?_
          have hS63 := hS58.front2
          have hS64 := hS63.front1
          obtain ⟨r70, hx_r65, hr2⟩ := bind_some hr2
          refine WO.call rfl (by kernel_rfl) rfl (f := 12) (args := #[(.pointer (some ⟨b_r6, 0, none⟩)), (.string x62)]) (by kernel_rfl) (mdl_Locks_Waiters_ok (h_s11.mono ((hl22.trans hl43).trans hl48)) hS64 hx_r65) ?_
          rintro _ w66 ⟨I67, a_r70, c_r70, rfl, hl68, hS69, h_r70⟩
          refine ⟨_, rfl, trivial, ?_⟩
          refine WO.newSlice (rel := (RSlC 1 (RInt .i64))) (xs := ([r70] : List (List Int))) hS69 rfl (by kernel_rfl) rfl 32 1 [[(.slice a_r70 r70.length c_r70)]] (by kernel_rfl) rfl ((Elr.cons ⟨a_r70, c_r70, rfl, h_r70⟩ Elr.nil)) (fun _ _ _ => trivial) ?_
          intro a74 C72 w76 hS75 ho73
          have hS78 := hS75.front3
          obtain ⟨x79, hx_x79, hr2⟩ := bind_some hr2
          obtain ⟨h0_x79, he_x79⟩ := app_some hx_x79
          refine WO.append (e' := 32) (b := 24) (zs := #[(.slice none 0 0)]) hS78 (OwnSl.mono h_s49 hl68) rfl (by kernel_rfl) rfl (by kernel_rfl) (by kernel_rfl) (by kernel_rfl) rfl rfl rfl rfl ho73.sl (hS78.rd (List.Mem.tail _ (List.Mem.head _))) h0_x79 he_x79 (fun _ _ _ => trivial) ?_
          intro a80 c81 w82 C83 hS84 ho85
          have hS86 := hS84.front1
          have hS87 := hS86.drop
          refine WO.vals [(9, 6, (.slice a80 x79.length c81))] (by kernel_rfl) (fun _ => by kernel_rfl) ?_
          refine WO.nil ?_
          refine En.in_normal ?_
          refine En.next ?_
          refine W.region (l := [0, 1, 2]) (by kernel_rfl) ?_
          refine WO.vals [(0, 32, (.int .i64 (i50 : Int)))] (by kernel_rfl) (fun _ => by kernel_rfl) ?_
          refine WO.incr (j := i50) rfl (by kernel_rfl) rfl (by omega) ?_
          refine WO.vals [(2, 7, (.int .i64 ((i50 + 1 : Nat) : Int)))] (by kernel_rfl) (fun _ => by kernel_rfl) ?_
          refine WO.nil ?_
          have hS88 := hS87.front2
          have hS89 := hS88.front1
          have hS90 := hS89.front2
          have he := Option.some.inj hr2
          subst x59
          refine En.weaken (fr' := [(0, (.slice a_p0 p0.length c_p0)), (3, (.pointer (some ⟨b_r6, 0, none⟩))), (4, (.int .i64 s10)), (5, (.slice a_r45 r45.length c_r45)), (6, (.slice a80 x79.length c81)), (7, (.int .i64 ((i50 + 1 : Nat) : Int)))]) (En.round ⟨I67, a80, c81, C83, rfl, (hl48.trans hl68), hS90, ho85⟩) (Sub.cons rfl (Sub.cons rfl (Sub.cons rfl (Sub.cons rfl (Sub.cons rfl (Sub.cons rfl Sub.nil))))))
        case lastt46 =>
          rintro _ w91 ⟨I47, a_s49, c_s49, C_s49, rfl, hl48, hS92, h_s49⟩
          refine W.seq ?_
          refine W.seq ?_
          refine W.region (l := [0, 1, 2, 3]) (by kernel_rfl) ?_
          refine WO.vals [(0, 28, (.int .i64 (r45.length : Int))), (1, 29, (.slice a_r45 r45.length c_r45)), (2, 30, (.int .i64 (r45.length : Int))), (3, 31, (.bool (decide ((r45.length : Int) < (r45.length : Int)))))] (by kernel_rfl) (fun _ => by kernel_rfl) ?_
          refine WO.nil ?_
          refine En.next ?_
          refine W.cond (b := (decide ((r45.length : Int) < (r45.length : Int)))) rfl rfl (fun hc => ?_) (fun hc => ?_)
          · exact absurd hc (by first | (simp; done) | (simp; omega))
          clear hc
          refine W.exit ?_
          refine En.nx_exit ?_
          refine En.rd_exit ?_
          refine En.in_hit ?_
          refine En.next ?_
          refine W.seq ?_
          refine W.region (l := [0, 1, 2, 3, 4, 5]) (by kernel_rfl) ?_
          refine WO.vals [(0, 43, (.pointer (some ⟨b_r6, 0, none⟩))), (1, 44, (.slice a_p0 p0.length c_p0)), (2, 45, (.int .i64 s10))] (by kernel_rfl) (fun _ => by kernel_rfl) ?_
          obtain ⟨x93, hx_x93, hr1⟩ := bind_some hr1
          obtain ⟨h0_x93, h1_x93, hx_x93⟩ := idx_some hx_x93
          obtain ⟨ha_x93, cs_x93, hn_x93, hr_x93, hc_x93⟩ := ((RSl.mono h_p0 ((((hl4.trans hl9).trans hl22).trans hl43).trans hl48))).el _ _ hx_x93
          obtain rfl := hr_x93
          refine WO.indexAddr (e := 27) (sz := 4) rfl (by kernel_rfl) (by kernel_rfl) (by kernel_rfl) rfl ha_x93 rfl h0_x93 h1_x93 ?_
          refine WO.loadN rfl (by kernel_rfl) (by kernel_rfl) rfl ((cs_registrarlaw21_Act x93)) (by kernel_rfl) (fun w' hw' => hc_x93.cells (k := 0) (by kernel_rfl) rfl ((rd_f hS92.im) w' hw')) ?_
          have hS94 := hS92.front2
          have hS95 := hS94.front1
          obtain ⟨r101, hx_r96, hr1⟩ := bind_some hr1
          refine WO.call rfl (by kernel_rfl) rfl (f := 13) (args := #[(.pointer (some ⟨b_r6, 0, none⟩)), (.agg (cs_registrarlaw21_Act x93).toArray)]) (by kernel_rfl) (registrarlaw21_act_ok (h_s11.mono ((hl22.trans hl43).trans hl48)) hS95 hx_r96) ?_
          rintro _ w97 ⟨I98, w_r101, rfl, hl99, hS100, h_r101⟩
          refine ⟨_, rfl, trivial, ?_⟩
          refine WO.nil ?_
          refine En.next ?_
          refine W.seq ?_
          refine W.region (l := [0]) (by kernel_rfl) ?_
          refine WO.vals [(0, 8, (.int .i64 0))] (by kernel_rfl) (fun _ => by kernel_rfl) ?_
          refine WO.nil ?_
          refine En.next ?_
          refine W.block ?_
          obtain ⟨t102, hloop106, hr1⟩ := bind_some hr1
          have hS107 := hS100.front1
          have hS108 := hS107.front2
          have hS109 := hS108.front2
          have hlt113 := ((RSl.mono h_r45 (hl48.trans hl99))).len_lt
          refine W.weaken (fr' := [(0, (.slice a_p0 p0.length c_p0)), (3, (.pointer (some ⟨b_r6, 0, none⟩))), (4, (.int .i64 s10)), (5, (.slice a_r45 r45.length c_r45)), (6, (.slice a_s49 s49.length c_s49)), (8, (.int .i64 ((0 : Nat) : Int)))]) (W.forN (m := r45.length) hloop106 (fun (i105 : Nat) => fun (_s : Unit) fr w => ∃ (I103 : Mem), fr = [(0, (.slice a_p0 p0.length c_p0)), (3, (.pointer (some ⟨b_r6, 0, none⟩))), (4, (.int .i64 s10)), (5, (.slice a_r45 r45.length c_r45)), (6, (.slice a_s49 s49.length c_s49)), (8, (.int .i64 (i105 : Int)))] ∧ I98.Le I103 ∧ St E w I103 ((Gv.one b_r6 (.cells (cs_mdl_Locks r101 w_r101).toArray 56 (0, 0))) :: (C_s49) :: (w_r101.at_.C) :: Os)) ⟨I98, rfl, Mem.Le.refl _, hS109⟩ ?roundt102 ?lastt102) (Sub.cons rfl (Sub.cons rfl (Sub.cons rfl (Sub.cons rfl (Sub.cons rfl (Sub.cons rfl Sub.nil))))))
          case roundt102 =>
            rintro i105 _ _ w110 hi114 ⟨I103, rfl, hl104, hS111⟩ x112 hr2 hext102
            refine W.seq ?_
            refine W.seq ?_
            refine W.region (l := [0, 1, 2, 3]) (by kernel_rfl) ?_
            refine WO.vals [(0, 49, (.int .i64 (i105 : Int))), (1, 50, (.slice a_r45 r45.length c_r45)), (2, 51, (.int .i64 (r45.length : Int))), (3, 52, (.bool (decide ((i105 : Int) < (r45.length : Int)))))] (by kernel_rfl) (fun _ => by kernel_rfl) ?_
            refine WO.nil ?_
            refine En.next ?_
            refine W.cond (b := (decide ((i105 : Int) < (r45.length : Int)))) rfl rfl (fun hc => ?_) (fun hc => ?_)
            rotate_left
            · exact absurd hc (by first | (simp; done) | (simp; omega))
            clear hc
            refine W.skip ?_
            refine En.next ?_
            refine W.seq ?_
            refine W.block ?_
            refine W.seq ?_
            have hS115 := hS111.drew
            refine W.draw (l := [0, 1, 2, 3, 4, 5, 6, 7, 8, 9, 10, 11, 12, 13, 14]) (by kernel_rfl) 13 (KR I103 [C_s49]) qR (.back (by kernel_rfl)) (by kernel_rfl) (KR.cons (hS115.rd (List.Mem.tail _ (List.Mem.head _))) (KR.nil hS115.im)) ?_
            generalize World.drew _ = w116 at *
            refine WO.vals [(0, 55, (.pointer (some ⟨b_r6, 0, none⟩))), (1, 56, (.slice a_r45 r45.length c_r45)), (2, 57, (.int .i64 (i105 : Int)))] (by kernel_rfl) (fun _ => by kernel_rfl) ?_
            obtain ⟨x117, hx_x117, hr2⟩ := bind_some hr2
            obtain ⟨h0_x117, h1_x117, hx_x117⟩ := idx_some hx_x117
            obtain ⟨ha_x117, cs_x117, hn_x117, hr_x117, hc_x117⟩ := ((RSl.mono h_r45 ((hl48.trans hl99).trans hl104))).el _ _ hx_x117
            obtain rfl := hr_x117
            refine WO.indexAddr (e := 9) (sz := 1) rfl (by kernel_rfl) (by kernel_rfl) (by kernel_rfl) rfl ha_x117 rfl h0_x117 h1_x117 ?_
            refine WO.load rfl (by kernel_rfl) (by kernel_rfl) rfl (v := (.string x117)) (fun w' hw' => hc_x117.cell0 (by kernel_rfl) ((rd_i hS115.im) w' hw')) ?_
            refine WO.vals [(5, 60, (.slice a_s49 s49.length c_s49)), (6, 61, (.int .i64 (i105 : Int)))] (by kernel_rfl) (fun _ => by kernel_rfl) ?_
            obtain ⟨x118, hx_x118, hr2⟩ := bind_some hr2
            obtain ⟨h0_x118, h1_x118, hx_x118⟩ := idx_some hx_x118
            obtain ⟨ha_x118, cs_x118, hn_x118, hr_x118, hc_x118⟩ := ((h_s49.mono (hl99.trans hl104)).sl).el _ _ hx_x118
            obtain ⟨a_x118, c_x118, rfl, h_x118⟩ := hr_x118
            refine WO.indexAddr (e := 32) (sz := 1) rfl (by kernel_rfl) (by kernel_rfl) (by kernel_rfl) rfl ha_x118 rfl h0_x118 h1_x118 ?_
            refine WO.load rfl (by kernel_rfl) (by kernel_rfl) rfl (v := (.slice a_x118 x118.length c_x118)) (fun w' hw' => hc_x118.cell0 (by kernel_rfl) ((rd_c (List.Mem.head _) (hS115.rd (List.Mem.tail _ (List.Mem.head _)))) w' hw')) ?_
            refine WO.vals [(9, 64, (.slice a_p0 p0.length c_p0)), (10, 65, (.int .i64 s10))] (by kernel_rfl) (fun _ => by kernel_rfl) ?_
            obtain ⟨x119, hx_x119, hr2⟩ := bind_some hr2
            obtain ⟨h0_x119, h1_x119, hx_x119⟩ := idx_some hx_x119
            obtain ⟨ha_x119, cs_x119, hn_x119, hr_x119, hc_x119⟩ := ((RSl.mono h_p0 ((((((hl4.trans hl9).trans hl22).trans hl43).trans hl48).trans hl99).trans hl104))).el _ _ hx_x119
            obtain rfl := hr_x119
            refine WO.indexAddr (e := 27) (sz := 4) rfl (by kernel_rfl) (by kernel_rfl) (by kernel_rfl) rfl ha_x119 rfl h0_x119 h1_x119 ?_
            refine WO.loadN rfl (by kernel_rfl) (by kernel_rfl) rfl ((cs_registrarlaw21_Act x119)) (by kernel_rfl) (fun w' hw' => hc_x119.cells (k := 0) (by kernel_rfl) rfl ((rd_i hS115.im) w' hw')) ?_
            refine WO.tail rfl ?_
            have hS120 := hS115.front2
            have hS121 := hS120.front1
            obtain ⟨r127, hx_r122, hr2⟩ := bind_some hr2
            refine WO.call rfl (by kernel_rfl) rfl (f := 14) (args := #[(.pointer (some ⟨b_r6, 0, none⟩)), (.string x117), (.slice a_x118 x118.length c_x118), (.agg (cs_registrarlaw21_Act x119).toArray)]) (by kernel_rfl) (registrarlaw21_goesOn_ok (h_r101.mono hl104) h_x118 hS121 hx_r122) ?_
            rintro _ w123 ⟨I124, rfl, hl125, hS126⟩
            refine ⟨_, rfl, trivial, ?_⟩
            refine WO.vals [(14, 69, (.bool (!r127)))] (by kernel_rfl) (fun _ => by kernel_rfl) ?_
            refine WO.nil ?_
            refine En.next ?_
            refine W.cond (b := (!r127)) rfl rfl (fun hc => ?_) (fun hc => ?_)
            · replace hr2 := cond_t hc hr2
              refine W.seq ?_
              refine W.region (l := [0]) (by kernel_rfl) ?_
              refine WO.vals [(0, 2, (.bool false))] (by kernel_rfl) (fun _ => by kernel_rfl) ?_
              refine WO.nil ?_
              refine En.next ?_
              refine W.ret ?_
              refine En.in_ret ?_
              refine En.nx_ret ?_
              refine En.rd_ret ?_
              have ht := hext102 _ (Option.some.inj hr2).symm
              subst t102
              refine En.in_ret ?_
              refine En.in_ret ?_
              refine En.nx_ret ?_
              refine En.rd_ret ?_
              have ht := hext7 _ (Option.some.inj hr1).symm
              subst t7
              refine En.in_ret ?_
              refine En.nx_ret ?_
              have hS133 := hS126.drop
              have hS134 := hS133.drop
              have hS135 := hS134.drop
              have he := Option.some.inj hr
              subst r
              exact En.ret1 rfl (.bool false) rfl ⟨I124, rfl, (((((((hl4.trans hl9).trans hl22).trans hl43).trans hl48).trans hl99).trans hl104).trans hl125), hS135⟩
            · replace hr2 := cond_f hc hr2
              refine W.skip ?_
              refine En.in_normal ?_
              refine En.next ?_
              refine W.region (l := [0, 1, 2]) (by kernel_rfl) ?_
              refine WO.vals [(0, 53, (.int .i64 (i105 : Int)))] (by kernel_rfl) (fun _ => by kernel_rfl) ?_
              refine WO.incr (j := i105) rfl (by kernel_rfl) rfl (by omega) ?_
              refine WO.vals [(2, 8, (.int .i64 ((i105 + 1 : Nat) : Int)))] (by kernel_rfl) (fun _ => by kernel_rfl) ?_
              refine WO.nil ?_
              have hS136 := hS126.front1
              have hS137 := hS136.front2
              have hS138 := hS137.front2
              refine En.weaken (fr' := [(0, (.slice a_p0 p0.length c_p0)), (3, (.pointer (some ⟨b_r6, 0, none⟩))), (4, (.int .i64 s10)), (5, (.slice a_r45 r45.length c_r45)), (6, (.slice a_s49 s49.length c_s49)), (8, (.int .i64 ((i105 + 1 : Nat) : Int)))]) (En.round ⟨(), (Option.some.inj hr2).symm, I124, rfl, (hl104.trans hl125), hS138⟩) (Sub.cons rfl (Sub.cons rfl (Sub.cons rfl (Sub.cons rfl (Sub.cons rfl (Sub.cons rfl Sub.nil))))))
          case lastt102 =>
            rintro _ _ w139 ⟨I103, rfl, hl104, hS140⟩ he
            cases he
            refine W.seq ?_
            refine W.seq ?_
            refine W.region (l := [0, 1, 2, 3]) (by kernel_rfl) ?_
            refine WO.vals [(0, 49, (.int .i64 (r45.length : Int))), (1, 50, (.slice a_r45 r45.length c_r45)), (2, 51, (.int .i64 (r45.length : Int))), (3, 52, (.bool (decide ((r45.length : Int) < (r45.length : Int)))))] (by kernel_rfl) (fun _ => by kernel_rfl) ?_
            refine WO.nil ?_
            refine En.next ?_
            refine W.cond (b := (decide ((r45.length : Int) < (r45.length : Int)))) rfl rfl (fun hc => ?_) (fun hc => ?_)
            · exact absurd hc (by first | (simp; done) | (simp; omega))
            clear hc
            refine W.exit ?_
            refine En.nx_exit ?_
            refine En.rd_exit ?_
            refine En.in_hit ?_
            refine En.in_normal ?_
            refine En.next ?_
            refine W.region (l := [0, 1, 2]) (by kernel_rfl) ?_
            refine WO.vals [(0, 18, (.int .i64 s10)), (1, 19, (.int .i64 (w64 (s10 + 1)))), (2, 4, (.int .i64 (w64 (s10 + 1))))] (by kernel_rfl) (fun _ => by kernel_rfl) ?_
            refine WO.nil ?_
            have hS141 := hS140.front1
            have hS142 := hS141.drop
            refine En.weaken (fr' := [(0, (.slice a_p0 p0.length c_p0)), (3, (.pointer (some ⟨b_r6, 0, none⟩))), (4, (.int .i64 (w64 (s10 + 1))))]) (En.round ⟨((w64 (s10 + 1)), r101), (Option.some.inj hr1).symm, I103, w_r101, rfl, (((((hl9.trans hl22).trans hl43).trans hl48).trans hl99).trans hl104), hS142, (h_r101.mono hl104)⟩) (Sub.cons rfl (Sub.cons rfl (Sub.cons rfl Sub.nil)))
    · replace hr1 := cond_f hc hr1
      refine W.exit ?_
      refine En.nx_exit ?_
      refine En.rd_exit ?_
      have ht := hext7 _ (Option.some.inj hr1).symm
      subst t7
      refine En.in_hit ?_
      refine En.next ?_
      refine W.seq ?_
      refine W.region (l := [0, 1]) (by kernel_rfl) ?_
      obtain ⟨r158, hx_r153, hr⟩ := bind_some hr
      refine WO.call rfl (by kernel_rfl) rfl (f := 10) (args := #[]) (by kernel_rfl) (registrarlaw21_works_ok  hS14 hx_r153) ?_
      rintro _ w154 ⟨I155, rfl, hl156, hS157⟩
      refine ⟨_, rfl, trivial, ?_⟩
      refine WO.vals [(1, 2, (.bool r158))] (by kernel_rfl) (fun _ => by kernel_rfl) ?_
      refine WO.nil ?_
      refine En.next ?_
      refine W.ret ?_
      have hS159 := hS157.drop
      have hS160 := hS159.drop
      have he := Option.some.inj hr
      subst r
      exact En.ret1 rfl (.bool r158) rfl ⟨I155, rfl, ((hl4.trans hl9).trans hl156), hS160⟩
def registrarref21_Goes (p0 : Int) (p1 : Int) : Option Bool := (bif ((((((decide (p0 < 1)) || (decide (p0 > 4))) || (decide (p1 < 1))) || (decide (p1 > 4))) || (p0 == 4)) || (p1 == 4)) then some false else some (((p0 == 1) || (p1 == 1)) || (p0 == p1)))
set_option maxHeartbeats 1000000 in
theorem registrarref21_Goes_ok {E w : World} {I : Mem} {Os : List Mem} {p0 : Int} {p1 : Int} (hS : St E w I Os) {r : Bool} (hr : registrarref21_Goes p0 p1 = some r) :
    Calls P 16 #[(.int .i64 p0), (.int .i64 p1)] w (fun e w' => ∃ (I' : Mem), e = .returned (.bool r) ∧ I.Le I' ∧ St E w' I' Os) := by
  refine calls_W (args := [(.int .i64 p0), (.int .i64 p1)]) (fn := Try.f16) rfl rfl rfl ?_
  unfold registrarref21_Goes at hr
  refine W.seq ?_
  refine W.region (l := [0]) (by kernel_rfl) ?_
  refine WO.vals [(0, 4, (.bool false))] (by kernel_rfl) (fun _ => by kernel_rfl) ?_
  refine WO.nil ?_
  refine En.next ?_
  refine W.seq ?_
  refine W.seq ?_
  refine W.region (l := [0, 1, 2, 3, 4, 5, 6, 7, 8, 9, 10, 11, 12, 13, 14, 15, 16, 17, 18, 19, 20, 21]) (by kernel_rfl) ?_
  refine WO.vals [(0, 5, (.int .i64 p0)), (1, 6, (.bool (decide (p0 < 1)))), (2, 7, (.bool (decide (p0 < 1))))] (by kernel_rfl) (fun _ => by kernel_rfl) ?_
  refine WO.join (l1 := [3, 4, 5]) (l2 := [6, 7, 8, 9, 10, 11, 12, 13, 14, 15, 16, 17, 18, 19, 20, 21]) (J := fun frx wx => frx = [(10, (.bool ((decide (p0 < 1)) || (decide (p0 > 4))))), (0, (.int .i64 p0)), (1, (.int .i64 p1))] ∧ w = wx) ?restm1 ?waysm1
  case waysm1 =>
    refine WO.caseb (decide (p0 < 1)) (fun hc => ?_) (fun hc => ?_)
    · skip
      refine WO.reslot 7 rfl (show Value.bool (decide (p0 < 1)) = Value.bool true by rw [hc]) ?_
      refine WO.pass rfl (by kernel_rfl) rfl ?_
      refine WO.pass rfl (by kernel_rfl) rfl ?_
      refine WO.vals [(5, 10, (.bool true))] (by kernel_rfl) (fun _ => by kernel_rfl) ?_
      refine WO.weaken (fr' := [(10, (.bool ((decide (p0 < 1)) || (decide (p0 > 4))))), (0, (.int .i64 p0)), (1, (.int .i64 p1))]) (WO.meet ⟨rfl, rfl⟩) (Sub.cons (by rw [hc]; rfl) (Sub.cons rfl (Sub.cons rfl Sub.nil)))
    · skip
      refine WO.reslot 7 rfl (show Value.bool (decide (p0 < 1)) = Value.bool false by rw [hc]) ?_
      refine WO.vals [(3, 8, (.int .i64 p0)), (4, 9, (.bool (decide (p0 > 4)))), (5, 10, (.bool (decide (p0 > 4))))] (by kernel_rfl) (fun _ => by kernel_rfl) ?_
      refine WO.weaken (fr' := [(10, (.bool ((decide (p0 < 1)) || (decide (p0 > 4))))), (0, (.int .i64 p0)), (1, (.int .i64 p1))]) (WO.meet ⟨rfl, rfl⟩) (Sub.cons (by rw [hc]; rfl) (Sub.cons rfl (Sub.cons rfl Sub.nil)))
  case restm1 =>
    rintro _ _ ⟨rfl, rfl⟩
    refine WO.vals [(6, 11, (.bool ((decide (p0 < 1)) || (decide (p0 > 4)))))] (by kernel_rfl) (fun _ => by kernel_rfl) ?_
    refine WO.join (l1 := [7, 8, 9]) (l2 := [10, 11, 12, 13, 14, 15, 16, 17, 18, 19, 20, 21]) (J := fun frx wx => frx = [(14, (.bool (((decide (p0 < 1)) || (decide (p0 > 4))) || (decide (p1 < 1))))), (0, (.int .i64 p0)), (1, (.int .i64 p1))] ∧ w = wx) ?restm3 ?waysm3
    case waysm3 =>
      refine WO.caseb ((decide (p0 < 1)) || (decide (p0 > 4))) (fun hc => ?_) (fun hc => ?_)
      · skip
        refine WO.reslot 11 rfl (show Value.bool ((decide (p0 < 1)) || (decide (p0 > 4))) = Value.bool true by rw [hc]) ?_
        refine WO.pass rfl (by kernel_rfl) rfl ?_
        refine WO.pass rfl (by kernel_rfl) rfl ?_
        refine WO.vals [(9, 14, (.bool true))] (by kernel_rfl) (fun _ => by kernel_rfl) ?_
        refine WO.weaken (fr' := [(14, (.bool (((decide (p0 < 1)) || (decide (p0 > 4))) || (decide (p1 < 1))))), (0, (.int .i64 p0)), (1, (.int .i64 p1))]) (WO.meet ⟨rfl, rfl⟩) (Sub.cons (by rw [hc]; rfl) (Sub.cons rfl (Sub.cons rfl Sub.nil)))
      · skip
        refine WO.reslot 11 rfl (show Value.bool ((decide (p0 < 1)) || (decide (p0 > 4))) = Value.bool false by rw [hc]) ?_
        refine WO.vals [(7, 12, (.int .i64 p1)), (8, 13, (.bool (decide (p1 < 1)))), (9, 14, (.bool (decide (p1 < 1))))] (by kernel_rfl) (fun _ => by kernel_rfl) ?_
        refine WO.weaken (fr' := [(14, (.bool (((decide (p0 < 1)) || (decide (p0 > 4))) || (decide (p1 < 1))))), (0, (.int .i64 p0)), (1, (.int .i64 p1))]) (WO.meet ⟨rfl, rfl⟩) (Sub.cons (by rw [hc]; rfl) (Sub.cons rfl (Sub.cons rfl Sub.nil)))
    case restm3 =>
      rintro _ _ ⟨rfl, rfl⟩
      refine WO.vals [(10, 15, (.bool (((decide (p0 < 1)) || (decide (p0 > 4))) || (decide (p1 < 1)))))] (by kernel_rfl) (fun _ => by kernel_rfl) ?_
      refine WO.join (l1 := [11, 12, 13]) (l2 := [14, 15, 16, 17, 18, 19, 20, 21]) (J := fun frx wx => frx = [(18, (.bool ((((decide (p0 < 1)) || (decide (p0 > 4))) || (decide (p1 < 1))) || (decide (p1 > 4))))), (0, (.int .i64 p0)), (1, (.int .i64 p1))] ∧ w = wx) ?restm5 ?waysm5
      case waysm5 =>
        refine WO.caseb (((decide (p0 < 1)) || (decide (p0 > 4))) || (decide (p1 < 1))) (fun hc => ?_) (fun hc => ?_)
        · skip
          refine WO.reslot 15 rfl (show Value.bool (((decide (p0 < 1)) || (decide (p0 > 4))) || (decide (p1 < 1))) = Value.bool true by rw [hc]) ?_
          refine WO.pass rfl (by kernel_rfl) rfl ?_
          refine WO.pass rfl (by kernel_rfl) rfl ?_
          refine WO.vals [(13, 18, (.bool true))] (by kernel_rfl) (fun _ => by kernel_rfl) ?_
          refine WO.weaken (fr' := [(18, (.bool ((((decide (p0 < 1)) || (decide (p0 > 4))) || (decide (p1 < 1))) || (decide (p1 > 4))))), (0, (.int .i64 p0)), (1, (.int .i64 p1))]) (WO.meet ⟨rfl, rfl⟩) (Sub.cons (by rw [hc]; rfl) (Sub.cons rfl (Sub.cons rfl Sub.nil)))
        · skip
          refine WO.reslot 15 rfl (show Value.bool (((decide (p0 < 1)) || (decide (p0 > 4))) || (decide (p1 < 1))) = Value.bool false by rw [hc]) ?_
          refine WO.vals [(11, 16, (.int .i64 p1)), (12, 17, (.bool (decide (p1 > 4)))), (13, 18, (.bool (decide (p1 > 4))))] (by kernel_rfl) (fun _ => by kernel_rfl) ?_
          refine WO.weaken (fr' := [(18, (.bool ((((decide (p0 < 1)) || (decide (p0 > 4))) || (decide (p1 < 1))) || (decide (p1 > 4))))), (0, (.int .i64 p0)), (1, (.int .i64 p1))]) (WO.meet ⟨rfl, rfl⟩) (Sub.cons (by rw [hc]; rfl) (Sub.cons rfl (Sub.cons rfl Sub.nil)))
      case restm5 =>
        rintro _ _ ⟨rfl, rfl⟩
        refine WO.vals [(14, 19, (.bool ((((decide (p0 < 1)) || (decide (p0 > 4))) || (decide (p1 < 1))) || (decide (p1 > 4)))))] (by kernel_rfl) (fun _ => by kernel_rfl) ?_
        refine WO.join (l1 := [15, 16, 17]) (l2 := [18, 19, 20, 21]) (J := fun frx wx => frx = [(22, (.bool (((((decide (p0 < 1)) || (decide (p0 > 4))) || (decide (p1 < 1))) || (decide (p1 > 4))) || (p0 == 4)))), (0, (.int .i64 p0)), (1, (.int .i64 p1))] ∧ w = wx) ?restm7 ?waysm7
        case waysm7 =>
          refine WO.caseb ((((decide (p0 < 1)) || (decide (p0 > 4))) || (decide (p1 < 1))) || (decide (p1 > 4))) (fun hc => ?_) (fun hc => ?_)
          · skip
            refine WO.reslot 19 rfl (show Value.bool ((((decide (p0 < 1)) || (decide (p0 > 4))) || (decide (p1 < 1))) || (decide (p1 > 4))) = Value.bool true by rw [hc]) ?_
            refine WO.pass rfl (by kernel_rfl) rfl ?_
            refine WO.pass rfl (by kernel_rfl) rfl ?_
            refine WO.vals [(17, 22, (.bool true))] (by kernel_rfl) (fun _ => by kernel_rfl) ?_
            refine WO.weaken (fr' := [(22, (.bool (((((decide (p0 < 1)) || (decide (p0 > 4))) || (decide (p1 < 1))) || (decide (p1 > 4))) || (p0 == 4)))), (0, (.int .i64 p0)), (1, (.int .i64 p1))]) (WO.meet ⟨rfl, rfl⟩) (Sub.cons (by rw [hc]; rfl) (Sub.cons rfl (Sub.cons rfl Sub.nil)))
          · skip
            refine WO.reslot 19 rfl (show Value.bool ((((decide (p0 < 1)) || (decide (p0 > 4))) || (decide (p1 < 1))) || (decide (p1 > 4))) = Value.bool false by rw [hc]) ?_
            refine WO.vals [(15, 20, (.int .i64 p0)), (16, 21, (.bool (p0 == 4))), (17, 22, (.bool (p0 == 4)))] (by kernel_rfl) (fun _ => by kernel_rfl) ?_
            refine WO.weaken (fr' := [(22, (.bool (((((decide (p0 < 1)) || (decide (p0 > 4))) || (decide (p1 < 1))) || (decide (p1 > 4))) || (p0 == 4)))), (0, (.int .i64 p0)), (1, (.int .i64 p1))]) (WO.meet ⟨rfl, rfl⟩) (Sub.cons (by rw [hc]; rfl) (Sub.cons rfl (Sub.cons rfl Sub.nil)))
        case restm7 =>
          rintro _ _ ⟨rfl, rfl⟩
          refine WO.vals [(18, 23, (.bool (((((decide (p0 < 1)) || (decide (p0 > 4))) || (decide (p1 < 1))) || (decide (p1 > 4))) || (p0 == 4))))] (by kernel_rfl) (fun _ => by kernel_rfl) ?_
          refine WO.join (l1 := [19, 20, 21]) (l2 := []) (J := fun frx wx => frx = [(26, (.bool ((((((decide (p0 < 1)) || (decide (p0 > 4))) || (decide (p1 < 1))) || (decide (p1 > 4))) || (p0 == 4)) || (p1 == 4)))), (0, (.int .i64 p0)), (1, (.int .i64 p1))] ∧ w = wx) ?restm9 ?waysm9
          case waysm9 =>
            refine WO.caseb (((((decide (p0 < 1)) || (decide (p0 > 4))) || (decide (p1 < 1))) || (decide (p1 > 4))) || (p0 == 4)) (fun hc => ?_) (fun hc => ?_)
            · skip
              refine WO.reslot 23 rfl (show Value.bool (((((decide (p0 < 1)) || (decide (p0 > 4))) || (decide (p1 < 1))) || (decide (p1 > 4))) || (p0 == 4)) = Value.bool true by rw [hc]) ?_
              refine WO.pass rfl (by kernel_rfl) rfl ?_
              refine WO.pass rfl (by kernel_rfl) rfl ?_
              refine WO.vals [(21, 26, (.bool true))] (by kernel_rfl) (fun _ => by kernel_rfl) ?_
              refine WO.weaken (fr' := [(26, (.bool ((((((decide (p0 < 1)) || (decide (p0 > 4))) || (decide (p1 < 1))) || (decide (p1 > 4))) || (p0 == 4)) || (p1 == 4)))), (0, (.int .i64 p0)), (1, (.int .i64 p1))]) (WO.meet ⟨rfl, rfl⟩) (Sub.cons (by rw [hc]; rfl) (Sub.cons rfl (Sub.cons rfl Sub.nil)))
            · skip
              refine WO.reslot 23 rfl (show Value.bool (((((decide (p0 < 1)) || (decide (p0 > 4))) || (decide (p1 < 1))) || (decide (p1 > 4))) || (p0 == 4)) = Value.bool false by rw [hc]) ?_
              refine WO.vals [(19, 24, (.int .i64 p1)), (20, 25, (.bool (p1 == 4))), (21, 26, (.bool (p1 == 4)))] (by kernel_rfl) (fun _ => by kernel_rfl) ?_
              refine WO.weaken (fr' := [(26, (.bool ((((((decide (p0 < 1)) || (decide (p0 > 4))) || (decide (p1 < 1))) || (decide (p1 > 4))) || (p0 == 4)) || (p1 == 4)))), (0, (.int .i64 p0)), (1, (.int .i64 p1))]) (WO.meet ⟨rfl, rfl⟩) (Sub.cons (by rw [hc]; rfl) (Sub.cons rfl (Sub.cons rfl Sub.nil)))
          case restm9 =>
            rintro _ _ ⟨rfl, rfl⟩
            refine WO.nil ?_
            refine En.next ?_
            refine W.cond (b := ((((((decide (p0 < 1)) || (decide (p0 > 4))) || (decide (p1 < 1))) || (decide (p1 > 4))) || (p0 == 4)) || (p1 == 4))) rfl rfl (fun hc => ?_) (fun hc => ?_)
            · replace hr := cond_t hc hr
              refine W.seq ?_
              refine W.region (l := [0]) (by kernel_rfl) ?_
              refine WO.vals [(0, 4, (.bool false))] (by kernel_rfl) (fun _ => by kernel_rfl) ?_
              refine WO.nil ?_
              refine En.next ?_
              refine W.ret ?_
              refine En.nx_ret ?_
              have he := Option.some.inj hr
              subst r
              exact En.ret1 rfl (.bool false) rfl ⟨I, rfl, Mem.Le.refl _, hS⟩
            · replace hr := cond_f hc hr
              refine W.skip ?_
              refine En.next ?_
              refine W.seq ?_
              refine W.region (l := [0, 1, 2, 3, 4, 5, 6, 7, 8, 9, 10, 11]) (by kernel_rfl) ?_
              refine WO.vals [(0, 27, (.int .i64 p0)), (1, 28, (.bool (p0 == 1))), (2, 29, (.bool (p0 == 1)))] (by kernel_rfl) (fun _ => by kernel_rfl) ?_
              refine WO.join (l1 := [3, 4, 5]) (l2 := [6, 7, 8, 9, 10, 11]) (J := fun frx wx => frx = [(32, (.bool ((p0 == 1) || (p1 == 1)))), (0, (.int .i64 p0)), (1, (.int .i64 p1))] ∧ w = wx) ?restm11 ?waysm11
              case waysm11 =>
                refine WO.caseb (p0 == 1) (fun hc => ?_) (fun hc => ?_)
                · skip
                  refine WO.reslot 29 rfl (show Value.bool (p0 == 1) = Value.bool true by rw [hc]) ?_
                  refine WO.pass rfl (by kernel_rfl) rfl ?_
                  refine WO.pass rfl (by kernel_rfl) rfl ?_
                  refine WO.vals [(5, 32, (.bool true))] (by kernel_rfl) (fun _ => by kernel_rfl) ?_
                  refine WO.weaken (fr' := [(32, (.bool ((p0 == 1) || (p1 == 1)))), (0, (.int .i64 p0)), (1, (.int .i64 p1))]) (WO.meet ⟨rfl, rfl⟩) (Sub.cons (by rw [hc]; rfl) (Sub.cons rfl (Sub.cons rfl Sub.nil)))
                · skip
                  refine WO.reslot 29 rfl (show Value.bool (p0 == 1) = Value.bool false by rw [hc]) ?_
                  refine WO.vals [(3, 30, (.int .i64 p1)), (4, 31, (.bool (p1 == 1))), (5, 32, (.bool (p1 == 1)))] (by kernel_rfl) (fun _ => by kernel_rfl) ?_
                  refine WO.weaken (fr' := [(32, (.bool ((p0 == 1) || (p1 == 1)))), (0, (.int .i64 p0)), (1, (.int .i64 p1))]) (WO.meet ⟨rfl, rfl⟩) (Sub.cons (by rw [hc]; rfl) (Sub.cons rfl (Sub.cons rfl Sub.nil)))
              case restm11 =>
                rintro _ _ ⟨rfl, rfl⟩
                refine WO.vals [(6, 33, (.bool ((p0 == 1) || (p1 == 1))))] (by kernel_rfl) (fun _ => by kernel_rfl) ?_
                refine WO.join (l1 := [7, 8, 9, 10]) (l2 := [11]) (J := fun frx wx => frx = [(37, (.bool (((p0 == 1) || (p1 == 1)) || (p0 == p1))))] ∧ w = wx) ?restm13 ?waysm13
                case waysm13 =>
                  refine WO.caseb ((p0 == 1) || (p1 == 1)) (fun hc => ?_) (fun hc => ?_)
                  · skip
                    refine WO.reslot 33 rfl (show Value.bool ((p0 == 1) || (p1 == 1)) = Value.bool true by rw [hc]) ?_
                    refine WO.pass rfl (by kernel_rfl) rfl ?_
                    refine WO.pass rfl (by kernel_rfl) rfl ?_
                    refine WO.pass rfl (by kernel_rfl) rfl ?_
                    refine WO.vals [(10, 37, (.bool true))] (by kernel_rfl) (fun _ => by kernel_rfl) ?_
                    refine WO.weaken (fr' := [(37, (.bool (((p0 == 1) || (p1 == 1)) || (p0 == p1))))]) (WO.meet ⟨rfl, rfl⟩) (Sub.cons (by rw [hc]; rfl) Sub.nil)
                  · skip
                    refine WO.reslot 33 rfl (show Value.bool ((p0 == 1) || (p1 == 1)) = Value.bool false by rw [hc]) ?_
                    refine WO.vals [(7, 34, (.int .i64 p0)), (8, 35, (.int .i64 p1)), (9, 36, (.bool (p0 == p1))), (10, 37, (.bool (p0 == p1)))] (by kernel_rfl) (fun _ => by kernel_rfl) ?_
                    refine WO.weaken (fr' := [(37, (.bool (((p0 == 1) || (p1 == 1)) || (p0 == p1))))]) (WO.meet ⟨rfl, rfl⟩) (Sub.cons (by rw [hc]; rfl) Sub.nil)
                case restm13 =>
                  rintro _ _ ⟨rfl, rfl⟩
                  refine WO.vals [(11, 4, (.bool (((p0 == 1) || (p1 == 1)) || (p0 == p1))))] (by kernel_rfl) (fun _ => by kernel_rfl) ?_
                  refine WO.nil ?_
                  refine En.next ?_
                  refine W.ret ?_
                  have he := Option.some.inj hr
                  subst r
                  exact En.ret1 rfl (.bool (((p0 == 1) || (p1 == 1)) || (p0 == p1))) rfl ⟨I, rfl, Mem.Le.refl _, hS⟩
noncomputable def mdl_Locks_Holders (p0 : mdl_Locks) (p1 : ByteArray) : Option (List Int) := (mdl_Locks_dead p0).bind (fun (r8 : Bool) => (some ((mget sEq p0.at_ p1).getD z_mdl_place)).bind (fun (x9 : mdl_place) => (mdl_whos x9.held).bind (fun (r15 : List Int) => some r15)))
set_option maxHeartbeats 1000000 in
theorem mdl_Locks_Holders_ok {E w : World} {I : Mem} {Os : List Mem} {p0 : mdl_Locks} {p1 : ByteArray} {b_p0 : Nat} {w_p0 : W_mdl_Locks} (h_p0 : ok_mdl_Locks I p0 w_p0) (hS : St E w I ((Gv.one b_p0 (.cells (cs_mdl_Locks p0 w_p0).toArray 56 (0, 0))) :: (w_p0.at_.C) :: Os)) {r : (List Int)} (hr : mdl_Locks_Holders p0 p1 = some r) :
    Calls P 27 #[(.pointer (some ⟨b_p0, 0, none⟩)), (.string p1)] w (fun e w' => ∃ (I' : Mem) (ra0 : Option Addr) (rc0 : Nat), e = .returned (.slice ra0 r.length rc0) ∧ I.Le I' ∧ St E w' I' ((Gv.one b_p0 (.cells (cs_mdl_Locks p0 w_p0).toArray 56 (0, 0))) :: w_p0.at_.C :: Os) ∧ RSl 1 (RInt .i64) I' ra0 rc0 r) := by
  refine calls_W (args := [(.pointer (some ⟨b_p0, 0, none⟩)), (.string p1)]) (fn := Try.f27) rfl rfl rfl ?_
  unfold mdl_Locks_Holders at hr
  refine W.seq ?_
  refine W.region (l := [0]) (by kernel_rfl) ?_
  refine WO.vals [(0, 4, (.slice none 0 0))] (by kernel_rfl) (fun _ => by kernel_rfl) ?_
  refine WO.nil ?_
  refine En.next ?_
  refine W.seq ?_
  refine W.seq ?_
  refine W.region (l := [0, 1]) (by kernel_rfl) ?_
  refine WO.vals [(0, 5, (.pointer (some ⟨b_p0, 0, none⟩)))] (by kernel_rfl) (fun _ => by kernel_rfl) ?_
  have hS1 := hS.front1
  have hS2 := hS1.front1
  obtain ⟨r8, hx_r3, hr⟩ := bind_some hr
  obtain rfl : false = r8 := Option.some.inj hx_r3
  refine WO.call rfl (by kernel_rfl) rfl (f := 28) (args := #[(.pointer (some ⟨b_p0, 0, none⟩))]) (by kernel_rfl) (mdl_Locks_dead_ok h_p0 hS2 hx_r3) ?_
  rintro _ w4 ⟨I5, rfl, hl6, hS7⟩
  refine ⟨_, rfl, trivial, ?_⟩
  refine WO.nil ?_
  refine En.next ?_
  refine W.cond (b := false) rfl rfl (fun hc => ?_) (fun hc => ?_)
  · cases hc
  clear hc
  refine W.skip ?_
  refine En.next ?_
  refine W.seq ?_
  refine W.region (l := [0, 1, 2, 3, 4, 5, 6, 7, 8]) (by kernel_rfl) ?_
  refine WO.vals [(0, 7, (.pointer (some ⟨b_p0, 0, none⟩))), (1, 8, (.pointer (some ⟨b_p0, 0, none⟩))), (2, 9, (.pointer (some ⟨b_p0, 0, none⟩)))] (by kernel_rfl) (fun _ => by kernel_rfl) ?_
  refine WO.load rfl (by kernel_rfl) (by kernel_rfl) rfl (v := (.map (some w_p0.at_.m))) (fun w' hw' => cell_one ((rd_f (hS7.rd (List.Mem.head _))) w' hw') (by kernel_rfl)) ?_
  refine WO.vals [(4, 11, (.string p1))] (by kernel_rfl) (fun _ => by kernel_rfl) ?_
  obtain ⟨x9, hx_x9, hr⟩ := bind_some hr
  obtain ⟨v_x9, hv_x9, hq_x9⟩ := OwnMap.lookup (OwnMap.mono h_p0.at_ hl6) (t := 54) (kt := 9) (et := 68) (by kernel_rfl) (keyLaw_str (kt := 9) (by kernel_rfl)) p1 (zv := (.agg (cs_mdl_place z_mdl_place zw_mdl_place).toArray)) (z0 := z_mdl_place) (by kernel_rfl) ⟨(cs_mdl_place z_mdl_place zw_mdl_place), rfl, ⟨zw_mdl_place, rfl, zok_mdl_place⟩⟩
  rw [Option.some.inj hx_x9] at hv_x9
  obtain ⟨_, rfl, hv_x9⟩ := hv_x9
  obtain ⟨w_x9, rfl, h_x9⟩ := hv_x9
  refine WO.lookup rfl (by kernel_rfl) rfl rfl hq_x9 ((rd_f (hS7.rd (List.Mem.tail _ (List.Mem.head _))))) (.agg (cs_mdl_place x9 w_x9).toArray) rfl ?_
  refine WO.vals [(6, 13, (.slice w_x9.held.a x9.held.length w_x9.held.c))] (by kernel_rfl) (fun _ => by kernel_rfl) ?_
  obtain ⟨r15, hx_r10, hr⟩ := bind_some hr
  refine WO.call rfl (by kernel_rfl) rfl (f := 56) (args := #[(.slice w_x9.held.a x9.held.length w_x9.held.c)]) (by kernel_rfl) (mdl_whos_ok h_x9.held hS7 hx_r10) ?_
  rintro _ w11 ⟨I12, a_r15, c_r15, rfl, hl13, hS14, h_r15⟩
  refine ⟨_, rfl, trivial, ?_⟩
  refine WO.vals [(8, 4, (.slice a_r15 r15.length c_r15))] (by kernel_rfl) (fun _ => by kernel_rfl) ?_
  refine WO.nil ?_
  refine En.next ?_
  refine W.ret ?_
  have he := Option.some.inj hr
  subst r
  exact En.ret1 rfl (.slice a_r15 r15.length c_r15) rfl ⟨I12, a_r15, c_r15, rfl, (hl6.trans hl13), hS14, h_r15⟩
end Go.Proofs.Ytdmefifamlpbiaa
