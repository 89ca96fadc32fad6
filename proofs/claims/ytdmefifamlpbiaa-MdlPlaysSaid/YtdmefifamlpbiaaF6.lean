/- What functions of the program come to, each by a plain one. Conditions: none. -/
import Derived.Test.YtdmefifamlpbiaaF5
set_option maxRecDepth 100000
namespace Go.Proofs.Ytdmefifamlpbiaa
open Go.Gv
noncomputable def registrarref21_Locks_Blockers (p0 : registrarref21_Locks) (p1 : Int) : Option (List Int) := (registrarref21_Locks_Waits p0 p1).bind (fun ((r8, r9) : api_Need × Bool) => (bif (!r9) then some ([] : List Int) else (mk 1 9).bind (fun (n17 : Nat) => (forE (fun (i29 : Nat) => fun (s : Bool × (List Bool)) => match s with | (s27, s28) => ((idx p0.L (i29 : Int)).bind (fun (x43 : registrarref21_One) => (bif (!sEq x43.Path r8.Path) then some (s27, s28) else ((bif x43.Held then (registrarref21_Goes x43.Mode r8.Mode).bind (fun (r62 : Bool) => some (!r62)) else some false)).bind (fun (j53 : Bool) => ((bif j53 then (idx s28 x43.Who).bind (fun (x77 : Bool) => some (s28.set (x43.Who).toNat true)) else some s28)).bind (fun (j73 : List Bool) => ((bif ((!x43.Held) && (!(s27 || (x43.Who == p1)))) then (idx j73 x43.Who).bind (fun (x98 : Bool) => some (j73.set (x43.Who).toNat true)) else some j73)).bind (fun (j94 : List Bool) => some ((s27 || (x43.Who == p1)), j94))))))).bind (fun ((s50, s51) : Bool × (List Bool)) => some (s50, s51))) p0.L.length 0 (false, (List.replicate n17 false))).bind (fun ((s27, s28) : Bool × (List Bool)) => (loopO (fun (s : (List Int) × Int) => match s with | (s120, s121) => (bif (decide (s121 < 9)) then (idx s28 s121).bind (fun (x133 : Bool) => ((bif x133 then (app 8 s120 ([s121] : List Int)).bind (fun (x146 : List Int) => some x146) else some s120)).bind (fun (j134 : List Int) => some (.inl (j134, (w64 (s121 + 1)))))) else some (.inr s120))) (([] : List Int), 1)).bind (fun (s161 : List Int) => some s161)))))
set_option maxHeartbeats 1000000 in
theorem registrarref21_Locks_Blockers_ok {E w : World} {I : Mem} {Os : List Mem} {p0 : registrarref21_Locks} {p1 : Int} {b_p0 : Nat} {w_p0 : W_registrarref21_Locks} (h_p0 : ok_registrarref21_Locks I p0 w_p0) (hS : St E w I ((Gv.one b_p0 (.cells (cs_registrarref21_Locks p0 w_p0).toArray 51 (0, 0))) :: (w_p0.L.C) :: Os)) {r : (List Int)} (hr : registrarref21_Locks_Blockers p0 p1 = some r) :
    Calls P 52 #[(.pointer (some ⟨b_p0, 0, none⟩)), (.int .i64 p1)] w (fun e w' => ∃ (I' : Mem) (ra0 : Option Addr) (rc0 : Nat), e = .returned (.slice ra0 r.length rc0) ∧ I.Le I' ∧ St E w' I' ((Gv.one b_p0 (.cells (cs_registrarref21_Locks p0 w_p0).toArray 51 (0, 0))) :: w_p0.L.C :: Os) ∧ RSl 1 (RInt .i64) I' ra0 rc0 r) := by
  refine calls_W (args := [(.pointer (some ⟨b_p0, 0, none⟩)), (.int .i64 p1)]) (fn := Try.f52) rfl rfl rfl ?_
  unfold registrarref21_Locks_Blockers at hr
  refine W.seq ?_
  refine W.region (l := [0]) (by kernel_rfl) ?_
  refine WO.vals [(0, 4, (.slice none 0 0))] (by kernel_rfl) (fun _ => by kernel_rfl) ?_
  refine WO.nil ?_
  refine En.next ?_
  refine W.seq ?_
  refine W.region (l := [0, 1, 2, 3, 4, 5, 6, 7, 8]) (by kernel_rfl) ?_
  refine WO.vals [(0, 14, (.pointer (some ⟨b_p0, 0, none⟩))), (1, 15, (.int .i64 p1))] (by kernel_rfl) (fun _ => by kernel_rfl) ?_
  have hS1 := hS.front1
  have hS2 := hS1.front1
  obtain ⟨⟨r8, r9⟩, hx_r3, hr⟩ := bind_some hr
  refine WO.call rfl (by kernel_rfl) rfl (f := 49) (args := #[(.pointer (some ⟨b_p0, 0, none⟩)), (.int .i64 p1)]) (by kernel_rfl) (registrarref21_Locks_Waits_ok h_p0 hS2 hx_r3) ?_
  rintro _ w4 ⟨I5, rfl, hl6, hS7⟩
  refine ⟨_, rfl, trivial, ?_⟩
  refine WO.vals [(3, 13, (.tuple #[(.agg (cs_api_Need r8).toArray), (.bool r9)])), (4, 17, (.agg (cs_api_Need r8).toArray)), (5, 18, (.bool r9))] (by kernel_rfl) (fun _ => by kernel_rfl) ?_
  refine WO.new hS7 rfl (by kernel_rfl) rfl (.cells (cs_api_Need z_api_Need).toArray 43 (0, 0)) (fun b => .pointer (some ⟨b, 0, none⟩)) (by kernel_rfl) (fun _ _ _ => trivial) ?_
  intro b10 w13 hS12
  refine WO.storeBox hS12 rfl (by kernel_rfl) rfl 0 rfl rfl (by kernel_rfl) (by kernel_rfl) (by kernel_rfl) ((cs_api_Need r8).toArray) (by kernel_rfl) (fun _ _ => trivial) ?_
  intro w15 hS14
  refine WO.vals [(8, 6, (.bool r9))] (by kernel_rfl) (fun _ => by kernel_rfl) ?_
  refine WO.nil ?_
  refine En.next ?_
  refine W.seq ?_
  refine W.seq ?_
  refine W.region (l := [0, 1]) (by kernel_rfl) ?_
  refine WO.vals [(0, 19, (.bool r9)), (1, 20, (.bool (!r9)))] (by kernel_rfl) (fun _ => by kernel_rfl) ?_
  refine WO.nil ?_
  refine En.next ?_
  refine W.cond (b := (!r9)) rfl rfl (fun hc => ?_) (fun hc => ?_)
  · replace hr := cond_t hc hr
    refine W.seq ?_
    refine W.region (l := [0]) (by kernel_rfl) ?_
    refine WO.vals [(0, 4, (.slice none 0 0))] (by kernel_rfl) (fun _ => by kernel_rfl) ?_
    refine WO.nil ?_
    refine En.next ?_
    refine W.ret ?_
    refine En.nx_ret ?_
    have hS16 := hS14.drop
    have he := Option.some.inj hr
    subst r
    exact En.ret1 rfl (.slice none 0 0) rfl ⟨I5, none, 0, rfl, hl6, hS16, SlAt.nil⟩
  · replace hr := cond_f hc hr
    refine W.skip ?_
    refine En.next ?_
    refine W.seq ?_
    refine W.region (l := [0, 1]) (by kernel_rfl) ?_
    obtain ⟨n17, hx_n17, hr⟩ := bind_some hr
    obtain ⟨h0_n17, he_n17⟩ := mk_some hx_n17
    refine WO.make (rel := RBool) hS14 rfl (by kernel_rfl) rfl (by kernel_rfl) (T := 4) (sz := 1) (b := 1) (zs := #[(.bool false)]) (by kernel_rfl) rfl rfl n17 (congrArg (Value.int .i64) he_n17) (congrArg (Value.int .i64) he_n17) h0_n17 rfl (z0 := false) rfl (fun _ _ _ => trivial) ?_
    intro a18 w22 C19 hS21 ho20
    refine WO.reslot 21 rfl (show Value.slice a18 n17 n17 = Value.slice a18 (List.replicate n17 false).length n17 by simp only [List.length_replicate]) ?_
    refine WO.vals [(1, 7, (.slice a18 (List.replicate n17 false).length n17))] (by kernel_rfl) (fun _ => by kernel_rfl) ?_
    refine WO.nil ?_
    refine En.next ?_
    refine W.seq ?_
    refine W.region (l := [0]) (by kernel_rfl) ?_
    refine WO.vals [(0, 8, (.bool false))] (by kernel_rfl) (fun _ => by kernel_rfl) ?_
    refine WO.nil ?_
    refine En.next ?_
    refine W.seq ?_
    refine W.seq ?_
    refine W.region (l := [0]) (by kernel_rfl) ?_
    refine WO.vals [(0, 9, (.int .i64 0))] (by kernel_rfl) (fun _ => by kernel_rfl) ?_
    refine WO.nil ?_
    refine En.next ?_
    refine W.block ?_
    obtain ⟨⟨s27, s28⟩, hloop30, hr⟩ := bind_some hr
    have hS31 := hS21.front1
    have hS32 := hS31.front3
    have hS33 := hS32.front3
    have hlt37 := ((h_p0.L.mono hl6).sl).len_lt
    refine W.weaken (fr' := [(0, (.pointer (some ⟨b_p0, 0, none⟩))), (1, (.int .i64 p1)), (5, (.pointer (some ⟨b10, 0, none⟩))), (7, (.slice a18 (List.replicate n17 false).length n17)), (8, (.bool false)), (9, (.int .i64 ((0 : Nat) : Int)))]) (W.forE (m := p0.L.length) hloop30 (fun (i29 : Nat) => fun (s : Bool × (List Bool)) fr w => match s with | (s27, s28) => ∃ (I25 : Mem), ∃ (C_s28 : Mem), fr = [(0, (.pointer (some ⟨b_p0, 0, none⟩))), (1, (.int .i64 p1)), (5, (.pointer (some ⟨b10, 0, none⟩))), (7, (.slice a18 s28.length n17)), (8, (.bool s27)), (9, (.int .i64 (i29 : Int)))] ∧ I5.Le I25 ∧ St E w I25 ((Gv.one b_p0 (.cells (cs_registrarref21_Locks p0 w_p0).toArray 51 (0, 0))) :: (w_p0.L.C) :: (Gv.one b10 (.cells (cs_api_Need r8).toArray 43 (0, 0))) :: (C_s28) :: Os) ∧ OwnSl 4 1 RBool I25 C_s28 a18 n17 s28) ⟨I5, C19, rfl, Mem.Le.refl _, hS33, ho20⟩ ?roundt24 ?lastt24) (Sub.cons rfl (Sub.cons rfl (Sub.cons rfl (Sub.cons rfl (Sub.cons rfl (Sub.cons rfl Sub.nil))))))
    case roundt24 =>
      rintro i29 ⟨s27, s28⟩ _ w34 hi38 ⟨I25, C_s28, rfl, hl26, hS35, h_s28⟩ x36 hr1
      refine W.seq ?_
      refine W.seq ?_
      refine W.region (l := [0, 1, 2, 3, 4, 5, 6]) (by kernel_rfl) ?_
      refine WO.vals [(0, 22, (.int .i64 (i29 : Int))), (1, 23, (.pointer (some ⟨b_p0, 0, none⟩))), (2, 24, (.pointer (some ⟨b_p0, 0, none⟩))), (3, 25, (.pointer (some ⟨b_p0, 0, none⟩)))] (by kernel_rfl) (fun _ => by kernel_rfl) ?_
      refine WO.load rfl (by kernel_rfl) (by kernel_rfl) rfl (v := (.slice w_p0.L.a p0.L.length w_p0.L.c)) (fun w' hw' => cell_one ((rd_f (hS35.rd (List.Mem.head _))) w' hw') (by kernel_rfl)) ?_
      refine WO.vals [(5, 27, (.int .i64 (p0.L.length : Int))), (6, 28, (.bool (decide ((i29 : Int) < (p0.L.length : Int)))))] (by kernel_rfl) (fun _ => by kernel_rfl) ?_
      refine WO.nil ?_
      refine En.next ?_
      refine W.cond (b := (decide ((i29 : Int) < (p0.L.length : Int)))) rfl rfl (fun hc => ?_) (fun hc => ?_)
      rotate_left
      · exact absurd hc (by first | (simp; done) | (simp; omega))
      clear hc
      refine W.skip ?_
      refine En.next ?_
      refine W.seq ?_
      obtain ⟨j39, hr2, hr1⟩ := bind_some hr1
      refine W.join (J := (fun fr w => ∃ (s50 : Bool), ∃ (s51 : List Bool), ∃ (I41 : Mem), ∃ (C_s51 : Mem), (s50, s51) = j39 ∧ fr = [(0, (.pointer (some ⟨b_p0, 0, none⟩))), (1, (.int .i64 p1)), (5, (.pointer (some ⟨b10, 0, none⟩))), (7, (.slice a18 s51.length n17)), (8, (.bool s50)), (9, (.int .i64 (i29 : Int)))] ∧ I25.Le I41 ∧ St E w I41 ((Gv.one b_p0 (.cells (cs_registrarref21_Locks p0 w_p0).toArray 51 (0, 0))) :: (w_p0.L.C) :: (Gv.one b10 (.cells (cs_api_Need r8).toArray 43 (0, 0))) :: (C_s51) :: Os) ∧ OwnSl 4 1 RBool I41 C_s51 a18 n17 s51)) ?restj39 ?waysj39
      case waysj39 =>
        refine W.block ?_
        refine W.seq ?_
        refine W.region (l := [0, 1, 2, 3, 4, 5, 6, 7, 8]) (by kernel_rfl) ?_
        refine WO.vals [(0, 31, (.pointer (some ⟨b_p0, 0, none⟩))), (1, 32, (.pointer (some ⟨b_p0, 0, none⟩))), (2, 33, (.pointer (some ⟨b_p0, 0, none⟩)))] (by kernel_rfl) (fun _ => by kernel_rfl) ?_
        refine WO.load rfl (by kernel_rfl) (by kernel_rfl) rfl (v := (.slice w_p0.L.a p0.L.length w_p0.L.c)) (fun w' hw' => cell_one ((rd_f (hS35.rd (List.Mem.head _))) w' hw') (by kernel_rfl)) ?_
        refine WO.vals [(4, 35, (.int .i64 (i29 : Int)))] (by kernel_rfl) (fun _ => by kernel_rfl) ?_
        obtain ⟨x43, hx_x43, hr2⟩ := bind_some hr2
        obtain ⟨h0_x43, h1_x43, hx_x43⟩ := idx_some hx_x43
        obtain ⟨ha_x43, cs_x43, hn_x43, hr_x43, hc_x43⟩ := ((h_p0.L.mono (hl6.trans hl26)).sl).el _ _ hx_x43
        obtain rfl := hr_x43
        refine WO.indexAddr (e := 98) (sz := 4) rfl (by kernel_rfl) (by kernel_rfl) (by kernel_rfl) rfl ha_x43 rfl h0_x43 h1_x43 ?_
        refine WO.loadN rfl (by kernel_rfl) (by kernel_rfl) rfl ((cs_registrarref21_One x43)) (by kernel_rfl) (fun w' hw' => hc_x43.cells (k := 0) (by kernel_rfl) rfl ((rd_f (hS35.rd (List.Mem.tail _ (List.Mem.head _)))) w' hw')) ?_
        refine WO.new hS35 rfl (by kernel_rfl) rfl (.cells (cs_registrarref21_One z_registrarref21_One).toArray 98 (0, 0)) (fun b => .pointer (some ⟨b, 0, none⟩)) (by kernel_rfl) (fun _ _ _ => trivial) ?_
        intro b44 w47 hS46
        refine WO.storeBox hS46 rfl (by kernel_rfl) rfl 0 rfl rfl (by kernel_rfl) (by kernel_rfl) (by kernel_rfl) ((cs_registrarref21_One x43).toArray) (by kernel_rfl) (fun _ _ => trivial) ?_
        intro w49 hS48
        refine WO.nil ?_
        refine En.next ?_
        refine W.seq ?_
        refine W.seq ?_
        refine W.region (l := [0, 1, 2, 3, 4]) (by kernel_rfl) ?_
        refine WO.vals [(0, 38, (.pointer (some ⟨b44, 2, none⟩)))] (by kernel_rfl) (fun _ => by kernel_rfl) ?_
        refine WO.load rfl (by kernel_rfl) (by kernel_rfl) rfl (v := (.string x43.Path)) (fun w' hw' => cell_one ((rd_f (hS48.rd (List.Mem.head _))) w' hw') (by kernel_rfl)) ?_
        refine WO.vals [(2, 40, (.pointer (some ⟨b10, 0, none⟩)))] (by kernel_rfl) (fun _ => by kernel_rfl) ?_
        refine WO.load rfl (by kernel_rfl) (by kernel_rfl) rfl (v := (.string r8.Path)) (fun w' hw' => cell_one ((rd_f (hS48.rd (List.Mem.tail _ (List.Mem.tail _ (List.Mem.tail _ (List.Mem.head _)))))) w' hw') (by kernel_rfl)) ?_
        refine WO.vals [(4, 42, (.bool (!sEq x43.Path r8.Path)))] (by kernel_rfl) (fun _ => by kernel_rfl) ?_
        refine WO.nil ?_
        refine En.next ?_
        refine W.cond (b := (!sEq x43.Path r8.Path)) rfl rfl (fun hc => ?_) (fun hc => ?_)
        · replace hr2 := cond_t hc hr2
          refine W.exit ?_
          refine En.nx_exit ?_
          refine En.in_hit ?_
          have hS52 := hS48.drop
          refine En.weaken (fr' := [(0, (.pointer (some ⟨b_p0, 0, none⟩))), (1, (.int .i64 p1)), (5, (.pointer (some ⟨b10, 0, none⟩))), (7, (.slice a18 s28.length n17)), (8, (.bool s27)), (9, (.int .i64 (i29 : Int)))]) (En.round ⟨s27, s28, I25, C_s28, Option.some.inj hr2, rfl, Mem.Le.refl _, hS52, h_s28⟩) (Sub.cons rfl (Sub.cons rfl (Sub.cons rfl (Sub.cons rfl (Sub.cons rfl (Sub.cons rfl Sub.nil))))))
        · replace hr2 := cond_f hc hr2
          refine W.skip ?_
          refine En.next ?_
          refine W.seq ?_
          refine W.seq ?_
          refine W.region (l := [0, 1, 2, 3, 4, 5, 6, 7, 8, 9]) (by kernel_rfl) ?_
          refine WO.vals [(0, 43, (.pointer (some ⟨b44, 3, none⟩)))] (by kernel_rfl) (fun _ => by kernel_rfl) ?_
          refine WO.load rfl (by kernel_rfl) (by kernel_rfl) rfl (v := (.bool x43.Held)) (fun w' hw' => cell_one ((rd_f (hS48.rd (List.Mem.head _))) w' hw') (by kernel_rfl)) ?_
          refine WO.vals [(2, 45, (.bool x43.Held))] (by kernel_rfl) (fun _ => by kernel_rfl) ?_
          obtain ⟨j53, hr3, hr2⟩ := bind_some hr2
          refine WO.join (l1 := [3, 4, 5, 6, 7, 8, 9]) (l2 := []) (J := (fun fr w => ∃ (I55 : Mem), fr = [(0, (.pointer (some ⟨b_p0, 0, none⟩))), (1, (.int .i64 p1)), (5, (.pointer (some ⟨b10, 0, none⟩))), (7, (.slice a18 s28.length n17)), (8, (.bool s27)), (9, (.int .i64 (i29 : Int))), (10, (.pointer (some ⟨b44, 0, none⟩))), (52, (.bool j53))] ∧ I25.Le I55 ∧ St E w I55 ((Gv.one b_p0 (.cells (cs_registrarref21_Locks p0 w_p0).toArray 51 (0, 0))) :: (w_p0.L.C) :: (Gv.one b10 (.cells (cs_api_Need r8).toArray 43 (0, 0))) :: (C_s28) :: (Gv.one b44 (.cells (cs_registrarref21_One x43).toArray 98 (0, 0))) :: Os))) ?restj53 ?waysj53
          case waysj53 =>
            refine WO.caseb x43.Held (fun hc => ?_) (fun hc => ?_)
            · replace hr3 := cond_t hc hr3
              refine WO.reslot 45 rfl (show Value.bool x43.Held = Value.bool true by rw [hc]) ?_
              refine WO.vals [(3, 46, (.pointer (some ⟨b44, 1, none⟩)))] (by kernel_rfl) (fun _ => by kernel_rfl) ?_
              refine WO.load rfl (by kernel_rfl) (by kernel_rfl) rfl (v := (.int .i64 x43.Mode)) (fun w' hw' => cell_one ((rd_f (hS48.rd (List.Mem.head _))) w' hw') (by kernel_rfl)) ?_
              refine WO.vals [(5, 48, (.pointer (some ⟨b10, 1, none⟩)))] (by kernel_rfl) (fun _ => by kernel_rfl) ?_
              refine WO.load rfl (by kernel_rfl) (by kernel_rfl) rfl (v := (.int .i64 r8.Mode)) (fun w' hw' => cell_one ((rd_f (hS48.rd (List.Mem.tail _ (List.Mem.tail _ (List.Mem.tail _ (List.Mem.head _)))))) w' hw') (by kernel_rfl)) ?_
              obtain ⟨r62, hx_r57, hr3⟩ := bind_some hr3
              refine WO.call rfl (by kernel_rfl) rfl (f := 16) (args := #[(.int .i64 x43.Mode), (.int .i64 r8.Mode)]) (by kernel_rfl) (registrarref21_Goes_ok  hS48 hx_r57) ?_
              rintro _ w58 ⟨I59, rfl, hl60, hS61⟩
              refine ⟨_, rfl, trivial, ?_⟩
              refine WO.vals [(8, 51, (.bool (!r62))), (9, 52, (.bool (!r62)))] (by kernel_rfl) (fun _ => by kernel_rfl) ?_
              have hS63 := hS61.front4
              have hS64 := hS63.front4
              have hS65 := hS64.front4
              have hS66 := hS65.front4
              have he := Option.some.inj hr3
              subst j53
              refine WO.weaken (fr' := [(0, (.pointer (some ⟨b_p0, 0, none⟩))), (1, (.int .i64 p1)), (5, (.pointer (some ⟨b10, 0, none⟩))), (7, (.slice a18 s28.length n17)), (8, (.bool s27)), (9, (.int .i64 (i29 : Int))), (10, (.pointer (some ⟨b44, 0, none⟩))), (52, (.bool (!r62)))]) (WO.meet ⟨I59, rfl, hl60, hS66⟩) (Sub.cons rfl (Sub.cons rfl (Sub.cons rfl (Sub.cons rfl (Sub.cons rfl (Sub.cons rfl (Sub.cons rfl (Sub.cons rfl Sub.nil))))))))
            · replace hr3 := cond_f hc hr3
              refine WO.reslot 45 rfl (show Value.bool x43.Held = Value.bool false by rw [hc]) ?_
              refine WO.pass rfl (by kernel_rfl) rfl ?_
              refine WO.pass rfl (by kernel_rfl) rfl ?_
              refine WO.pass rfl (by kernel_rfl) rfl ?_
              refine WO.pass rfl (by kernel_rfl) rfl ?_
              refine WO.pass rfl (by kernel_rfl) rfl ?_
              refine WO.pass rfl (by kernel_rfl) rfl ?_
              refine WO.vals [(9, 52, (.bool false))] (by kernel_rfl) (fun _ => by kernel_rfl) ?_
              have hS67 := hS48.front4
              have hS68 := hS67.front4
              have hS69 := hS68.front4
              have hS70 := hS69.front4
              have he := Option.some.inj hr3
              subst j53
              refine WO.weaken (fr' := [(0, (.pointer (some ⟨b_p0, 0, none⟩))), (1, (.int .i64 p1)), (5, (.pointer (some ⟨b10, 0, none⟩))), (7, (.slice a18 s28.length n17)), (8, (.bool s27)), (9, (.int .i64 (i29 : Int))), (10, (.pointer (some ⟨b44, 0, none⟩))), (52, (.bool false))]) (WO.meet ⟨I25, rfl, Mem.Le.refl _, hS70⟩) (Sub.cons rfl (Sub.cons rfl (Sub.cons rfl (Sub.cons rfl (Sub.cons rfl (Sub.cons rfl (Sub.cons rfl (Sub.cons rfl Sub.nil))))))))
          case restj53 =>
            rintro _ w71 ⟨I55, rfl, hl56, hS72⟩
            refine WO.nil ?_
            refine En.next ?_
            obtain ⟨j73, hr3, hr2⟩ := bind_some hr2
            refine W.join (J := (fun fr w => ∃ (I75 : Mem), ∃ (C_j73 : Mem), fr = [(0, (.pointer (some ⟨b_p0, 0, none⟩))), (1, (.int .i64 p1)), (5, (.pointer (some ⟨b10, 0, none⟩))), (7, (.slice a18 j73.length n17)), (8, (.bool s27)), (9, (.int .i64 (i29 : Int))), (10, (.pointer (some ⟨b44, 0, none⟩)))] ∧ I55.Le I75 ∧ St E w I75 ((Gv.one b_p0 (.cells (cs_registrarref21_Locks p0 w_p0).toArray 51 (0, 0))) :: (w_p0.L.C) :: (Gv.one b10 (.cells (cs_api_Need r8).toArray 43 (0, 0))) :: (C_j73) :: (Gv.one b44 (.cells (cs_registrarref21_One x43).toArray 98 (0, 0))) :: Os) ∧ OwnSl 4 1 RBool I75 C_j73 a18 n17 j73)) ?restj73 ?waysj73
            case waysj73 =>
              refine W.cond (b := j53) rfl rfl (fun hc => ?_) (fun hc => ?_)
              · replace hr3 := cond_t hc hr3
                refine W.region (l := [0, 1, 2, 3, 4]) (by kernel_rfl) ?_
                refine WO.vals [(0, 53, (.slice a18 s28.length n17)), (1, 54, (.pointer (some ⟨b44, 0, none⟩)))] (by kernel_rfl) (fun _ => by kernel_rfl) ?_
                refine WO.load rfl (by kernel_rfl) (by kernel_rfl) rfl (v := (.int .i64 x43.Who)) (fun w' hw' => cell_one ((rd_f (hS72.rd (List.Mem.tail _ (List.Mem.tail _ (List.Mem.tail _ (List.Mem.tail _ (List.Mem.head _))))))) w' hw') (by kernel_rfl)) ?_
                obtain ⟨x77, hx_x77, hr3⟩ := bind_some hr3
                obtain ⟨h0_x77, h1_x77, hx_x77⟩ := idx_some hx_x77
                obtain ⟨ha_x77, cs_x77, hn_x77, hr_x77, hc_x77⟩ := ((h_s28.mono hl56).sl).el _ _ hx_x77
                obtain rfl := hr_x77
                refine WO.indexAddr (e := 4) (sz := 1) rfl (by kernel_rfl) (by kernel_rfl) (by kernel_rfl) rfl ha_x77 rfl h0_x77 h1_x77 ?_
                have hS78 := hS72.front3
                refine WO.storeOwn hS78 (OwnSl.mono h_s28 hl56) rfl (by kernel_rfl) rfl hx_x77 (u' := true) 0 rfl rfl (by kernel_rfl) rfl rfl (fun cs hrel => (by obtain rfl := hrel; exact rfl)) (fun _ _ _ => trivial) ?_
                intro w80 C81 hS79 ho82
                refine WO.reslot 7 rfl (show Value.slice a18 s28.length n17 = Value.slice a18 (s28.set (x43.Who).toNat true).length n17 by simp only [List.length_set]) ?_
                refine WO.nil ?_
                have hS83 := hS79.front4
                have hS84 := hS83.front1
                have hS85 := hS84.front4
                have hS86 := hS85.front4
                have hS87 := hS86.front4
                have he := Option.some.inj hr3
                subst j73
                refine En.weaken (fr' := [(0, (.pointer (some ⟨b_p0, 0, none⟩))), (1, (.int .i64 p1)), (5, (.pointer (some ⟨b10, 0, none⟩))), (7, (.slice a18 (s28.set (x43.Who).toNat true).length n17)), (8, (.bool s27)), (9, (.int .i64 (i29 : Int))), (10, (.pointer (some ⟨b44, 0, none⟩)))]) (En.round ⟨I55, C81, rfl, Mem.Le.refl _, hS87, ho82⟩) (Sub.cons rfl (Sub.cons rfl (Sub.cons rfl (Sub.cons rfl (Sub.cons rfl (Sub.cons rfl (Sub.cons rfl Sub.nil)))))))
              · replace hr3 := cond_f hc hr3
                refine W.skip ?_
                have he := Option.some.inj hr3
                subst j73
                refine En.weaken (fr' := [(0, (.pointer (some ⟨b_p0, 0, none⟩))), (1, (.int .i64 p1)), (5, (.pointer (some ⟨b10, 0, none⟩))), (7, (.slice a18 s28.length n17)), (8, (.bool s27)), (9, (.int .i64 (i29 : Int))), (10, (.pointer (some ⟨b44, 0, none⟩)))]) (En.round ⟨I55, C_s28, rfl, Mem.Le.refl _, hS72, (OwnSl.mono h_s28 hl56)⟩) (Sub.cons rfl (Sub.cons rfl (Sub.cons rfl (Sub.cons rfl (Sub.cons rfl (Sub.cons rfl (Sub.cons rfl Sub.nil)))))))
            case restj73 =>
              rintro _ w88 ⟨I75, C_j73, rfl, hl76, hS89, h_j73⟩
              refine En.next ?_
              refine W.seq ?_
              refine W.region (l := [0, 1, 2, 3, 4, 5, 6, 7]) (by kernel_rfl) ?_
              refine WO.vals [(0, 57, (.bool s27)), (1, 58, (.bool s27))] (by kernel_rfl) (fun _ => by kernel_rfl) ?_
              refine WO.join (l1 := [2, 3, 4, 5, 6]) (l2 := [7]) (J := fun frx wx => frx = [(63, (.bool (s27 || (x43.Who == p1)))), (0, (.pointer (some ⟨b_p0, 0, none⟩))), (1, (.int .i64 p1)), (5, (.pointer (some ⟨b10, 0, none⟩))), (7, (.slice a18 j73.length n17)), (9, (.int .i64 (i29 : Int))), (10, (.pointer (some ⟨b44, 0, none⟩)))] ∧ w88 = wx) ?restm90 ?waysm90
              case waysm90 =>
                refine WO.caseb s27 (fun hc => ?_) (fun hc => ?_)
                · skip
                  refine WO.reslot 58 rfl (show Value.bool s27 = Value.bool true by rw [hc]) ?_
                  refine WO.pass rfl (by kernel_rfl) rfl ?_
                  refine WO.pass rfl (by kernel_rfl) rfl ?_
                  refine WO.pass rfl (by kernel_rfl) rfl ?_
                  refine WO.pass rfl (by kernel_rfl) rfl ?_
                  refine WO.vals [(6, 63, (.bool true))] (by kernel_rfl) (fun _ => by kernel_rfl) ?_
                  refine WO.weaken (fr' := [(63, (.bool (s27 || (x43.Who == p1)))), (0, (.pointer (some ⟨b_p0, 0, none⟩))), (1, (.int .i64 p1)), (5, (.pointer (some ⟨b10, 0, none⟩))), (7, (.slice a18 j73.length n17)), (9, (.int .i64 (i29 : Int))), (10, (.pointer (some ⟨b44, 0, none⟩)))]) (WO.meet ⟨rfl, rfl⟩) (Sub.cons (by rw [hc]; rfl) (Sub.cons rfl (Sub.cons rfl (Sub.cons rfl (Sub.cons rfl (Sub.cons rfl (Sub.cons rfl Sub.nil)))))))
                · skip
                  refine WO.reslot 58 rfl (show Value.bool s27 = Value.bool false by rw [hc]) ?_
                  refine WO.vals [(2, 59, (.pointer (some ⟨b44, 0, none⟩)))] (by kernel_rfl) (fun _ => by kernel_rfl) ?_
                  refine WO.load rfl (by kernel_rfl) (by kernel_rfl) rfl (v := (.int .i64 x43.Who)) (fun w' hw' => cell_one ((rd_f (hS89.rd (List.Mem.tail _ (List.Mem.tail _ (List.Mem.tail _ (List.Mem.tail _ (List.Mem.head _))))))) w' hw') (by kernel_rfl)) ?_
                  refine WO.vals [(4, 61, (.int .i64 p1)), (5, 62, (.bool (x43.Who == p1))), (6, 63, (.bool (x43.Who == p1)))] (by kernel_rfl) (fun _ => by kernel_rfl) ?_
                  refine WO.weaken (fr' := [(63, (.bool (s27 || (x43.Who == p1)))), (0, (.pointer (some ⟨b_p0, 0, none⟩))), (1, (.int .i64 p1)), (5, (.pointer (some ⟨b10, 0, none⟩))), (7, (.slice a18 j73.length n17)), (9, (.int .i64 (i29 : Int))), (10, (.pointer (some ⟨b44, 0, none⟩)))]) (WO.meet ⟨rfl, rfl⟩) (Sub.cons (by rw [hc]; rfl) (Sub.cons rfl (Sub.cons rfl (Sub.cons rfl (Sub.cons rfl (Sub.cons rfl (Sub.cons rfl Sub.nil)))))))
              case restm90 =>
                rintro _ _ ⟨rfl, rfl⟩
                refine WO.vals [(7, 8, (.bool (s27 || (x43.Who == p1))))] (by kernel_rfl) (fun _ => by kernel_rfl) ?_
                refine WO.nil ?_
                refine En.next ?_
                refine W.seq ?_
                refine W.region (l := [0, 1, 2, 3, 4, 5, 6]) (by kernel_rfl) ?_
                refine WO.vals [(0, 64, (.pointer (some ⟨b44, 3, none⟩)))] (by kernel_rfl) (fun _ => by kernel_rfl) ?_
                refine WO.load rfl (by kernel_rfl) (by kernel_rfl) rfl (v := (.bool x43.Held)) (fun w' hw' => cell_one ((rd_f (hS89.rd (List.Mem.tail _ (List.Mem.tail _ (List.Mem.tail _ (List.Mem.tail _ (List.Mem.head _))))))) w' hw') (by kernel_rfl)) ?_
                refine WO.vals [(2, 66, (.bool (!x43.Held))), (3, 67, (.bool (!x43.Held)))] (by kernel_rfl) (fun _ => by kernel_rfl) ?_
                refine WO.join (l1 := [4, 5, 6]) (l2 := []) (J := fun frx wx => frx = [(70, (.bool ((!x43.Held) && (!(s27 || (x43.Who == p1)))))), (0, (.pointer (some ⟨b_p0, 0, none⟩))), (1, (.int .i64 p1)), (5, (.pointer (some ⟨b10, 0, none⟩))), (7, (.slice a18 j73.length n17)), (8, (.bool (s27 || (x43.Who == p1)))), (9, (.int .i64 (i29 : Int))), (10, (.pointer (some ⟨b44, 0, none⟩)))] ∧ w88 = wx) ?restm92 ?waysm92
                case waysm92 =>
                  refine WO.caseb (!x43.Held) (fun hc => ?_) (fun hc => ?_)
                  · skip
                    refine WO.reslot 67 rfl (show Value.bool (!x43.Held) = Value.bool true by rw [hc]) ?_
                    refine WO.vals [(4, 68, (.bool (s27 || (x43.Who == p1)))), (5, 69, (.bool (!(s27 || (x43.Who == p1))))), (6, 70, (.bool (!(s27 || (x43.Who == p1)))))] (by kernel_rfl) (fun _ => by kernel_rfl) ?_
                    refine WO.weaken (fr' := [(70, (.bool ((!x43.Held) && (!(s27 || (x43.Who == p1)))))), (0, (.pointer (some ⟨b_p0, 0, none⟩))), (1, (.int .i64 p1)), (5, (.pointer (some ⟨b10, 0, none⟩))), (7, (.slice a18 j73.length n17)), (8, (.bool (s27 || (x43.Who == p1)))), (9, (.int .i64 (i29 : Int))), (10, (.pointer (some ⟨b44, 0, none⟩)))]) (WO.meet ⟨rfl, rfl⟩) (Sub.cons (by rw [hc]; rfl) (Sub.cons rfl (Sub.cons rfl (Sub.cons rfl (Sub.cons rfl (Sub.cons rfl (Sub.cons rfl (Sub.cons rfl Sub.nil))))))))
                  · skip
                    refine WO.reslot 67 rfl (show Value.bool (!x43.Held) = Value.bool false by rw [hc]) ?_
                    refine WO.pass rfl (by kernel_rfl) rfl ?_
                    refine WO.pass rfl (by kernel_rfl) rfl ?_
                    refine WO.vals [(6, 70, (.bool false))] (by kernel_rfl) (fun _ => by kernel_rfl) ?_
                    refine WO.weaken (fr' := [(70, (.bool ((!x43.Held) && (!(s27 || (x43.Who == p1)))))), (0, (.pointer (some ⟨b_p0, 0, none⟩))), (1, (.int .i64 p1)), (5, (.pointer (some ⟨b10, 0, none⟩))), (7, (.slice a18 j73.length n17)), (8, (.bool (s27 || (x43.Who == p1)))), (9, (.int .i64 (i29 : Int))), (10, (.pointer (some ⟨b44, 0, none⟩)))]) (WO.meet ⟨rfl, rfl⟩) (Sub.cons (by rw [hc]; rfl) (Sub.cons rfl (Sub.cons rfl (Sub.cons rfl (Sub.cons rfl (Sub.cons rfl (Sub.cons rfl (Sub.cons rfl Sub.nil))))))))
                case restm92 =>
                  rintro _ _ ⟨rfl, rfl⟩
                  refine WO.nil ?_
                  refine En.next ?_
                  obtain ⟨j94, hr3, hr2⟩ := bind_some hr2
                  refine W.join (J := (fun fr w => ∃ (I96 : Mem), ∃ (C_j94 : Mem), fr = [(0, (.pointer (some ⟨b_p0, 0, none⟩))), (1, (.int .i64 p1)), (5, (.pointer (some ⟨b10, 0, none⟩))), (7, (.slice a18 j94.length n17)), (8, (.bool (s27 || (x43.Who == p1)))), (9, (.int .i64 (i29 : Int)))] ∧ I75.Le I96 ∧ St E w I96 ((Gv.one b_p0 (.cells (cs_registrarref21_Locks p0 w_p0).toArray 51 (0, 0))) :: (w_p0.L.C) :: (Gv.one b10 (.cells (cs_api_Need r8).toArray 43 (0, 0))) :: (C_j94) :: Os) ∧ OwnSl 4 1 RBool I96 C_j94 a18 n17 j94)) ?restj94 ?waysj94
                  case waysj94 =>
                    refine W.cond (b := ((!x43.Held) && (!(s27 || (x43.Who == p1))))) rfl rfl (fun hc => ?_) (fun hc => ?_)
                    · replace hr3 := cond_t hc hr3
                      refine W.region (l := [0, 1, 2, 3, 4]) (by kernel_rfl) ?_
                      refine WO.vals [(0, 71, (.slice a18 j73.length n17)), (1, 72, (.pointer (some ⟨b44, 0, none⟩)))] (by kernel_rfl) (fun _ => by kernel_rfl) ?_
                      refine WO.load rfl (by kernel_rfl) (by kernel_rfl) rfl (v := (.int .i64 x43.Who)) (fun w' hw' => cell_one ((rd_f (hS89.rd (List.Mem.tail _ (List.Mem.tail _ (List.Mem.tail _ (List.Mem.tail _ (List.Mem.head _))))))) w' hw') (by kernel_rfl)) ?_
                      obtain ⟨x98, hx_x98, hr3⟩ := bind_some hr3
                      obtain ⟨h0_x98, h1_x98, hx_x98⟩ := idx_some hx_x98
                      obtain ⟨ha_x98, cs_x98, hn_x98, hr_x98, hc_x98⟩ := (h_j73.sl).el _ _ hx_x98
                      obtain rfl := hr_x98
                      refine WO.indexAddr (e := 4) (sz := 1) rfl (by kernel_rfl) (by kernel_rfl) (by kernel_rfl) rfl ha_x98 rfl h0_x98 h1_x98 ?_
                      have hS99 := hS89.front3
                      refine WO.storeOwn hS99 h_j73 rfl (by kernel_rfl) rfl hx_x98 (u' := true) 0 rfl rfl (by kernel_rfl) rfl rfl (fun cs hrel => (by obtain rfl := hrel; exact rfl)) (fun _ _ _ => trivial) ?_
                      intro w101 C102 hS100 ho103
                      refine WO.reslot 7 rfl (show Value.slice a18 j73.length n17 = Value.slice a18 (j73.set (x43.Who).toNat true).length n17 by simp only [List.length_set]) ?_
                      refine WO.nil ?_
                      have hS104 := hS100.front4
                      have hS105 := hS104.drop
                      have hS106 := hS105.front3
                      have hS107 := hS106.front3
                      have hS108 := hS107.front3
                      have he := Option.some.inj hr3
                      subst j94
                      refine En.weaken (fr' := [(0, (.pointer (some ⟨b_p0, 0, none⟩))), (1, (.int .i64 p1)), (5, (.pointer (some ⟨b10, 0, none⟩))), (7, (.slice a18 (j73.set (x43.Who).toNat true).length n17)), (8, (.bool (s27 || (x43.Who == p1)))), (9, (.int .i64 (i29 : Int)))]) (En.round ⟨I75, C102, rfl, Mem.Le.refl _, hS108, ho103⟩) (Sub.cons rfl (Sub.cons rfl (Sub.cons rfl (Sub.cons rfl (Sub.cons rfl (Sub.cons rfl Sub.nil))))))
                    · replace hr3 := cond_f hc hr3
                      refine W.skip ?_
                      have hS109 := hS89.front4
                      have hS110 := hS109.drop
                      have he := Option.some.inj hr3
                      subst j94
                      refine En.weaken (fr' := [(0, (.pointer (some ⟨b_p0, 0, none⟩))), (1, (.int .i64 p1)), (5, (.pointer (some ⟨b10, 0, none⟩))), (7, (.slice a18 j73.length n17)), (8, (.bool (s27 || (x43.Who == p1)))), (9, (.int .i64 (i29 : Int)))]) (En.round ⟨I75, C_j73, rfl, Mem.Le.refl _, hS110, h_j73⟩) (Sub.cons rfl (Sub.cons rfl (Sub.cons rfl (Sub.cons rfl (Sub.cons rfl (Sub.cons rfl Sub.nil))))))
                  case restj94 =>
                    rintro _ w111 ⟨I96, C_j94, rfl, hl97, hS112, h_j94⟩
                    refine En.in_normal ?_
                    refine En.weaken (fr' := [(0, (.pointer (some ⟨b_p0, 0, none⟩))), (1, (.int .i64 p1)), (5, (.pointer (some ⟨b10, 0, none⟩))), (7, (.slice a18 j94.length n17)), (8, (.bool (s27 || (x43.Who == p1)))), (9, (.int .i64 (i29 : Int)))]) (En.round ⟨(s27 || (x43.Who == p1)), j94, I96, C_j94, Option.some.inj hr2, rfl, ((hl56.trans hl76).trans hl97), hS112, h_j94⟩) (Sub.cons rfl (Sub.cons rfl (Sub.cons rfl (Sub.cons rfl (Sub.cons rfl (Sub.cons rfl Sub.nil))))))
      case restj39 =>
        rintro _ w113 ⟨s50, s51, I41, C_s51, rfl, rfl, hl42, hS114, h_s51⟩
        refine En.next ?_
        refine W.region (l := [0, 1, 2]) (by kernel_rfl) ?_
        refine WO.vals [(0, 29, (.int .i64 (i29 : Int)))] (by kernel_rfl) (fun _ => by kernel_rfl) ?_
        refine WO.incr (j := i29) rfl (by kernel_rfl) rfl (by first | omega | (dsimp only at *; omega)) ?_
        refine WO.vals [(2, 9, (.int .i64 ((i29 + 1 : Nat) : Int)))] (by kernel_rfl) (fun _ => by kernel_rfl) ?_
        refine WO.nil ?_
        have he := Option.some.inj hr1
        subst x36
        refine En.weaken (fr' := [(0, (.pointer (some ⟨b_p0, 0, none⟩))), (1, (.int .i64 p1)), (5, (.pointer (some ⟨b10, 0, none⟩))), (7, (.slice a18 s51.length n17)), (8, (.bool s50)), (9, (.int .i64 ((i29 + 1 : Nat) : Int)))]) (En.round ⟨I41, C_s51, rfl, (hl26.trans hl42), hS114, h_s51⟩) (Sub.cons rfl (Sub.cons rfl (Sub.cons rfl (Sub.cons rfl (Sub.cons rfl (Sub.cons rfl Sub.nil))))))
    case lastt24 =>
      rintro _ w115 ⟨I25, C_s28, rfl, hl26, hS116, h_s28⟩
      refine W.seq ?_
      refine W.seq ?_
      refine W.region (l := [0, 1, 2, 3, 4, 5, 6]) (by kernel_rfl) ?_
      refine WO.vals [(0, 22, (.int .i64 (p0.L.length : Int))), (1, 23, (.pointer (some ⟨b_p0, 0, none⟩))), (2, 24, (.pointer (some ⟨b_p0, 0, none⟩))), (3, 25, (.pointer (some ⟨b_p0, 0, none⟩)))] (by kernel_rfl) (fun _ => by kernel_rfl) ?_
      refine WO.load rfl (by kernel_rfl) (by kernel_rfl) rfl (v := (.slice w_p0.L.a p0.L.length w_p0.L.c)) (fun w' hw' => cell_one ((rd_f (hS116.rd (List.Mem.head _))) w' hw') (by kernel_rfl)) ?_
      refine WO.vals [(5, 27, (.int .i64 (p0.L.length : Int))), (6, 28, (.bool (decide ((p0.L.length : Int) < (p0.L.length : Int)))))] (by kernel_rfl) (fun _ => by kernel_rfl) ?_
      refine WO.nil ?_
      refine En.next ?_
      refine W.cond (b := (decide ((p0.L.length : Int) < (p0.L.length : Int)))) rfl rfl (fun hc => ?_) (fun hc => ?_)
      · exact absurd hc (by first | (simp; done) | (simp; omega))
      clear hc
      refine W.exit ?_
      refine En.nx_exit ?_
      refine En.rd_exit ?_
      refine En.in_hit ?_
      refine En.next ?_
      refine W.seq ?_
      refine W.region (l := [0]) (by kernel_rfl) ?_
      refine WO.vals [(0, 11, (.slice none 0 0))] (by kernel_rfl) (fun _ => by kernel_rfl) ?_
      refine WO.nil ?_
      refine En.next ?_
      refine W.seq ?_
      refine W.seq ?_
      refine W.region (l := [0]) (by kernel_rfl) ?_
      refine WO.vals [(0, 12, (.int .i64 1))] (by kernel_rfl) (fun _ => by kernel_rfl) ?_
      refine WO.nil ?_
      refine En.next ?_
      refine W.block ?_
      obtain ⟨t117, hloop122, hr⟩ := bind_some hr
      have hS124 := hS116.no
      have hS125 := hS124.front3
      have hS126 := hS125.drop
      have hS127 := hS126.front3
      have hS128 := hS127.front3
      have hS129 := hS128.front3
      refine W.weaken (fr' := [(7, (.slice a18 s28.length n17)), (11, (.slice none ([] : List Int).length 0)), (12, (.int .i64 1))]) (W.loopO hloop122 (fun (s : (List Int) × Int) fr w => match s with | (s120, s121) => ∃ (I118 : Mem), ∃ (a_s120 : Option Addr), ∃ (c_s120 : Nat), ∃ (C_s120 : Mem), fr = [(7, (.slice a18 s28.length n17)), (11, (.slice a_s120 s120.length c_s120)), (12, (.int .i64 s121))] ∧ I25.Le I118 ∧ St E w I118 ((Gv.one b_p0 (.cells (cs_registrarref21_Locks p0 w_p0).toArray 51 (0, 0))) :: (w_p0.L.C) :: (C_s28) :: (C_s120) :: Os) ∧ OwnSl 3 1 (RInt .i64) I118 C_s120 a_s120 c_s120 s120) ⟨I25, none, 0, Mem.no, rfl, Mem.Le.refl _, hS129, OwnSl.nil⟩ ?_) (Sub.cons rfl (Sub.cons rfl (Sub.cons rfl Sub.nil)))
      rintro ⟨s120, s121⟩ _ w130 ⟨I118, a_s120, c_s120, C_s120, rfl, hl119, hS131, h_s120⟩ x132 hr1 hext117
      refine W.seq ?_
      refine W.seq ?_
      refine W.region (l := [0, 1]) (by kernel_rfl) ?_
      refine WO.vals [(0, 75, (.int .i64 s121)), (1, 76, (.bool (decide (s121 < 9))))] (by kernel_rfl) (fun _ => by kernel_rfl) ?_
      refine WO.nil ?_
      refine En.next ?_
      refine W.cond (b := (decide (s121 < 9))) rfl rfl (fun hc => ?_) (fun hc => ?_)
      · replace hr1 := cond_t hc hr1
        refine W.skip ?_
        refine En.next ?_
        refine W.seq ?_
        refine W.block ?_
        refine W.seq ?_
        refine W.region (l := [0, 1, 2, 3]) (by kernel_rfl) ?_
        refine WO.vals [(0, 79, (.slice a18 s28.length n17)), (1, 80, (.int .i64 s121))] (by kernel_rfl) (fun _ => by kernel_rfl) ?_
        obtain ⟨x133, hx_x133, hr1⟩ := bind_some hr1
        obtain ⟨h0_x133, h1_x133, hx_x133⟩ := idx_some hx_x133
        obtain ⟨ha_x133, cs_x133, hn_x133, hr_x133, hc_x133⟩ := ((h_s28.mono hl119).sl).el _ _ hx_x133
        obtain rfl := hr_x133
        refine WO.indexAddr (e := 4) (sz := 1) rfl (by kernel_rfl) (by kernel_rfl) (by kernel_rfl) rfl ha_x133 rfl h0_x133 h1_x133 ?_
        refine WO.load rfl (by kernel_rfl) (by kernel_rfl) rfl (v := (.bool x133)) (fun w' hw' => hc_x133.cell0 (by kernel_rfl) ((rd_f (hS131.rd (List.Mem.tail _ (List.Mem.tail _ (List.Mem.head _))))) w' hw')) ?_
        refine WO.nil ?_
        refine En.next ?_
        obtain ⟨j134, hr2, hr1⟩ := bind_some hr1
        refine W.join (J := (fun fr w => ∃ (I136 : Mem), ∃ (a_j134 : Option Addr), ∃ (c_j134 : Nat), ∃ (C_j134 : Mem), fr = [(7, (.slice a18 s28.length n17)), (11, (.slice a_j134 j134.length c_j134)), (12, (.int .i64 s121))] ∧ I118.Le I136 ∧ St E w I136 ((Gv.one b_p0 (.cells (cs_registrarref21_Locks p0 w_p0).toArray 51 (0, 0))) :: (w_p0.L.C) :: (C_s28) :: (C_j134) :: Os) ∧ OwnSl 3 1 (RInt .i64) I136 C_j134 a_j134 c_j134 j134)) ?restj134 ?waysj134
        case waysj134 =>
          refine W.cond (b := x133) rfl rfl (fun hc => ?_) (fun hc => ?_)
          · replace hr2 := cond_t hc hr2
            refine W.region (l := [0, 1, 2, 3, 4]) (by kernel_rfl) ?_
            refine WO.vals [(0, 83, (.slice a_s120 s120.length c_s120)), (1, 84, (.int .i64 s121))] (by kernel_rfl) (fun _ => by kernel_rfl) ?_
            refine WO.newSlice (rel := (RInt .i64)) (xs := ([s121] : List Int)) hS131 rfl (by kernel_rfl) rfl 3 1 [[(.int .i64 s121)]] (by kernel_rfl) rfl ((Elr.cons rfl Elr.nil)) (fun _ _ _ => trivial) ?_
            intro a141 C139 w143 hS142 ho140
            have hS145 := hS142.front4
            obtain ⟨x146, hx_x146, hr2⟩ := bind_some hr2
            obtain ⟨h0_x146, he_x146⟩ := app_some hx_x146
            refine WO.append (e' := 3) (b := 8) (zs := #[(.int .i64 0)]) hS145 h_s120 rfl (by kernel_rfl) rfl (by kernel_rfl) (by kernel_rfl) (by kernel_rfl) rfl rfl rfl rfl ho140.sl (hS145.rd (List.Mem.tail _ (List.Mem.head _))) h0_x146 he_x146 (fun _ _ _ => trivial) ?_
            intro a147 c148 w149 C150 hS151 ho152
            have hS153 := hS151.front1
            have hS154 := hS153.drop
            refine WO.vals [(4, 11, (.slice a147 x146.length c148))] (by kernel_rfl) (fun _ => by kernel_rfl) ?_
            refine WO.nil ?_
            have hS155 := hS154.front3
            have hS156 := hS155.front3
            have hS157 := hS156.front3
            have he := Option.some.inj hr2
            subst j134
            refine En.weaken (fr' := [(7, (.slice a18 s28.length n17)), (11, (.slice a147 x146.length c148)), (12, (.int .i64 s121))]) (En.round ⟨I118, a147, c148, C150, rfl, Mem.Le.refl _, hS157, ho152⟩) (Sub.cons rfl (Sub.cons rfl (Sub.cons rfl Sub.nil)))
          · replace hr2 := cond_f hc hr2
            refine W.skip ?_
            have he := Option.some.inj hr2
            subst j134
            refine En.weaken (fr' := [(7, (.slice a18 s28.length n17)), (11, (.slice a_s120 s120.length c_s120)), (12, (.int .i64 s121))]) (En.round ⟨I118, a_s120, c_s120, C_s120, rfl, Mem.Le.refl _, hS131, h_s120⟩) (Sub.cons rfl (Sub.cons rfl (Sub.cons rfl Sub.nil)))
        case restj134 =>
          rintro _ w158 ⟨I136, a_j134, c_j134, C_j134, rfl, hl137, hS159, h_j134⟩
          refine En.in_normal ?_
          refine En.next ?_
          refine W.region (l := [0, 1, 2]) (by kernel_rfl) ?_
          refine WO.vals [(0, 77, (.int .i64 s121)), (1, 78, (.int .i64 (w64 (s121 + 1)))), (2, 12, (.int .i64 (w64 (s121 + 1))))] (by kernel_rfl) (fun _ => by kernel_rfl) ?_
          refine WO.nil ?_
          refine En.weaken (fr' := [(7, (.slice a18 s28.length n17)), (11, (.slice a_j134 j134.length c_j134)), (12, (.int .i64 (w64 (s121 + 1))))]) (En.round ⟨(j134, (w64 (s121 + 1))), (Option.some.inj hr1).symm, I136, a_j134, c_j134, C_j134, rfl, (hl119.trans hl137), hS159, h_j134⟩) (Sub.cons rfl (Sub.cons rfl (Sub.cons rfl Sub.nil)))
      · replace hr1 := cond_f hc hr1
        refine W.exit ?_
        refine En.nx_exit ?_
        refine En.rd_exit ?_
        have ht := hext117 _ (Option.some.inj hr1).symm
        subst t117
        refine En.in_hit ?_
        refine En.next ?_
        refine W.seq ?_
        refine W.region (l := [0, 1]) (by kernel_rfl) ?_
        refine WO.vals [(0, 87, (.slice a_s120 s120.length c_s120))] (by kernel_rfl) (fun _ => by kernel_rfl) ?_
        have hS171 := hS131.front3
        obtain ⟨I172, hl173, hS175, hp174⟩ := OwnSl.pub h_s120 hS171
        refine WO.vals [(1, 4, (.slice a_s120 s120.length c_s120))] (by kernel_rfl) (fun _ => by kernel_rfl) ?_
        refine WO.nil ?_
        refine En.next ?_
        refine W.ret ?_
        have hS176 := hS175.front2
        have hS177 := hS176.drop
        have he := Option.some.inj hr
        subst r
        exact En.ret1 rfl (.slice a_s120 s120.length c_s120) rfl ⟨I172, a_s120, c_s120, rfl, (((hl6.trans hl26).trans hl119).trans hl173), hS177, hp174⟩
noncomputable def registrarref21_Locks_Cycle (p0 : registrarref21_Locks) : Option Bool := (loopO (fun (s4 : Int) => (bif (decide (s4 ≤ 8)) then (mk 1 9).bind (fun (n9 : Nat) => (loopO (fun (s : Int × (List Bool)) => match s with | (s19, s20) => (bif (decide (s19 ≤ 8)) then (loopO (fun (s : Int × (List Bool)) => match s with | (s30, s31) => (bif (decide (s30 < 9)) then ((idx s31 s30).bind (fun (x40 : Bool) => (bif ((!x40) && ((decide (s19 > 0)) || (s30 != s4))) then some s31 else (registrarref21_Locks_Blockers p0 s30).bind (fun (r54 : List Int) => (forE (fun (i59 : Nat) => fun (s58 : List Bool) => (idx r54 (i59 : Int)).bind (fun (x66 : Int) => (idx s58 x66).bind (fun (x67 : Bool) => some (s58.set (x66).toNat true)))) r54.length 0 s31).bind (fun (s58 : (List Bool)) => some s58))))).bind (fun (j36 : List Bool) => some (.inl ((w64 (s30 + 1)), j36))) else some (.inr s31))) (1, s20)).bind (fun (s80 : List Bool) => some (.inl ((w64 (s19 + 1)), s80))) else some (.inr s20))) (0, (List.replicate n9 false))).bind (fun (s82 : List Bool) => (idx s82 s4).bind (fun (x83 : Bool) => (bif x83 then some (.inr (.inl true)) else some (.inl (w64 (s4 + 1))))))) else some (.inr (.inr ())))) 1).bind (fun (t : Bool ⊕ Unit) => match t with | (.inl s85) => some s85 | (.inr ()) => some false)
set_option maxHeartbeats 1000000 in
theorem registrarref21_Locks_Cycle_ok {E w : World} {I : Mem} {Os : List Mem} {p0 : registrarref21_Locks} {b_p0 : Nat} {w_p0 : W_registrarref21_Locks} (h_p0 : ok_registrarref21_Locks I p0 w_p0) (hS : St E w I ((Gv.one b_p0 (.cells (cs_registrarref21_Locks p0 w_p0).toArray 51 (0, 0))) :: (w_p0.L.C) :: Os)) {r : Bool} (hr : registrarref21_Locks_Cycle p0 = some r) :
    Calls P 45 #[(.pointer (some ⟨b_p0, 0, none⟩))] w (fun e w' => ∃ (I' : Mem), e = .returned (.bool r) ∧ I.Le I' ∧ St E w' I' ((Gv.one b_p0 (.cells (cs_registrarref21_Locks p0 w_p0).toArray 51 (0, 0))) :: w_p0.L.C :: Os)) := by
  refine calls_W (args := [(.pointer (some ⟨b_p0, 0, none⟩))]) (fn := Try.f45) rfl rfl rfl ?_
  unfold registrarref21_Locks_Cycle at hr
  refine W.seq ?_
  refine W.region (l := [0]) (by kernel_rfl) ?_
  refine WO.vals [(0, 2, (.bool false))] (by kernel_rfl) (fun _ => by kernel_rfl) ?_
  refine WO.nil ?_
  refine En.next ?_
  refine W.seq ?_
  refine W.seq ?_
  refine W.region (l := [0]) (by kernel_rfl) ?_
  refine WO.vals [(0, 3, (.int .i64 1))] (by kernel_rfl) (fun _ => by kernel_rfl) ?_
  refine WO.nil ?_
  refine En.next ?_
  refine W.block ?_
  obtain ⟨t1, hloop5, hr⟩ := bind_some hr
  refine W.weaken (fr' := [(0, (.pointer (some ⟨b_p0, 0, none⟩))), (3, (.int .i64 1))]) (W.loopO hloop5 (fun (s4 : Int) fr w => ∃ (I2 : Mem), fr = [(0, (.pointer (some ⟨b_p0, 0, none⟩))), (3, (.int .i64 s4))] ∧ I.Le I2 ∧ St E w I2 ((Gv.one b_p0 (.cells (cs_registrarref21_Locks p0 w_p0).toArray 51 (0, 0))) :: (w_p0.L.C) :: Os)) ⟨I, rfl, Mem.Le.refl _, hS⟩ ?_) (Sub.cons rfl (Sub.cons rfl Sub.nil))
  rintro s4 _ w6 ⟨I2, rfl, hl3, hS7⟩ x8 hr1 hext1
  refine W.seq ?_
  refine W.seq ?_
  refine W.region (l := [0, 1]) (by kernel_rfl) ?_
  refine WO.vals [(0, 9, (.int .i64 s4)), (1, 10, (.bool (decide (s4 ≤ 8))))] (by kernel_rfl) (fun _ => by kernel_rfl) ?_
  refine WO.nil ?_
  refine En.next ?_
  refine W.cond (b := (decide (s4 ≤ 8))) rfl rfl (fun hc => ?_) (fun hc => ?_)
  · replace hr1 := cond_t hc hr1
    refine W.skip ?_
    refine En.next ?_
    refine W.seq ?_
    refine W.block ?_
    refine W.seq ?_
    refine W.region (l := [0, 1]) (by kernel_rfl) ?_
    obtain ⟨n9, hx_n9, hr1⟩ := bind_some hr1
    obtain ⟨h0_n9, he_n9⟩ := mk_some hx_n9
    refine WO.make (rel := RBool) hS7 rfl (by kernel_rfl) rfl (by kernel_rfl) (T := 4) (sz := 1) (b := 1) (zs := #[(.bool false)]) (by kernel_rfl) rfl rfl n9 (congrArg (Value.int .i64) he_n9) (congrArg (Value.int .i64) he_n9) h0_n9 rfl (z0 := false) rfl (fun _ _ _ => trivial) ?_
    intro a10 w14 C11 hS13 ho12
    refine WO.reslot 13 rfl (show Value.slice a10 n9 n9 = Value.slice a10 (List.replicate n9 false).length n9 by simp only [List.length_replicate]) ?_
    refine WO.vals [(1, 4, (.slice a10 (List.replicate n9 false).length n9))] (by kernel_rfl) (fun _ => by kernel_rfl) ?_
    refine WO.nil ?_
    refine En.next ?_
    refine W.seq ?_
    refine W.seq ?_
    refine W.region (l := [0]) (by kernel_rfl) ?_
    refine WO.vals [(0, 5, (.int .i64 0))] (by kernel_rfl) (fun _ => by kernel_rfl) ?_
    refine WO.nil ?_
    refine En.next ?_
    refine W.block ?_
    obtain ⟨t16, hloop21, hr1⟩ := bind_some hr1
    have hS22 := hS13.front2
    have hS23 := hS22.front2
    refine W.weaken (fr' := [(0, (.pointer (some ⟨b_p0, 0, none⟩))), (3, (.int .i64 s4)), (4, (.slice a10 (List.replicate n9 false).length n9)), (5, (.int .i64 0))]) (W.loopO hloop21 (fun (s : Int × (List Bool)) fr w => match s with | (s19, s20) => ∃ (I17 : Mem), ∃ (C_s20 : Mem), fr = [(0, (.pointer (some ⟨b_p0, 0, none⟩))), (3, (.int .i64 s4)), (4, (.slice a10 s20.length n9)), (5, (.int .i64 s19))] ∧ I2.Le I17 ∧ St E w I17 ((Gv.one b_p0 (.cells (cs_registrarref21_Locks p0 w_p0).toArray 51 (0, 0))) :: (w_p0.L.C) :: (C_s20) :: Os) ∧ OwnSl 4 1 RBool I17 C_s20 a10 n9 s20) ⟨I2, C11, rfl, Mem.Le.refl _, hS23, ho12⟩ ?_) (Sub.cons rfl (Sub.cons rfl (Sub.cons rfl (Sub.cons rfl Sub.nil))))
    rintro ⟨s19, s20⟩ _ w24 ⟨I17, C_s20, rfl, hl18, hS25, h_s20⟩ x26 hr2 hext16
    refine W.seq ?_
    refine W.seq ?_
    refine W.region (l := [0, 1]) (by kernel_rfl) ?_
    refine WO.vals [(0, 14, (.int .i64 s19)), (1, 15, (.bool (decide (s19 ≤ 8))))] (by kernel_rfl) (fun _ => by kernel_rfl) ?_
    refine WO.nil ?_
    refine En.next ?_
    refine W.cond (b := (decide (s19 ≤ 8))) rfl rfl (fun hc => ?_) (fun hc => ?_)
    · replace hr2 := cond_t hc hr2
      refine W.skip ?_
      refine En.next ?_
      refine W.seq ?_
      refine W.block ?_
      refine W.seq ?_
      refine W.region (l := [0]) (by kernel_rfl) ?_
      refine WO.vals [(0, 6, (.int .i64 1))] (by kernel_rfl) (fun _ => by kernel_rfl) ?_
      refine WO.nil ?_
      refine En.next ?_
      refine W.block ?_
      obtain ⟨t27, hloop32, hr2⟩ := bind_some hr2
      refine W.weaken (fr' := [(0, (.pointer (some ⟨b_p0, 0, none⟩))), (3, (.int .i64 s4)), (4, (.slice a10 s20.length n9)), (5, (.int .i64 s19)), (6, (.int .i64 1))]) (W.loopO hloop32 (fun (s : Int × (List Bool)) fr w => match s with | (s30, s31) => ∃ (I28 : Mem), ∃ (C_s31 : Mem), fr = [(0, (.pointer (some ⟨b_p0, 0, none⟩))), (3, (.int .i64 s4)), (4, (.slice a10 s31.length n9)), (5, (.int .i64 s19)), (6, (.int .i64 s30))] ∧ I17.Le I28 ∧ St E w I28 ((Gv.one b_p0 (.cells (cs_registrarref21_Locks p0 w_p0).toArray 51 (0, 0))) :: (w_p0.L.C) :: (C_s31) :: Os) ∧ OwnSl 4 1 RBool I28 C_s31 a10 n9 s31) ⟨I17, C_s20, rfl, Mem.Le.refl _, hS25, h_s20⟩ ?_) (Sub.cons rfl (Sub.cons rfl (Sub.cons rfl (Sub.cons rfl (Sub.cons rfl Sub.nil)))))
      rintro ⟨s30, s31⟩ _ w33 ⟨I28, C_s31, rfl, hl29, hS34, h_s31⟩ x35 hr3 hext27
      refine W.seq ?_
      refine W.seq ?_
      refine W.region (l := [0, 1]) (by kernel_rfl) ?_
      refine WO.vals [(0, 18, (.int .i64 s30)), (1, 19, (.bool (decide (s30 < 9))))] (by kernel_rfl) (fun _ => by kernel_rfl) ?_
      refine WO.nil ?_
      refine En.next ?_
      refine W.cond (b := (decide (s30 < 9))) rfl rfl (fun hc => ?_) (fun hc => ?_)
      · replace hr3 := cond_t hc hr3
        refine W.skip ?_
        refine En.next ?_
        refine W.seq ?_
        obtain ⟨j36, hr4, hr3⟩ := bind_some hr3
        refine W.join (J := (fun fr w => ∃ (I38 : Mem), ∃ (C_j36 : Mem), fr = [(0, (.pointer (some ⟨b_p0, 0, none⟩))), (3, (.int .i64 s4)), (4, (.slice a10 j36.length n9)), (5, (.int .i64 s19)), (6, (.int .i64 s30))] ∧ I28.Le I38 ∧ St E w I38 ((Gv.one b_p0 (.cells (cs_registrarref21_Locks p0 w_p0).toArray 51 (0, 0))) :: (w_p0.L.C) :: (C_j36) :: Os) ∧ OwnSl 4 1 RBool I38 C_j36 a10 n9 j36)) ?restj36 ?waysj36
        case waysj36 =>
          refine W.block ?_
          refine W.seq ?_
          refine W.seq ?_
          refine W.region (l := [0, 1, 2, 3, 4, 5, 6, 7, 8, 9, 10, 11, 12, 13]) (by kernel_rfl) ?_
          refine WO.vals [(0, 22, (.slice a10 s31.length n9)), (1, 23, (.int .i64 s30))] (by kernel_rfl) (fun _ => by kernel_rfl) ?_
          obtain ⟨x40, hx_x40, hr4⟩ := bind_some hr4
          obtain ⟨h0_x40, h1_x40, hx_x40⟩ := idx_some hx_x40
          obtain ⟨ha_x40, cs_x40, hn_x40, hr_x40, hc_x40⟩ := (h_s31.sl).el _ _ hx_x40
          obtain rfl := hr_x40
          refine WO.indexAddr (e := 4) (sz := 1) rfl (by kernel_rfl) (by kernel_rfl) (by kernel_rfl) rfl ha_x40 rfl h0_x40 h1_x40 ?_
          refine WO.load rfl (by kernel_rfl) (by kernel_rfl) rfl (v := (.bool x40)) (fun w' hw' => hc_x40.cell0 (by kernel_rfl) ((rd_f (hS34.rd (List.Mem.tail _ (List.Mem.tail _ (List.Mem.head _))))) w' hw')) ?_
          refine WO.vals [(4, 26, (.bool (!x40))), (5, 27, (.bool (!x40)))] (by kernel_rfl) (fun _ => by kernel_rfl) ?_
          refine WO.join (l1 := [6, 7, 8, 9, 10, 11, 12, 13]) (l2 := []) (J := fun frx wx => frx = [(35, (.bool ((!x40) && ((decide (s19 > 0)) || (s30 != s4))))), (0, (.pointer (some ⟨b_p0, 0, none⟩))), (3, (.int .i64 s4)), (4, (.slice a10 s31.length n9)), (5, (.int .i64 s19)), (6, (.int .i64 s30))] ∧ w33 = wx) ?restm43 ?waysm43
          case waysm43 =>
            refine WO.caseb (!x40) (fun hc => ?_) (fun hc => ?_)
            · skip
              refine WO.reslot 27 rfl (show Value.bool (!x40) = Value.bool true by rw [hc]) ?_
              refine WO.vals [(6, 28, (.int .i64 s19)), (7, 29, (.bool (decide (s19 > 0)))), (8, 30, (.bool (decide (s19 > 0))))] (by kernel_rfl) (fun _ => by kernel_rfl) ?_
              refine WO.join (l1 := [9, 10, 11, 12]) (l2 := [13]) (J := fun frx wx => frx = [(34, (.bool ((decide (s19 > 0)) || (s30 != s4)))), (0, (.pointer (some ⟨b_p0, 0, none⟩))), (3, (.int .i64 s4)), (4, (.slice a10 s31.length n9)), (5, (.int .i64 s19)), (6, (.int .i64 s30)), (27, (.bool true))] ∧ w33 = wx) ?restm45 ?waysm45
              case waysm45 =>
                refine WO.caseb (decide (s19 > 0)) (fun hc => ?_) (fun hc => ?_)
                · skip
                  refine WO.reslot 30 rfl (show Value.bool (decide (s19 > 0)) = Value.bool true by rw [hc]) ?_
                  refine WO.pass rfl (by kernel_rfl) rfl ?_
                  refine WO.pass rfl (by kernel_rfl) rfl ?_
                  refine WO.pass rfl (by kernel_rfl) rfl ?_
                  refine WO.vals [(12, 34, (.bool true))] (by kernel_rfl) (fun _ => by kernel_rfl) ?_
                  refine WO.weaken (fr' := [(34, (.bool ((decide (s19 > 0)) || (s30 != s4)))), (0, (.pointer (some ⟨b_p0, 0, none⟩))), (3, (.int .i64 s4)), (4, (.slice a10 s31.length n9)), (5, (.int .i64 s19)), (6, (.int .i64 s30)), (27, (.bool true))]) (WO.meet ⟨rfl, rfl⟩) (Sub.cons (by rw [hc]; rfl) (Sub.cons rfl (Sub.cons rfl (Sub.cons rfl (Sub.cons rfl (Sub.cons rfl (Sub.cons rfl Sub.nil)))))))
                · skip
                  refine WO.reslot 30 rfl (show Value.bool (decide (s19 > 0)) = Value.bool false by rw [hc]) ?_
                  refine WO.vals [(9, 31, (.int .i64 s30)), (10, 32, (.int .i64 s4)), (11, 33, (.bool (s30 != s4))), (12, 34, (.bool (s30 != s4)))] (by kernel_rfl) (fun _ => by kernel_rfl) ?_
                  refine WO.weaken (fr' := [(34, (.bool ((decide (s19 > 0)) || (s30 != s4)))), (0, (.pointer (some ⟨b_p0, 0, none⟩))), (3, (.int .i64 s4)), (4, (.slice a10 s31.length n9)), (5, (.int .i64 s19)), (6, (.int .i64 s30)), (27, (.bool true))]) (WO.meet ⟨rfl, rfl⟩) (Sub.cons (by rw [hc]; rfl) (Sub.cons rfl (Sub.cons rfl (Sub.cons rfl (Sub.cons rfl (Sub.cons rfl (Sub.cons rfl Sub.nil)))))))
              case restm45 =>
                rintro _ _ ⟨rfl, rfl⟩
                refine WO.vals [(13, 35, (.bool ((decide (s19 > 0)) || (s30 != s4))))] (by kernel_rfl) (fun _ => by kernel_rfl) ?_
                refine WO.weaken (fr' := [(35, (.bool ((!x40) && ((decide (s19 > 0)) || (s30 != s4))))), (0, (.pointer (some ⟨b_p0, 0, none⟩))), (3, (.int .i64 s4)), (4, (.slice a10 s31.length n9)), (5, (.int .i64 s19)), (6, (.int .i64 s30))]) (WO.meet ⟨rfl, rfl⟩) (Sub.cons (by rw [hc]; rfl) (Sub.cons rfl (Sub.cons rfl (Sub.cons rfl (Sub.cons rfl (Sub.cons rfl Sub.nil))))))
            · skip
              refine WO.reslot 27 rfl (show Value.bool (!x40) = Value.bool false by rw [hc]) ?_
              refine WO.pass rfl (by kernel_rfl) rfl ?_
              refine WO.pass rfl (by kernel_rfl) rfl ?_
              refine WO.pass rfl (by kernel_rfl) rfl ?_
              refine WO.pass rfl (by kernel_rfl) rfl ?_
              refine WO.pass rfl (by kernel_rfl) rfl ?_
              refine WO.pass rfl (by kernel_rfl) rfl ?_
              refine WO.pass rfl (by kernel_rfl) rfl ?_
              refine WO.vals [(13, 35, (.bool false))] (by kernel_rfl) (fun _ => by kernel_rfl) ?_
              refine WO.weaken (fr' := [(35, (.bool ((!x40) && ((decide (s19 > 0)) || (s30 != s4))))), (0, (.pointer (some ⟨b_p0, 0, none⟩))), (3, (.int .i64 s4)), (4, (.slice a10 s31.length n9)), (5, (.int .i64 s19)), (6, (.int .i64 s30))]) (WO.meet ⟨rfl, rfl⟩) (Sub.cons (by rw [hc]; rfl) (Sub.cons rfl (Sub.cons rfl (Sub.cons rfl (Sub.cons rfl (Sub.cons rfl Sub.nil))))))
          case restm43 =>
            rintro _ _ ⟨rfl, rfl⟩
            refine WO.nil ?_
            refine En.next ?_
            refine W.cond (b := ((!x40) && ((decide (s19 > 0)) || (s30 != s4)))) rfl rfl (fun hc => ?_) (fun hc => ?_)
            · replace hr4 := cond_t hc hr4
              refine W.exit ?_
              refine En.nx_exit ?_
              refine En.in_hit ?_
              have he := Option.some.inj hr4
              subst j36
              refine En.weaken (fr' := [(0, (.pointer (some ⟨b_p0, 0, none⟩))), (3, (.int .i64 s4)), (4, (.slice a10 s31.length n9)), (5, (.int .i64 s19)), (6, (.int .i64 s30))]) (En.round ⟨I28, C_s31, rfl, Mem.Le.refl _, hS34, h_s31⟩) (Sub.cons rfl (Sub.cons rfl (Sub.cons rfl (Sub.cons rfl (Sub.cons rfl Sub.nil)))))
            · replace hr4 := cond_f hc hr4
              refine W.skip ?_
              refine En.next ?_
              refine W.seq ?_
              refine W.region (l := [0, 1, 2, 3]) (by kernel_rfl) ?_
              refine WO.vals [(0, 36, (.pointer (some ⟨b_p0, 0, none⟩))), (1, 37, (.int .i64 s30))] (by kernel_rfl) (fun _ => by kernel_rfl) ?_
              have hS47 := hS34.front1
              have hS48 := hS47.front1
              obtain ⟨r54, hx_r49, hr4⟩ := bind_some hr4
              refine WO.call rfl (by kernel_rfl) rfl (f := 52) (args := #[(.pointer (some ⟨b_p0, 0, none⟩)), (.int .i64 s30)]) (by kernel_rfl) (registrarref21_Locks_Blockers_ok (h_p0.mono ((hl3.trans hl18).trans hl29)) hS48 hx_r49) ?_
              rintro _ w50 ⟨I51, a_r54, c_r54, rfl, hl52, hS53, h_r54⟩
              refine ⟨_, rfl, trivial, ?_⟩
              refine WO.vals [(3, 7, (.slice a_r54 r54.length c_r54))] (by kernel_rfl) (fun _ => by kernel_rfl) ?_
              refine WO.nil ?_
              refine En.next ?_
              refine W.seq ?_
              refine W.region (l := [0]) (by kernel_rfl) ?_
              refine WO.vals [(0, 8, (.int .i64 0))] (by kernel_rfl) (fun _ => by kernel_rfl) ?_
              refine WO.nil ?_
              refine En.next ?_
              refine W.block ?_
              obtain ⟨s58, hloop60, hr4⟩ := bind_some hr4
              have hlt64 := (h_r54).len_lt
              refine W.weaken (fr' := [(0, (.pointer (some ⟨b_p0, 0, none⟩))), (3, (.int .i64 s4)), (4, (.slice a10 s31.length n9)), (5, (.int .i64 s19)), (6, (.int .i64 s30)), (7, (.slice a_r54 r54.length c_r54)), (8, (.int .i64 ((0 : Nat) : Int)))]) (W.forE (m := r54.length) hloop60 (fun (i59 : Nat) => fun (s58 : List Bool) fr w => ∃ (I56 : Mem), ∃ (C_s58 : Mem), fr = [(0, (.pointer (some ⟨b_p0, 0, none⟩))), (3, (.int .i64 s4)), (4, (.slice a10 s58.length n9)), (5, (.int .i64 s19)), (6, (.int .i64 s30)), (7, (.slice a_r54 r54.length c_r54)), (8, (.int .i64 (i59 : Int)))] ∧ I51.Le I56 ∧ St E w I56 ((Gv.one b_p0 (.cells (cs_registrarref21_Locks p0 w_p0).toArray 51 (0, 0))) :: (w_p0.L.C) :: (C_s58) :: Os) ∧ OwnSl 4 1 RBool I56 C_s58 a10 n9 s58) ⟨I51, C_s31, rfl, Mem.Le.refl _, hS53, (OwnSl.mono h_s31 hl52)⟩ ?roundt55 ?lastt55) (Sub.cons rfl (Sub.cons rfl (Sub.cons rfl (Sub.cons rfl (Sub.cons rfl (Sub.cons rfl (Sub.cons rfl Sub.nil)))))))
              case roundt55 =>
                rintro i59 s58 _ w61 hi65 ⟨I56, C_s58, rfl, hl57, hS62, h_s58⟩ x63 hr5
                refine W.seq ?_
                refine W.seq ?_
                refine W.region (l := [0, 1, 2, 3]) (by kernel_rfl) ?_
                refine WO.vals [(0, 39, (.int .i64 (i59 : Int))), (1, 40, (.slice a_r54 r54.length c_r54)), (2, 41, (.int .i64 (r54.length : Int))), (3, 42, (.bool (decide ((i59 : Int) < (r54.length : Int)))))] (by kernel_rfl) (fun _ => by kernel_rfl) ?_
                refine WO.nil ?_
                refine En.next ?_
                refine W.cond (b := (decide ((i59 : Int) < (r54.length : Int)))) rfl rfl (fun hc => ?_) (fun hc => ?_)
                rotate_left
                · exact absurd hc (by first | (simp; done) | (simp; omega))
                clear hc
                refine W.skip ?_
                refine En.next ?_
                refine W.seq ?_
                refine W.block ?_
                refine W.region (l := [0, 1, 2, 3, 4, 5, 6]) (by kernel_rfl) ?_
                refine WO.vals [(0, 45, (.slice a10 s58.length n9)), (1, 46, (.slice a_r54 r54.length c_r54)), (2, 47, (.int .i64 (i59 : Int)))] (by kernel_rfl) (fun _ => by kernel_rfl) ?_
                obtain ⟨x66, hx_x66, hr5⟩ := bind_some hr5
                obtain ⟨h0_x66, h1_x66, hx_x66⟩ := idx_some hx_x66
                obtain ⟨ha_x66, cs_x66, hn_x66, hr_x66, hc_x66⟩ := ((RSl.mono h_r54 hl57)).el _ _ hx_x66
                obtain rfl := hr_x66
                refine WO.indexAddr (e := 3) (sz := 1) rfl (by kernel_rfl) (by kernel_rfl) (by kernel_rfl) rfl ha_x66 rfl h0_x66 h1_x66 ?_
                refine WO.load rfl (by kernel_rfl) (by kernel_rfl) rfl (v := (.int .i64 x66)) (fun w' hw' => hc_x66.cell0 (by kernel_rfl) ((rd_f hS62.im) w' hw')) ?_
                obtain ⟨x67, hx_x67, hr5⟩ := bind_some hr5
                obtain ⟨h0_x67, h1_x67, hx_x67⟩ := idx_some hx_x67
                obtain ⟨ha_x67, cs_x67, hn_x67, hr_x67, hc_x67⟩ := (h_s58.sl).el _ _ hx_x67
                obtain rfl := hr_x67
                refine WO.indexAddr (e := 4) (sz := 1) rfl (by kernel_rfl) (by kernel_rfl) (by kernel_rfl) rfl ha_x67 rfl h0_x67 h1_x67 ?_
                have hS68 := hS62.front2
                refine WO.storeOwn hS68 h_s58 rfl (by kernel_rfl) rfl hx_x67 (u' := true) 0 rfl rfl (by kernel_rfl) rfl rfl (fun cs hrel => (by obtain rfl := hrel; exact rfl)) (fun _ _ _ => trivial) ?_
                intro w70 C71 hS69 ho72
                refine WO.reslot 4 rfl (show Value.slice a10 s58.length n9 = Value.slice a10 (s58.set (x66).toNat true).length n9 by simp only [List.length_set]) ?_
                refine WO.nil ?_
                refine En.in_normal ?_
                refine En.next ?_
                refine W.region (l := [0, 1, 2]) (by kernel_rfl) ?_
                refine WO.vals [(0, 43, (.int .i64 (i59 : Int)))] (by kernel_rfl) (fun _ => by kernel_rfl) ?_
                refine WO.incr (j := i59) rfl (by kernel_rfl) rfl (by first | omega | (dsimp only at *; omega)) ?_
                refine WO.vals [(2, 8, (.int .i64 ((i59 + 1 : Nat) : Int)))] (by kernel_rfl) (fun _ => by kernel_rfl) ?_
                refine WO.nil ?_
                have hS73 := hS69.front2
                have hS74 := hS73.front2
                have he := Option.some.inj hr5
                subst x63
                refine En.weaken (fr' := [(0, (.pointer (some ⟨b_p0, 0, none⟩))), (3, (.int .i64 s4)), (4, (.slice a10 (s58.set (x66).toNat true).length n9)), (5, (.int .i64 s19)), (6, (.int .i64 s30)), (7, (.slice a_r54 r54.length c_r54)), (8, (.int .i64 ((i59 + 1 : Nat) : Int)))]) (En.round ⟨I56, C71, rfl, hl57, hS74, ho72⟩) (Sub.cons rfl (Sub.cons rfl (Sub.cons rfl (Sub.cons rfl (Sub.cons rfl (Sub.cons rfl (Sub.cons rfl Sub.nil)))))))
              case lastt55 =>
                rintro _ w75 ⟨I56, C_s58, rfl, hl57, hS76, h_s58⟩
                refine W.seq ?_
                refine W.seq ?_
                refine W.region (l := [0, 1, 2, 3]) (by kernel_rfl) ?_
                refine WO.vals [(0, 39, (.int .i64 (r54.length : Int))), (1, 40, (.slice a_r54 r54.length c_r54)), (2, 41, (.int .i64 (r54.length : Int))), (3, 42, (.bool (decide ((r54.length : Int) < (r54.length : Int)))))] (by kernel_rfl) (fun _ => by kernel_rfl) ?_
                refine WO.nil ?_
                refine En.next ?_
                refine W.cond (b := (decide ((r54.length : Int) < (r54.length : Int)))) rfl rfl (fun hc => ?_) (fun hc => ?_)
                · exact absurd hc (by first | (simp; done) | (simp; omega))
                clear hc
                refine W.exit ?_
                refine En.nx_exit ?_
                refine En.rd_exit ?_
                refine En.in_hit ?_
                refine En.in_normal ?_
                have he := Option.some.inj hr4
                subst j36
                refine En.weaken (fr' := [(0, (.pointer (some ⟨b_p0, 0, none⟩))), (3, (.int .i64 s4)), (4, (.slice a10 s58.length n9)), (5, (.int .i64 s19)), (6, (.int .i64 s30))]) (En.round ⟨I56, C_s58, rfl, (hl52.trans hl57), hS76, h_s58⟩) (Sub.cons rfl (Sub.cons rfl (Sub.cons rfl (Sub.cons rfl (Sub.cons rfl Sub.nil)))))
        case restj36 =>
          rintro _ w77 ⟨I38, C_j36, rfl, hl39, hS78, h_j36⟩
          refine En.next ?_
          refine W.region (l := [0, 1, 2]) (by kernel_rfl) ?_
          refine WO.vals [(0, 20, (.int .i64 s30)), (1, 21, (.int .i64 (w64 (s30 + 1)))), (2, 6, (.int .i64 (w64 (s30 + 1))))] (by kernel_rfl) (fun _ => by kernel_rfl) ?_
          refine WO.nil ?_
          refine En.weaken (fr' := [(0, (.pointer (some ⟨b_p0, 0, none⟩))), (3, (.int .i64 s4)), (4, (.slice a10 j36.length n9)), (5, (.int .i64 s19)), (6, (.int .i64 (w64 (s30 + 1))))]) (En.round ⟨((w64 (s30 + 1)), j36), (Option.some.inj hr3).symm, I38, C_j36, rfl, (hl29.trans hl39), hS78, h_j36⟩) (Sub.cons rfl (Sub.cons rfl (Sub.cons rfl (Sub.cons rfl (Sub.cons rfl Sub.nil)))))
      · replace hr3 := cond_f hc hr3
        refine W.exit ?_
        refine En.nx_exit ?_
        refine En.rd_exit ?_
        have ht := hext27 _ (Option.some.inj hr3).symm
        subst t27
        refine En.in_hit ?_
        refine En.in_normal ?_
        refine En.next ?_
        refine W.region (l := [0, 1, 2]) (by kernel_rfl) ?_
        refine WO.vals [(0, 16, (.int .i64 s19)), (1, 17, (.int .i64 (w64 (s19 + 1)))), (2, 5, (.int .i64 (w64 (s19 + 1))))] (by kernel_rfl) (fun _ => by kernel_rfl) ?_
        refine WO.nil ?_
        refine En.weaken (fr' := [(0, (.pointer (some ⟨b_p0, 0, none⟩))), (3, (.int .i64 s4)), (4, (.slice a10 s31.length n9)), (5, (.int .i64 (w64 (s19 + 1))))]) (En.round ⟨((w64 (s19 + 1)), s31), (Option.some.inj hr2).symm, I28, C_s31, rfl, (hl18.trans hl29), hS34, h_s31⟩) (Sub.cons rfl (Sub.cons rfl (Sub.cons rfl (Sub.cons rfl Sub.nil))))
    · replace hr2 := cond_f hc hr2
      refine W.exit ?_
      refine En.nx_exit ?_
      refine En.rd_exit ?_
      have ht := hext16 _ (Option.some.inj hr2).symm
      subst t16
      refine En.in_hit ?_
      refine En.next ?_
      refine W.seq ?_
      refine W.region (l := [0, 1, 2, 3]) (by kernel_rfl) ?_
      refine WO.vals [(0, 51, (.slice a10 s20.length n9)), (1, 52, (.int .i64 s4))] (by kernel_rfl) (fun _ => by kernel_rfl) ?_
      obtain ⟨x88, hx_x88, hr1⟩ := bind_some hr1
      obtain ⟨h0_x88, h1_x88, hx_x88⟩ := idx_some hx_x88
      obtain ⟨ha_x88, cs_x88, hn_x88, hr_x88, hc_x88⟩ := (h_s20.sl).el _ _ hx_x88
      obtain rfl := hr_x88
      refine WO.indexAddr (e := 4) (sz := 1) rfl (by kernel_rfl) (by kernel_rfl) (by kernel_rfl) rfl ha_x88 rfl h0_x88 h1_x88 ?_
      refine WO.load rfl (by kernel_rfl) (by kernel_rfl) rfl (v := (.bool x88)) (fun w' hw' => hc_x88.cell0 (by kernel_rfl) ((rd_f (hS25.rd (List.Mem.tail _ (List.Mem.tail _ (List.Mem.head _))))) w' hw')) ?_
      refine WO.nil ?_
      refine En.next ?_
      refine W.cond (b := x88) rfl rfl (fun hc => ?_) (fun hc => ?_)
      · replace hr1 := cond_t hc hr1
        refine W.seq ?_
        refine W.region (l := [0]) (by kernel_rfl) ?_
        refine WO.vals [(0, 2, (.bool true))] (by kernel_rfl) (fun _ => by kernel_rfl) ?_
        refine WO.nil ?_
        refine En.next ?_
        refine W.ret ?_
        refine En.in_ret ?_
        refine En.nx_ret ?_
        refine En.rd_ret ?_
        have ht := hext1 _ (Option.some.inj hr1).symm
        subst t1
        refine En.in_ret ?_
        refine En.nx_ret ?_
        have hS89 := hS25.front2
        have hS90 := hS89.drop
        have he := Option.some.inj hr
        subst r
        exact En.ret1 rfl (.bool true) rfl ⟨I17, rfl, (hl3.trans hl18), hS90⟩
      · replace hr1 := cond_f hc hr1
        refine W.skip ?_
        refine En.in_normal ?_
        refine En.next ?_
        refine W.region (l := [0, 1, 2]) (by kernel_rfl) ?_
        refine WO.vals [(0, 11, (.int .i64 s4)), (1, 12, (.int .i64 (w64 (s4 + 1)))), (2, 3, (.int .i64 (w64 (s4 + 1))))] (by kernel_rfl) (fun _ => by kernel_rfl) ?_
        refine WO.nil ?_
        have hS91 := hS25.front2
        have hS92 := hS91.drop
        refine En.weaken (fr' := [(0, (.pointer (some ⟨b_p0, 0, none⟩))), (3, (.int .i64 (w64 (s4 + 1))))]) (En.round ⟨(w64 (s4 + 1)), (Option.some.inj hr1).symm, I17, rfl, (hl3.trans hl18), hS92⟩) (Sub.cons rfl (Sub.cons rfl Sub.nil))
  · replace hr1 := cond_f hc hr1
    refine W.exit ?_
    refine En.nx_exit ?_
    refine En.rd_exit ?_
    have ht := hext1 _ (Option.some.inj hr1).symm
    subst t1
    refine En.in_hit ?_
    refine En.next ?_
    refine W.seq ?_
    refine W.region (l := [0]) (by kernel_rfl) ?_
    refine WO.vals [(0, 2, (.bool false))] (by kernel_rfl) (fun _ => by kernel_rfl) ?_
    refine WO.nil ?_
    refine En.next ?_
    refine W.ret ?_
    have he := Option.some.inj hr
    subst r
    exact En.ret1 rfl (.bool false) rfl ⟨I2, rfl, hl3, hS7⟩
noncomputable def mdl_Locks_Holders (p0 : mdl_Locks) (p1 : ByteArray) : Option (List Int) := (mdl_Locks_dead p0).bind (fun (r8 : Bool) => (some ((mget sEq p0.at_ p1).getD z_mdl_place)).bind (fun (x9 : mdl_place) => (mdl_whos x9.held).bind (fun (r15 : List Int) => some r15)))
set_option maxHeartbeats 1000000 in
theorem mdl_Locks_Holders_ok {E w : World} {I : Mem} {Os : List Mem} {p0 : mdl_Locks} {p1 : ByteArray} {b_p0 : Nat} {w_p0 : W_mdl_Locks} (h_p0 : ok_mdl_Locks I p0 w_p0) (hS : St E w I ((Gv.one b_p0 (.cells (cs_mdl_Locks p0 w_p0).toArray 56 (0, 0))) :: (w_p0.at_.C) :: Os)) {r : (List Int)} (hr : mdl_Locks_Holders p0 p1 = some r) :
    Calls P 27 #[(.pointer (some ⟨b_p0, 0, none⟩)), (.string p1)] w (fun e w' => ∃ (I' : Mem) (ra0 : Option Addr) (rc0 : Nat), e = .returned (.slice ra0 r.length rc0) ∧ I.Le I' ∧ St E w' I' ((Gv.one b_p0 (.cells (cs_mdl_Locks p0 w_p0).toArray 56 (0, 0))) :: w_p0.at_.C :: Os) ∧ RSl 1 (RInt .i64) I' ra0 rc0 r) := by
  refine calls_W (args := [(.pointer (some ⟨b_p0, 0, none⟩)), (.string p1)]) (fn := Try.f27) rfl rfl rfl ?_
  unfold mdl_Locks_Holders at hr
  refine W.seq ?_
  refine W.region (l := [0]) (by kernel_rfl) ?_
  refine WO.vals [(0, 4, (.slice none 0 0))] (by kernel_rfl) (fun _ => by kernel_rfl) ?_
  refine WO.nil ?_
  refine En.next ?_
  refine W.seq ?_
  refine W.seq ?_
  refine W.region (l := [0, 1]) (by kernel_rfl) ?_
  refine WO.vals [(0, 5, (.pointer (some ⟨b_p0, 0, none⟩)))] (by kernel_rfl) (fun _ => by kernel_rfl) ?_
  have hS1 := hS.front1
  have hS2 := hS1.front1
  obtain ⟨r8, hx_r3, hr⟩ := bind_some hr
  obtain rfl : false = r8 := Option.some.inj hx_r3
  refine WO.call rfl (by kernel_rfl) rfl (f := 28) (args := #[(.pointer (some ⟨b_p0, 0, none⟩))]) (by kernel_rfl) (mdl_Locks_dead_ok h_p0 hS2 hx_r3) ?_
  rintro _ w4 ⟨I5, rfl, hl6, hS7⟩
  refine ⟨_, rfl, trivial, ?_⟩
  refine WO.nil ?_
  refine En.next ?_
  refine W.cond (b := false) rfl rfl (fun hc => ?_) (fun hc => ?_)
  · cases hc
  clear hc
  refine W.skip ?_
  refine En.next ?_
  refine W.seq ?_
  refine W.region (l := [0, 1, 2, 3, 4, 5, 6, 7, 8]) (by kernel_rfl) ?_
  refine WO.vals [(0, 7, (.pointer (some ⟨b_p0, 0, none⟩))), (1, 8, (.pointer (some ⟨b_p0, 0, none⟩))), (2, 9, (.pointer (some ⟨b_p0, 0, none⟩)))] (by kernel_rfl) (fun _ => by kernel_rfl) ?_
  refine WO.load rfl (by kernel_rfl) (by kernel_rfl) rfl (v := (.map (some w_p0.at_.m))) (fun w' hw' => cell_one ((rd_f (hS7.rd (List.Mem.head _))) w' hw') (by kernel_rfl)) ?_
  refine WO.vals [(4, 11, (.string p1))] (by kernel_rfl) (fun _ => by kernel_rfl) ?_
  obtain ⟨x9, hx_x9, hr⟩ := bind_some hr
  obtain ⟨v_x9, hv_x9, hq_x9⟩ := OwnMap.lookup (OwnMap.mono h_p0.at_ hl6) (t := 54) (kt := 9) (et := 68) (by kernel_rfl) (keyLaw_str (kt := 9) (by kernel_rfl)) p1 (zv := (.agg (cs_mdl_place z_mdl_place zw_mdl_place).toArray)) (z0 := z_mdl_place) (by kernel_rfl) ⟨(cs_mdl_place z_mdl_place zw_mdl_place), rfl, ⟨zw_mdl_place, rfl, zok_mdl_place⟩⟩
  rw [Option.some.inj hx_x9] at hv_x9
  obtain ⟨_, rfl, hv_x9⟩ := hv_x9
  obtain ⟨w_x9, rfl, h_x9⟩ := hv_x9
  refine WO.lookup rfl (by kernel_rfl) rfl rfl hq_x9 ((rd_f (hS7.rd (List.Mem.tail _ (List.Mem.head _))))) (.agg (cs_mdl_place x9 w_x9).toArray) rfl ?_
  refine WO.vals [(6, 13, (.slice w_x9.held.a x9.held.length w_x9.held.c))] (by kernel_rfl) (fun _ => by kernel_rfl) ?_
  obtain ⟨r15, hx_r10, hr⟩ := bind_some hr
  refine WO.call rfl (by kernel_rfl) rfl (f := 56) (args := #[(.slice w_x9.held.a x9.held.length w_x9.held.c)]) (by kernel_rfl) (mdl_whos_ok h_x9.held hS7 hx_r10) ?_
  rintro _ w11 ⟨I12, a_r15, c_r15, rfl, hl13, hS14, h_r15⟩
  refine ⟨_, rfl, trivial, ?_⟩
  refine WO.vals [(8, 4, (.slice a_r15 r15.length c_r15))] (by kernel_rfl) (fun _ => by kernel_rfl) ?_
  refine WO.nil ?_
  refine En.next ?_
  refine W.ret ?_
  have he := Option.some.inj hr
  subst r
  exact En.ret1 rfl (.slice a_r15 r15.length c_r15) rfl ⟨I12, a_r15, c_r15, rfl, (hl6.trans hl13), hS14, h_r15⟩
noncomputable def registrarref21_Locks_Holders (p0 : registrarref21_Locks) (p1 : ByteArray) : Option (List Int) := (loopO (fun (s : (List Int) × Int) => match s with | (s4, s5) => (bif (decide (s5 ≤ 8)) then (forE (fun (i18 : Nat) => fun (s17 : List Int) => (idx p0.L (i18 : Int)).bind (fun (x25 : registrarref21_One) => ((bif (x25.Who == s5) then (idx p0.L (i18 : Int)).bind (fun (x30 : registrarref21_One) => some x30.Held) else some false)).bind (fun (j26 : Bool) => ((bif j26 then (idx p0.L (i18 : Int)).bind (fun (x37 : registrarref21_One) => some (sEq x37.Path p1)) else some false)).bind (fun (j33 : Bool) => ((bif j33 then (app 8 s17 ([s5] : List Int)).bind (fun (x52 : List Int) => some x52) else some s17)).bind (fun (j40 : List Int) => some j40))))) p0.L.length 0 s4).bind (fun (s17 : (List Int)) => some (.inl (s17, (w64 (s5 + 1))))) else some (.inr s4))) (([] : List Int), 1)).bind (fun (s68 : List Int) => some s68)
set_option maxHeartbeats 1000000 in
theorem registrarref21_Locks_Holders_ok {E w : World} {I : Mem} {Os : List Mem} {p0 : registrarref21_Locks} {p1 : ByteArray} {b_p0 : Nat} {w_p0 : W_registrarref21_Locks} (h_p0 : ok_registrarref21_Locks I p0 w_p0) (hS : St E w I ((Gv.one b_p0 (.cells (cs_registrarref21_Locks p0 w_p0).toArray 51 (0, 0))) :: (w_p0.L.C) :: Os)) {r : (List Int)} (hr : registrarref21_Locks_Holders p0 p1 = some r) :
    Calls P 47 #[(.pointer (some ⟨b_p0, 0, none⟩)), (.string p1)] w (fun e w' => ∃ (I' : Mem) (ra0 : Option Addr) (rc0 : Nat), e = .returned (.slice ra0 r.length rc0) ∧ I.Le I' ∧ St E w' I' ((Gv.one b_p0 (.cells (cs_registrarref21_Locks p0 w_p0).toArray 51 (0, 0))) :: w_p0.L.C :: Os) ∧ RSl 1 (RInt .i64) I' ra0 rc0 r) := by
  refine calls_W (args := [(.pointer (some ⟨b_p0, 0, none⟩)), (.string p1)]) (fn := Try.f47) rfl rfl rfl ?_
  unfold registrarref21_Locks_Holders at hr
  refine W.seq ?_
  refine W.region (l := [0]) (by kernel_rfl) ?_
  refine WO.vals [(0, 4, (.slice none 0 0))] (by kernel_rfl) (fun _ => by kernel_rfl) ?_
  refine WO.nil ?_
  refine En.next ?_
  refine W.seq ?_
  refine W.region (l := [0]) (by kernel_rfl) ?_
  refine WO.vals [(0, 5, (.slice none 0 0))] (by kernel_rfl) (fun _ => by kernel_rfl) ?_
  refine WO.nil ?_
  refine En.next ?_
  refine W.seq ?_
  refine W.seq ?_
  refine W.region (l := [0]) (by kernel_rfl) ?_
  refine WO.vals [(0, 6, (.int .i64 1))] (by kernel_rfl) (fun _ => by kernel_rfl) ?_
  refine WO.nil ?_
  refine En.next ?_
  refine W.block ?_
  obtain ⟨t1, hloop6, hr⟩ := bind_some hr
  have hS8 := hS.no
  have hS9 := hS8.front2
  have hS10 := hS9.front2
  refine W.weaken (fr' := [(0, (.pointer (some ⟨b_p0, 0, none⟩))), (1, (.string p1)), (5, (.slice none ([] : List Int).length 0)), (6, (.int .i64 1))]) (W.loopO hloop6 (fun (s : (List Int) × Int) fr w => match s with | (s4, s5) => ∃ (I2 : Mem), ∃ (a_s4 : Option Addr), ∃ (c_s4 : Nat), ∃ (C_s4 : Mem), fr = [(0, (.pointer (some ⟨b_p0, 0, none⟩))), (1, (.string p1)), (5, (.slice a_s4 s4.length c_s4)), (6, (.int .i64 s5))] ∧ I.Le I2 ∧ St E w I2 ((Gv.one b_p0 (.cells (cs_registrarref21_Locks p0 w_p0).toArray 51 (0, 0))) :: (w_p0.L.C) :: (C_s4) :: Os) ∧ OwnSl 3 1 (RInt .i64) I2 C_s4 a_s4 c_s4 s4) ⟨I, none, 0, Mem.no, rfl, Mem.Le.refl _, hS10, OwnSl.nil⟩ ?_) (Sub.cons rfl (Sub.cons rfl (Sub.cons rfl (Sub.cons rfl Sub.nil))))
  rintro ⟨s4, s5⟩ _ w11 ⟨I2, a_s4, c_s4, C_s4, rfl, hl3, hS12, h_s4⟩ x13 hr1 hext1
  refine W.seq ?_
  refine W.seq ?_
  refine W.region (l := [0, 1]) (by kernel_rfl) ?_
  refine WO.vals [(0, 8, (.int .i64 s5)), (1, 9, (.bool (decide (s5 ≤ 8))))] (by kernel_rfl) (fun _ => by kernel_rfl) ?_
  refine WO.nil ?_
  refine En.next ?_
  refine W.cond (b := (decide (s5 ≤ 8))) rfl rfl (fun hc => ?_) (fun hc => ?_)
  · replace hr1 := cond_t hc hr1
    refine W.skip ?_
    refine En.next ?_
    refine W.seq ?_
    refine W.block ?_
    refine W.seq ?_
    refine W.region (l := [0]) (by kernel_rfl) ?_
    refine WO.vals [(0, 7, (.int .i64 0))] (by kernel_rfl) (fun _ => by kernel_rfl) ?_
    refine WO.nil ?_
    refine En.next ?_
    refine W.block ?_
    obtain ⟨s17, hloop19, hr1⟩ := bind_some hr1
    have hlt23 := ((h_p0.L.mono hl3).sl).len_lt
    refine W.weaken (fr' := [(0, (.pointer (some ⟨b_p0, 0, none⟩))), (1, (.string p1)), (5, (.slice a_s4 s4.length c_s4)), (6, (.int .i64 s5)), (7, (.int .i64 ((0 : Nat) : Int)))]) (W.forE (m := p0.L.length) hloop19 (fun (i18 : Nat) => fun (s17 : List Int) fr w => ∃ (I15 : Mem), ∃ (a_s17 : Option Addr), ∃ (c_s17 : Nat), ∃ (C_s17 : Mem), fr = [(0, (.pointer (some ⟨b_p0, 0, none⟩))), (1, (.string p1)), (5, (.slice a_s17 s17.length c_s17)), (6, (.int .i64 s5)), (7, (.int .i64 (i18 : Int)))] ∧ I2.Le I15 ∧ St E w I15 ((Gv.one b_p0 (.cells (cs_registrarref21_Locks p0 w_p0).toArray 51 (0, 0))) :: (w_p0.L.C) :: (C_s17) :: Os) ∧ OwnSl 3 1 (RInt .i64) I15 C_s17 a_s17 c_s17 s17) ⟨I2, a_s4, c_s4, C_s4, rfl, Mem.Le.refl _, hS12, h_s4⟩ ?roundt14 ?lastt14) (Sub.cons rfl (Sub.cons rfl (Sub.cons rfl (Sub.cons rfl (Sub.cons rfl Sub.nil)))))
    case roundt14 =>
      rintro i18 s17 _ w20 hi24 ⟨I15, a_s17, c_s17, C_s17, rfl, hl16, hS21, h_s17⟩ x22 hr2
      refine W.seq ?_
      refine W.seq ?_
      refine W.region (l := [0, 1, 2, 3, 4, 5, 6]) (by kernel_rfl) ?_
      refine WO.vals [(0, 12, (.int .i64 (i18 : Int))), (1, 13, (.pointer (some ⟨b_p0, 0, none⟩))), (2, 14, (.pointer (some ⟨b_p0, 0, none⟩))), (3, 15, (.pointer (some ⟨b_p0, 0, none⟩)))] (by kernel_rfl) (fun _ => by kernel_rfl) ?_
      refine WO.load rfl (by kernel_rfl) (by kernel_rfl) rfl (v := (.slice w_p0.L.a p0.L.length w_p0.L.c)) (fun w' hw' => cell_one ((rd_f (hS21.rd (List.Mem.head _))) w' hw') (by kernel_rfl)) ?_
      refine WO.vals [(5, 17, (.int .i64 (p0.L.length : Int))), (6, 18, (.bool (decide ((i18 : Int) < (p0.L.length : Int)))))] (by kernel_rfl) (fun _ => by kernel_rfl) ?_
      refine WO.nil ?_
      refine En.next ?_
      refine W.cond (b := (decide ((i18 : Int) < (p0.L.length : Int)))) rfl rfl (fun hc => ?_) (fun hc => ?_)
      rotate_left
      · exact absurd hc (by first | (simp; done) | (simp; omega))
      clear hc
      refine W.skip ?_
      refine En.next ?_
      refine W.seq ?_
      refine W.block ?_
      refine W.seq ?_
      refine W.region (l := [0, 1, 2, 3, 4, 5, 6, 7, 8, 9, 10, 11, 12, 13, 14, 15, 16, 17, 18, 19, 20, 21, 22, 23, 24, 25, 26, 27, 28, 29, 30, 31]) (by kernel_rfl) ?_
      refine WO.vals [(0, 21, (.pointer (some ⟨b_p0, 0, none⟩))), (1, 22, (.pointer (some ⟨b_p0, 0, none⟩))), (2, 23, (.pointer (some ⟨b_p0, 0, none⟩)))] (by kernel_rfl) (fun _ => by kernel_rfl) ?_
      refine WO.load rfl (by kernel_rfl) (by kernel_rfl) rfl (v := (.slice w_p0.L.a p0.L.length w_p0.L.c)) (fun w' hw' => cell_one ((rd_f (hS21.rd (List.Mem.head _))) w' hw') (by kernel_rfl)) ?_
      refine WO.vals [(4, 25, (.int .i64 (i18 : Int)))] (by kernel_rfl) (fun _ => by kernel_rfl) ?_
      obtain ⟨x25, hx_x25, hr2⟩ := bind_some hr2
      obtain ⟨h0_x25, h1_x25, hx_x25⟩ := idx_some hx_x25
      obtain ⟨ha_x25, cs_x25, hn_x25, hr_x25, hc_x25⟩ := ((h_p0.L.mono (hl3.trans hl16)).sl).el _ _ hx_x25
      obtain rfl := hr_x25
      refine WO.indexAddr (e := 98) (sz := 4) rfl (by kernel_rfl) (by kernel_rfl) (by kernel_rfl) rfl ha_x25 rfl h0_x25 h1_x25 ?_
      refine WO.vals [(6, 27, (.pointer (some ⟨bl w_p0.L.a, of w_p0.L.a + ((i18 : Int)).toNat * 4, none⟩)))] (by kernel_rfl) (fun _ => by kernel_rfl) ?_
      refine WO.load rfl (by kernel_rfl) (by kernel_rfl) rfl (v := (.int .i64 x25.Who)) (fun w' hw' => hc_x25.cell0 (by kernel_rfl) ((rd_f (hS21.rd (List.Mem.tail _ (List.Mem.head _)))) w' hw')) ?_
      refine WO.vals [(8, 29, (.int .i64 s5)), (9, 30, (.bool (x25.Who == s5))), (10, 31, (.bool (x25.Who == s5)))] (by kernel_rfl) (fun _ => by kernel_rfl) ?_
      obtain ⟨j26, hr3, hr2⟩ := bind_some hr2
      refine WO.join (l1 := [11, 12, 13, 14, 15, 16, 17, 18, 19]) (l2 := [20, 21, 22, 23, 24, 25, 26, 27, 28, 29, 30, 31]) (J := (fun fr w => ∃ (I28 : Mem), fr = [(0, (.pointer (some ⟨b_p0, 0, none⟩))), (1, (.string p1)), (5, (.slice a_s17 s17.length c_s17)), (6, (.int .i64 s5)), (7, (.int .i64 (i18 : Int))), (40, (.bool j26))] ∧ I15.Le I28 ∧ St E w I28 ((Gv.one b_p0 (.cells (cs_registrarref21_Locks p0 w_p0).toArray 51 (0, 0))) :: (w_p0.L.C) :: (C_s17) :: Os))) ?restj26 ?waysj26
      case waysj26 =>
        refine WO.caseb (x25.Who == s5) (fun hc => ?_) (fun hc => ?_)
        · replace hr3 := cond_t hc hr3
          refine WO.reslot 31 rfl (show Value.bool (x25.Who == s5) = Value.bool true by rw [hc]) ?_
          refine WO.vals [(11, 32, (.pointer (some ⟨b_p0, 0, none⟩))), (12, 33, (.pointer (some ⟨b_p0, 0, none⟩))), (13, 34, (.pointer (some ⟨b_p0, 0, none⟩)))] (by kernel_rfl) (fun _ => by kernel_rfl) ?_
          refine WO.load rfl (by kernel_rfl) (by kernel_rfl) rfl (v := (.slice w_p0.L.a p0.L.length w_p0.L.c)) (fun w' hw' => cell_one ((rd_f (hS21.rd (List.Mem.head _))) w' hw') (by kernel_rfl)) ?_
          refine WO.vals [(15, 36, (.int .i64 (i18 : Int)))] (by kernel_rfl) (fun _ => by kernel_rfl) ?_
          obtain ⟨x30, hx_x30, hr3⟩ := bind_some hr3
          obtain ⟨h0_x30, h1_x30, hx_x30⟩ := idx_some hx_x30
          obtain ⟨ha_x30, cs_x30, hn_x30, hr_x30, hc_x30⟩ := ((h_p0.L.mono (hl3.trans hl16)).sl).el _ _ hx_x30
          obtain rfl := hr_x30
          refine WO.indexAddr (e := 98) (sz := 4) rfl (by kernel_rfl) (by kernel_rfl) (by kernel_rfl) rfl ha_x30 rfl h0_x30 h1_x30 ?_
          refine WO.vals [(17, 38, (.pointer (some ⟨bl w_p0.L.a, of w_p0.L.a + ((i18 : Int)).toNat * 4 + 3, none⟩)))] (by kernel_rfl) (fun _ => by kernel_rfl) ?_
          refine WO.load rfl (by kernel_rfl) (by kernel_rfl) rfl (v := (.bool x30.Held)) (fun w' hw' => hc_x30.cellk 3 (by kernel_rfl) ((rd_f (hS21.rd (List.Mem.tail _ (List.Mem.head _)))) w' hw')) ?_
          refine WO.vals [(19, 40, (.bool x30.Held))] (by kernel_rfl) (fun _ => by kernel_rfl) ?_
          have he := Option.some.inj hr3
          subst j26
          refine WO.weaken (fr' := [(0, (.pointer (some ⟨b_p0, 0, none⟩))), (1, (.string p1)), (5, (.slice a_s17 s17.length c_s17)), (6, (.int .i64 s5)), (7, (.int .i64 (i18 : Int))), (40, (.bool x30.Held))]) (WO.meet ⟨I15, rfl, Mem.Le.refl _, hS21⟩) (Sub.cons rfl (Sub.cons rfl (Sub.cons rfl (Sub.cons rfl (Sub.cons rfl (Sub.cons rfl Sub.nil))))))
        · replace hr3 := cond_f hc hr3
          refine WO.reslot 31 rfl (show Value.bool (x25.Who == s5) = Value.bool false by rw [hc]) ?_
          refine WO.pass rfl (by kernel_rfl) rfl ?_
          refine WO.pass rfl (by kernel_rfl) rfl ?_
          refine WO.pass rfl (by kernel_rfl) rfl ?_
          refine WO.pass rfl (by kernel_rfl) rfl ?_
          refine WO.pass rfl (by kernel_rfl) rfl ?_
          refine WO.pass rfl (by kernel_rfl) rfl ?_
          refine WO.pass rfl (by kernel_rfl) rfl ?_
          refine WO.pass rfl (by kernel_rfl) rfl ?_
          refine WO.vals [(19, 40, (.bool false))] (by kernel_rfl) (fun _ => by kernel_rfl) ?_
          have he := Option.some.inj hr3
          subst j26
          refine WO.weaken (fr' := [(0, (.pointer (some ⟨b_p0, 0, none⟩))), (1, (.string p1)), (5, (.slice a_s17 s17.length c_s17)), (6, (.int .i64 s5)), (7, (.int .i64 (i18 : Int))), (40, (.bool false))]) (WO.meet ⟨I15, rfl, Mem.Le.refl _, hS21⟩) (Sub.cons rfl (Sub.cons rfl (Sub.cons rfl (Sub.cons rfl (Sub.cons rfl (Sub.cons rfl Sub.nil))))))
      case restj26 =>
        rintro _ w31 ⟨I28, rfl, hl29, hS32⟩
        refine WO.vals [(20, 41, (.bool j26))] (by kernel_rfl) (fun _ => by kernel_rfl) ?_
        obtain ⟨j33, hr3, hr2⟩ := bind_some hr2
        refine WO.join (l1 := [21, 22, 23, 24, 25, 26, 27, 28, 29, 30, 31]) (l2 := []) (J := (fun fr w => ∃ (I35 : Mem), fr = [(0, (.pointer (some ⟨b_p0, 0, none⟩))), (1, (.string p1)), (5, (.slice a_s17 s17.length c_s17)), (6, (.int .i64 s5)), (7, (.int .i64 (i18 : Int))), (52, (.bool j33))] ∧ I28.Le I35 ∧ St E w I35 ((Gv.one b_p0 (.cells (cs_registrarref21_Locks p0 w_p0).toArray 51 (0, 0))) :: (w_p0.L.C) :: (C_s17) :: Os))) ?restj33 ?waysj33
        case waysj33 =>
          refine WO.caseb j26 (fun hc => ?_) (fun hc => ?_)
          · replace hr3 := cond_t hc hr3
            refine WO.reslot 41 rfl (show Value.bool j26 = Value.bool true by rw [hc]) ?_
            refine WO.vals [(21, 42, (.pointer (some ⟨b_p0, 0, none⟩))), (22, 43, (.pointer (some ⟨b_p0, 0, none⟩))), (23, 44, (.pointer (some ⟨b_p0, 0, none⟩)))] (by kernel_rfl) (fun _ => by kernel_rfl) ?_
            refine WO.load rfl (by kernel_rfl) (by kernel_rfl) rfl (v := (.slice w_p0.L.a p0.L.length w_p0.L.c)) (fun w' hw' => cell_one ((rd_f (hS32.rd (List.Mem.head _))) w' hw') (by kernel_rfl)) ?_
            refine WO.vals [(25, 46, (.int .i64 (i18 : Int)))] (by kernel_rfl) (fun _ => by kernel_rfl) ?_
            obtain ⟨x37, hx_x37, hr3⟩ := bind_some hr3
            obtain ⟨h0_x37, h1_x37, hx_x37⟩ := idx_some hx_x37
            obtain ⟨ha_x37, cs_x37, hn_x37, hr_x37, hc_x37⟩ := ((h_p0.L.mono ((hl3.trans hl16).trans hl29)).sl).el _ _ hx_x37
            obtain rfl := hr_x37
            refine WO.indexAddr (e := 98) (sz := 4) rfl (by kernel_rfl) (by kernel_rfl) (by kernel_rfl) rfl ha_x37 rfl h0_x37 h1_x37 ?_
            refine WO.vals [(27, 48, (.pointer (some ⟨bl w_p0.L.a, of w_p0.L.a + ((i18 : Int)).toNat * 4 + 2, none⟩)))] (by kernel_rfl) (fun _ => by kernel_rfl) ?_
            refine WO.load rfl (by kernel_rfl) (by kernel_rfl) rfl (v := (.string x37.Path)) (fun w' hw' => hc_x37.cellk 2 (by kernel_rfl) ((rd_f (hS32.rd (List.Mem.tail _ (List.Mem.head _)))) w' hw')) ?_
            refine WO.vals [(29, 50, (.string p1)), (30, 51, (.bool (sEq x37.Path p1))), (31, 52, (.bool (sEq x37.Path p1)))] (by kernel_rfl) (fun _ => by kernel_rfl) ?_
            have he := Option.some.inj hr3
            subst j33
            refine WO.weaken (fr' := [(0, (.pointer (some ⟨b_p0, 0, none⟩))), (1, (.string p1)), (5, (.slice a_s17 s17.length c_s17)), (6, (.int .i64 s5)), (7, (.int .i64 (i18 : Int))), (52, (.bool (sEq x37.Path p1)))]) (WO.meet ⟨I28, rfl, Mem.Le.refl _, hS32⟩) (Sub.cons rfl (Sub.cons rfl (Sub.cons rfl (Sub.cons rfl (Sub.cons rfl (Sub.cons rfl Sub.nil))))))
          · replace hr3 := cond_f hc hr3
            refine WO.reslot 41 rfl (show Value.bool j26 = Value.bool false by rw [hc]) ?_
            refine WO.pass rfl (by kernel_rfl) rfl ?_
            refine WO.pass rfl (by kernel_rfl) rfl ?_
            refine WO.pass rfl (by kernel_rfl) rfl ?_
            refine WO.pass rfl (by kernel_rfl) rfl ?_
            refine WO.pass rfl (by kernel_rfl) rfl ?_
            refine WO.pass rfl (by kernel_rfl) rfl ?_
            refine WO.pass rfl (by kernel_rfl) rfl ?_
            refine WO.pass rfl (by kernel_rfl) rfl ?_
            refine WO.pass rfl (by kernel_rfl) rfl ?_
            refine WO.pass rfl (by kernel_rfl) rfl ?_
            refine WO.vals [(31, 52, (.bool false))] (by kernel_rfl) (fun _ => by kernel_rfl) ?_
            have he := Option.some.inj hr3
            subst j33
            refine WO.weaken (fr' := [(0, (.pointer (some ⟨b_p0, 0, none⟩))), (1, (.string p1)), (5, (.slice a_s17 s17.length c_s17)), (6, (.int .i64 s5)), (7, (.int .i64 (i18 : Int))), (52, (.bool false))]) (WO.meet ⟨I28, rfl, Mem.Le.refl _, hS32⟩) (Sub.cons rfl (Sub.cons rfl (Sub.cons rfl (Sub.cons rfl (Sub.cons rfl (Sub.cons rfl Sub.nil))))))
        case restj33 =>
          rintro _ w38 ⟨I35, rfl, hl36, hS39⟩
          refine WO.nil ?_
          refine En.next ?_
          obtain ⟨j40, hr3, hr2⟩ := bind_some hr2
          refine W.join (J := (fun fr w => ∃ (I42 : Mem), ∃ (a_j40 : Option Addr), ∃ (c_j40 : Nat), ∃ (C_j40 : Mem), fr = [(0, (.pointer (some ⟨b_p0, 0, none⟩))), (1, (.string p1)), (5, (.slice a_j40 j40.length c_j40)), (6, (.int .i64 s5)), (7, (.int .i64 (i18 : Int)))] ∧ I35.Le I42 ∧ St E w I42 ((Gv.one b_p0 (.cells (cs_registrarref21_Locks p0 w_p0).toArray 51 (0, 0))) :: (w_p0.L.C) :: (C_j40) :: Os) ∧ OwnSl 3 1 (RInt .i64) I42 C_j40 a_j40 c_j40 j40)) ?restj40 ?waysj40
          case waysj40 =>
            refine W.cond (b := j33) rfl rfl (fun hc => ?_) (fun hc => ?_)
            · replace hr3 := cond_t hc hr3
              refine W.region (l := [0, 1, 2, 3, 4]) (by kernel_rfl) ?_
              refine WO.vals [(0, 53, (.slice a_s17 s17.length c_s17)), (1, 54, (.int .i64 s5))] (by kernel_rfl) (fun _ => by kernel_rfl) ?_
              refine WO.newSlice (rel := (RInt .i64)) (xs := ([s5] : List Int)) hS39 rfl (by kernel_rfl) rfl 3 1 [[(.int .i64 s5)]] (by kernel_rfl) rfl ((Elr.cons rfl Elr.nil)) (fun _ _ _ => trivial) ?_
              intro a47 C45 w49 hS48 ho46
              have hS51 := hS48.front3
              obtain ⟨x52, hx_x52, hr3⟩ := bind_some hr3
              obtain ⟨h0_x52, he_x52⟩ := app_some hx_x52
              refine WO.append (e' := 3) (b := 8) (zs := #[(.int .i64 0)]) hS51 (OwnSl.mono h_s17 (hl29.trans hl36)) rfl (by kernel_rfl) rfl (by kernel_rfl) (by kernel_rfl) (by kernel_rfl) rfl rfl rfl rfl ho46.sl (hS51.rd (List.Mem.tail _ (List.Mem.head _))) h0_x52 he_x52 (fun _ _ _ => trivial) ?_
              intro a53 c54 w55 C56 hS57 ho58
              have hS59 := hS57.front1
              have hS60 := hS59.drop
              refine WO.vals [(4, 5, (.slice a53 x52.length c54))] (by kernel_rfl) (fun _ => by kernel_rfl) ?_
              refine WO.nil ?_
              have hS61 := hS60.front2
              have hS62 := hS61.front2
              have he := Option.some.inj hr3
              subst j40
              refine En.weaken (fr' := [(0, (.pointer (some ⟨b_p0, 0, none⟩))), (1, (.string p1)), (5, (.slice a53 x52.length c54)), (6, (.int .i64 s5)), (7, (.int .i64 (i18 : Int)))]) (En.round ⟨I35, a53, c54, C56, rfl, Mem.Le.refl _, hS62, ho58⟩) (Sub.cons rfl (Sub.cons rfl (Sub.cons rfl (Sub.cons rfl (Sub.cons rfl Sub.nil)))))
            · replace hr3 := cond_f hc hr3
              refine W.skip ?_
              have he := Option.some.inj hr3
              subst j40
              refine En.weaken (fr' := [(0, (.pointer (some ⟨b_p0, 0, none⟩))), (1, (.string p1)), (5, (.slice a_s17 s17.length c_s17)), (6, (.int .i64 s5)), (7, (.int .i64 (i18 : Int)))]) (En.round ⟨I35, a_s17, c_s17, C_s17, rfl, Mem.Le.refl _, hS39, (OwnSl.mono h_s17 (hl29.trans hl36))⟩) (Sub.cons rfl (Sub.cons rfl (Sub.cons rfl (Sub.cons rfl (Sub.cons rfl Sub.nil)))))
          case restj40 =>
            rintro _ w63 ⟨I42, a_j40, c_j40, C_j40, rfl, hl43, hS64, h_j40⟩
            refine En.in_normal ?_
            refine En.next ?_
            refine W.region (l := [0, 1, 2]) (by kernel_rfl) ?_
            refine WO.vals [(0, 19, (.int .i64 (i18 : Int)))] (by kernel_rfl) (fun _ => by kernel_rfl) ?_
            refine WO.incr (j := i18) rfl (by kernel_rfl) rfl (by first | omega | (dsimp only at *; omega)) ?_
            refine WO.vals [(2, 7, (.int .i64 ((i18 + 1 : Nat) : Int)))] (by kernel_rfl) (fun _ => by kernel_rfl) ?_
            refine WO.nil ?_
            have he := Option.some.inj hr2
            subst x22
            refine En.weaken (fr' := [(0, (.pointer (some ⟨b_p0, 0, none⟩))), (1, (.string p1)), (5, (.slice a_j40 j40.length c_j40)), (6, (.int .i64 s5)), (7, (.int .i64 ((i18 + 1 : Nat) : Int)))]) (En.round ⟨I42, a_j40, c_j40, C_j40, rfl, (((hl16.trans hl29).trans hl36).trans hl43), hS64, h_j40⟩) (Sub.cons rfl (Sub.cons rfl (Sub.cons rfl (Sub.cons rfl (Sub.cons rfl Sub.nil)))))
    case lastt14 =>
      rintro _ w65 ⟨I15, a_s17, c_s17, C_s17, rfl, hl16, hS66, h_s17⟩
      refine W.seq ?_
      refine W.seq ?_
      refine W.region (l := [0, 1, 2, 3, 4, 5, 6]) (by kernel_rfl) ?_
      refine WO.vals [(0, 12, (.int .i64 (p0.L.length : Int))), (1, 13, (.pointer (some ⟨b_p0, 0, none⟩))), (2, 14, (.pointer (some ⟨b_p0, 0, none⟩))), (3, 15, (.pointer (some ⟨b_p0, 0, none⟩)))] (by kernel_rfl) (fun _ => by kernel_rfl) ?_
      refine WO.load rfl (by kernel_rfl) (by kernel_rfl) rfl (v := (.slice w_p0.L.a p0.L.length w_p0.L.c)) (fun w' hw' => cell_one ((rd_f (hS66.rd (List.Mem.head _))) w' hw') (by kernel_rfl)) ?_
      refine WO.vals [(5, 17, (.int .i64 (p0.L.length : Int))), (6, 18, (.bool (decide ((p0.L.length : Int) < (p0.L.length : Int)))))] (by kernel_rfl) (fun _ => by kernel_rfl) ?_
      refine WO.nil ?_
      refine En.next ?_
      refine W.cond (b := (decide ((p0.L.length : Int) < (p0.L.length : Int)))) rfl rfl (fun hc => ?_) (fun hc => ?_)
      · exact absurd hc (by first | (simp; done) | (simp; omega))
      clear hc
      refine W.exit ?_
      refine En.nx_exit ?_
      refine En.rd_exit ?_
      refine En.in_hit ?_
      refine En.in_normal ?_
      refine En.next ?_
      refine W.region (l := [0, 1, 2]) (by kernel_rfl) ?_
      refine WO.vals [(0, 10, (.int .i64 s5)), (1, 11, (.int .i64 (w64 (s5 + 1)))), (2, 6, (.int .i64 (w64 (s5 + 1))))] (by kernel_rfl) (fun _ => by kernel_rfl) ?_
      refine WO.nil ?_
      refine En.weaken (fr' := [(0, (.pointer (some ⟨b_p0, 0, none⟩))), (1, (.string p1)), (5, (.slice a_s17 s17.length c_s17)), (6, (.int .i64 (w64 (s5 + 1))))]) (En.round ⟨(s17, (w64 (s5 + 1))), (Option.some.inj hr1).symm, I15, a_s17, c_s17, C_s17, rfl, (hl3.trans hl16), hS66, h_s17⟩) (Sub.cons rfl (Sub.cons rfl (Sub.cons rfl (Sub.cons rfl Sub.nil))))
  · replace hr1 := cond_f hc hr1
    refine W.exit ?_
    refine En.nx_exit ?_
    refine En.rd_exit ?_
    have ht := hext1 _ (Option.some.inj hr1).symm
    subst t1
    refine En.in_hit ?_
    refine En.next ?_
    refine W.seq ?_
    refine W.region (l := [0, 1]) (by kernel_rfl) ?_
    refine WO.vals [(0, 57, (.slice a_s4 s4.length c_s4))] (by kernel_rfl) (fun _ => by kernel_rfl) ?_
    have hS74 := hS12.front2
    obtain ⟨I75, hl76, hS78, hp77⟩ := OwnSl.pub h_s4 hS74
    refine WO.vals [(1, 4, (.slice a_s4 s4.length c_s4))] (by kernel_rfl) (fun _ => by kernel_rfl) ?_
    refine WO.nil ?_
    refine En.next ?_
    refine W.ret ?_
    have he := Option.some.inj hr
    subst r
    exact En.ret1 rfl (.slice a_s4 s4.length c_s4) rfl ⟨I75, a_s4, c_s4, rfl, (hl3.trans hl76), hS78, hp77⟩
def registrarlaw21_numbers (p0 : List Int) (p1 : List Int) : Option Bool := (bif ((p0.length : Int) != (p1.length : Int)) then some false else (forN (fun (i4 : Nat) => fun (_s : Unit) => (idx p0 (i4 : Int)).bind (fun (x13 : Int) => (idx p1 (i4 : Int)).bind (fun (x14 : Int) => (bif (x13 != x14) then some (.inr false) else some (.inl ()))))) p0.length 0 ()).bind (fun (t : Unit ⊕ (Bool)) => match t with | .inl _ => some true | .inr s16 => some s16))
set_option maxHeartbeats 1000000 in
theorem registrarlaw21_numbers_ok {E w : World} {I : Mem} {Os : List Mem} {p0 : List Int} {p1 : List Int} {a_p0 : Option Addr} {c_p0 : Nat} {a_p1 : Option Addr} {c_p1 : Nat} (h_p0 : RSl 1 (RInt .i64) I a_p0 c_p0 p0) (h_p1 : RSl 1 (RInt .i64) I a_p1 c_p1 p1) (hS : St E w I Os) {r : Bool} (hr : registrarlaw21_numbers p0 p1 = some r) :
    Calls P 46 #[(.slice a_p0 p0.length c_p0), (.slice a_p1 p1.length c_p1)] w (fun e w' => ∃ (I' : Mem), e = .returned (.bool r) ∧ I.Le I' ∧ St E w' I' Os) := by
  refine calls_W (args := [(.slice a_p0 p0.length c_p0), (.slice a_p1 p1.length c_p1)]) (fn := Try.f46) rfl rfl rfl ?_
  unfold registrarlaw21_numbers at hr
  refine W.seq ?_
  refine W.region (l := [0]) (by kernel_rfl) ?_
  refine WO.vals [(0, 4, (.bool false))] (by kernel_rfl) (fun _ => by kernel_rfl) ?_
  refine WO.nil ?_
  refine En.next ?_
  refine W.seq ?_
  refine W.seq ?_
  refine W.region (l := [0, 1, 2, 3, 4]) (by kernel_rfl) ?_
  refine WO.vals [(0, 6, (.slice a_p0 p0.length c_p0)), (1, 7, (.int .i64 (p0.length : Int))), (2, 8, (.slice a_p1 p1.length c_p1)), (3, 9, (.int .i64 (p1.length : Int))), (4, 10, (.bool ((p0.length : Int) != (p1.length : Int))))] (by kernel_rfl) (fun _ => by kernel_rfl) ?_
  refine WO.nil ?_
  refine En.next ?_
  refine W.cond (b := ((p0.length : Int) != (p1.length : Int))) rfl rfl (fun hc => ?_) (fun hc => ?_)
  · replace hr := cond_t hc hr
    refine W.seq ?_
    refine W.region (l := [0]) (by kernel_rfl) ?_
    refine WO.vals [(0, 4, (.bool false))] (by kernel_rfl) (fun _ => by kernel_rfl) ?_
    refine WO.nil ?_
    refine En.next ?_
    refine W.ret ?_
    refine En.nx_ret ?_
    have he := Option.some.inj hr
    subst r
    exact En.ret1 rfl (.bool false) rfl ⟨I, rfl, Mem.Le.refl _, hS⟩
  · replace hr := cond_f hc hr
    refine W.skip ?_
    refine En.next ?_
    refine W.seq ?_
    refine W.seq ?_
    refine W.region (l := [0]) (by kernel_rfl) ?_
    refine WO.vals [(0, 5, (.int .i64 0))] (by kernel_rfl) (fun _ => by kernel_rfl) ?_
    refine WO.nil ?_
    refine En.next ?_
    refine W.block ?_
    obtain ⟨t1, hloop5, hr⟩ := bind_some hr
    have hlt9 := (h_p0).len_lt
    refine W.weaken (fr' := [(0, (.slice a_p0 p0.length c_p0)), (1, (.slice a_p1 p1.length c_p1)), (5, (.int .i64 ((0 : Nat) : Int)))]) (W.forN (m := p0.length) hloop5 (fun (i4 : Nat) => fun (_s : Unit) fr w => ∃ (I2 : Mem), fr = [(0, (.slice a_p0 p0.length c_p0)), (1, (.slice a_p1 p1.length c_p1)), (5, (.int .i64 (i4 : Int)))] ∧ I.Le I2 ∧ St E w I2 Os) ⟨I, rfl, Mem.Le.refl _, hS⟩ ?roundt1 ?lastt1) (Sub.cons rfl (Sub.cons rfl (Sub.cons rfl Sub.nil)))
    case roundt1 =>
      rintro i4 _ _ w6 hi10 ⟨I2, rfl, hl3, hS7⟩ x8 hr1 hext1
      refine W.seq ?_
      refine W.seq ?_
      refine W.region (l := [0, 1, 2, 3]) (by kernel_rfl) ?_
      refine WO.vals [(0, 11, (.int .i64 (i4 : Int))), (1, 12, (.slice a_p0 p0.length c_p0)), (2, 13, (.int .i64 (p0.length : Int))), (3, 14, (.bool (decide ((i4 : Int) < (p0.length : Int)))))] (by kernel_rfl) (fun _ => by kernel_rfl) ?_
      refine WO.nil ?_
      refine En.next ?_
      refine W.cond (b := (decide ((i4 : Int) < (p0.length : Int)))) rfl rfl (fun hc => ?_) (fun hc => ?_)
      rotate_left
      · exact absurd hc (by first | (simp; done) | (simp; omega))
      clear hc
      refine W.skip ?_
      refine En.next ?_
      refine W.seq ?_
      refine W.block ?_
      refine W.seq ?_
      have hS11 := hS7.drew
      refine W.draw (l := [0, 1, 2, 3, 4, 5, 6, 7, 8]) (by kernel_rfl) 8 (KR I2 []) qR (.back (by kernel_rfl)) (by kernel_rfl) (KR.nil hS11.im) ?_
      generalize World.drew _ = w12 at *
      refine WO.vals [(0, 17, (.slice a_p0 p0.length c_p0)), (1, 18, (.int .i64 (i4 : Int)))] (by kernel_rfl) (fun _ => by kernel_rfl) ?_
      obtain ⟨x13, hx_x13, hr1⟩ := bind_some hr1
      obtain ⟨h0_x13, h1_x13, hx_x13⟩ := idx_some hx_x13
      obtain ⟨ha_x13, cs_x13, hn_x13, hr_x13, hc_x13⟩ := ((RSl.mono h_p0 hl3)).el _ _ hx_x13
      obtain rfl := hr_x13
      refine WO.indexAddr (e := 3) (sz := 1) rfl (by kernel_rfl) (by kernel_rfl) (by kernel_rfl) rfl ha_x13 rfl h0_x13 h1_x13 ?_
      refine WO.load rfl (by kernel_rfl) (by kernel_rfl) rfl (v := (.int .i64 x13)) (fun w' hw' => hc_x13.cell0 (by kernel_rfl) ((rd_i hS11.im) w' hw')) ?_
      refine WO.vals [(4, 21, (.slice a_p1 p1.length c_p1)), (5, 22, (.int .i64 (i4 : Int)))] (by kernel_rfl) (fun _ => by kernel_rfl) ?_
      obtain ⟨x14, hx_x14, hr1⟩ := bind_some hr1
      obtain ⟨h0_x14, h1_x14, hx_x14⟩ := idx_some hx_x14
      obtain ⟨ha_x14, cs_x14, hn_x14, hr_x14, hc_x14⟩ := ((RSl.mono h_p1 hl3)).el _ _ hx_x14
      obtain rfl := hr_x14
      refine WO.indexAddr (e := 3) (sz := 1) rfl (by kernel_rfl) (by kernel_rfl) (by kernel_rfl) rfl ha_x14 rfl h0_x14 h1_x14 ?_
      refine WO.load rfl (by kernel_rfl) (by kernel_rfl) rfl (v := (.int .i64 x14)) (fun w' hw' => hc_x14.cell0 (by kernel_rfl) ((rd_i hS11.im) w' hw')) ?_
      refine WO.tail rfl ?_
      refine WO.vals [(8, 25, (.bool (x13 != x14)))] (by kernel_rfl) (fun _ => by kernel_rfl) ?_
      refine WO.nil ?_
      refine En.next ?_
      refine W.cond (b := (x13 != x14)) rfl rfl (fun hc => ?_) (fun hc => ?_)
      · replace hr1 := cond_t hc hr1
        refine W.seq ?_
        refine W.region (l := [0]) (by kernel_rfl) ?_
        refine WO.vals [(0, 4, (.bool false))] (by kernel_rfl) (fun _ => by kernel_rfl) ?_
        refine WO.nil ?_
        refine En.next ?_
        refine W.ret ?_
        refine En.in_ret ?_
        refine En.nx_ret ?_
        refine En.rd_ret ?_
        have ht := hext1 _ (Option.some.inj hr1).symm
        subst t1
        refine En.in_ret ?_
        refine En.nx_ret ?_
        have he := Option.some.inj hr
        subst r
        exact En.ret1 rfl (.bool false) rfl ⟨I2, rfl, hl3, hS11⟩
      · replace hr1 := cond_f hc hr1
        refine W.skip ?_
        refine En.in_normal ?_
        refine En.next ?_
        refine W.region (l := [0, 1, 2]) (by kernel_rfl) ?_
        refine WO.vals [(0, 15, (.int .i64 (i4 : Int)))] (by kernel_rfl) (fun _ => by kernel_rfl) ?_
        refine WO.incr (j := i4) rfl (by kernel_rfl) rfl (by first | omega | (dsimp only at *; omega)) ?_
        refine WO.vals [(2, 5, (.int .i64 ((i4 + 1 : Nat) : Int)))] (by kernel_rfl) (fun _ => by kernel_rfl) ?_
        refine WO.nil ?_
        refine En.weaken (fr' := [(0, (.slice a_p0 p0.length c_p0)), (1, (.slice a_p1 p1.length c_p1)), (5, (.int .i64 ((i4 + 1 : Nat) : Int)))]) (En.round ⟨(), (Option.some.inj hr1).symm, I2, rfl, hl3, hS11⟩) (Sub.cons rfl (Sub.cons rfl (Sub.cons rfl Sub.nil)))
    case lastt1 =>
      rintro _ _ w17 ⟨I2, rfl, hl3, hS18⟩ he
      cases he
      refine W.seq ?_
      refine W.seq ?_
      refine W.region (l := [0, 1, 2, 3]) (by kernel_rfl) ?_
      refine WO.vals [(0, 11, (.int .i64 (p0.length : Int))), (1, 12, (.slice a_p0 p0.length c_p0)), (2, 13, (.int .i64 (p0.length : Int))), (3, 14, (.bool (decide ((p0.length : Int) < (p0.length : Int)))))] (by kernel_rfl) (fun _ => by kernel_rfl) ?_
      refine WO.nil ?_
      refine En.next ?_
      refine W.cond (b := (decide ((p0.length : Int) < (p0.length : Int)))) rfl rfl (fun hc => ?_) (fun hc => ?_)
      · exact absurd hc (by first | (simp; done) | (simp; omega))
      clear hc
      refine W.exit ?_
      refine En.nx_exit ?_
      refine En.rd_exit ?_
      refine En.in_hit ?_
      refine En.next ?_
      refine W.seq ?_
      refine W.region (l := [0]) (by kernel_rfl) ?_
      refine WO.vals [(0, 4, (.bool true))] (by kernel_rfl) (fun _ => by kernel_rfl) ?_
      refine WO.nil ?_
      refine En.next ?_
      refine W.ret ?_
      have he := Option.some.inj hr
      subst r
      exact En.ret1 rfl (.bool true) rfl ⟨I2, rfl, hl3, hS18⟩
def mdl_Locks_Waiters (p0 : mdl_Locks) (p1 : ByteArray) : Option (List Int) := (mdl_Locks_dead p0).bind (fun (r8 : Bool) => (some ((mget sEq p0.at_ p1).getD z_mdl_place)).bind (fun (x9 : mdl_place) => (forE (fun (i14 : Nat) => fun (s13 : List Int) => (idx x9.queue (i14 : Int)).bind (fun (x25 : mdl_one) => (app 8 s13 ([x25.who] : List Int)).bind (fun (x40 : List Int) => some x40))) x9.queue.length 0 ([] : List Int)).bind (fun (s13 : (List Int)) => some s13)))
set_option maxHeartbeats 1000000 in
theorem mdl_Locks_Waiters_ok {E w : World} {I : Mem} {Os : List Mem} {p0 : mdl_Locks} {p1 : ByteArray} {b_p0 : Nat} {w_p0 : W_mdl_Locks} (h_p0 : ok_mdl_Locks I p0 w_p0) (hS : St E w I ((Gv.one b_p0 (.cells (cs_mdl_Locks p0 w_p0).toArray 56 (0, 0))) :: (w_p0.at_.C) :: Os)) {r : (List Int)} (hr : mdl_Locks_Waiters p0 p1 = some r) :
    Calls P 12 #[(.pointer (some ⟨b_p0, 0, none⟩)), (.string p1)] w (fun e w' => ∃ (I' : Mem) (ra0 : Option Addr) (rc0 : Nat), e = .returned (.slice ra0 r.length rc0) ∧ I.Le I' ∧ St E w' I' ((Gv.one b_p0 (.cells (cs_mdl_Locks p0 w_p0).toArray 56 (0, 0))) :: w_p0.at_.C :: Os) ∧ RSl 1 (RInt .i64) I' ra0 rc0 r) := by
  refine calls_W (args := [(.pointer (some ⟨b_p0, 0, none⟩)), (.string p1)]) (fn := Try.f12) rfl rfl rfl ?_
  unfold mdl_Locks_Waiters at hr
  refine W.seq ?_
  refine W.region (l := [0]) (by kernel_rfl) ?_
  refine WO.vals [(0, 4, (.slice none 0 0))] (by kernel_rfl) (fun _ => by kernel_rfl) ?_
  refine WO.nil ?_
  refine En.next ?_
  refine W.seq ?_
  refine W.seq ?_
  refine W.region (l := [0, 1]) (by kernel_rfl) ?_
  refine WO.vals [(0, 8, (.pointer (some ⟨b_p0, 0, none⟩)))] (by kernel_rfl) (fun _ => by kernel_rfl) ?_
  have hS1 := hS.front1
  have hS2 := hS1.front1
  obtain ⟨r8, hx_r3, hr⟩ := bind_some hr
  obtain rfl : false = r8 := Option.some.inj hx_r3
  refine WO.call rfl (by kernel_rfl) rfl (f := 28) (args := #[(.pointer (some ⟨b_p0, 0, none⟩))]) (by kernel_rfl) (mdl_Locks_dead_ok h_p0 hS2 hx_r3) ?_
  rintro _ w4 ⟨I5, rfl, hl6, hS7⟩
  refine ⟨_, rfl, trivial, ?_⟩
  refine WO.nil ?_
  refine En.next ?_
  refine W.cond (b := false) rfl rfl (fun hc => ?_) (fun hc => ?_)
  · cases hc
  clear hc
  refine W.skip ?_
  refine En.next ?_
  refine W.seq ?_
  refine W.region (l := [0]) (by kernel_rfl) ?_
  refine WO.vals [(0, 5, (.slice none 0 0))] (by kernel_rfl) (fun _ => by kernel_rfl) ?_
  refine WO.nil ?_
  refine En.next ?_
  refine W.seq ?_
  refine W.seq ?_
  refine W.region (l := [0, 1, 2, 3, 4, 5, 6, 7, 8]) (by kernel_rfl) ?_
  refine WO.vals [(0, 10, (.pointer (some ⟨b_p0, 0, none⟩))), (1, 11, (.pointer (some ⟨b_p0, 0, none⟩))), (2, 12, (.pointer (some ⟨b_p0, 0, none⟩)))] (by kernel_rfl) (fun _ => by kernel_rfl) ?_
  refine WO.load rfl (by kernel_rfl) (by kernel_rfl) rfl (v := (.map (some w_p0.at_.m))) (fun w' hw' => cell_one ((rd_f (hS7.rd (List.Mem.head _))) w' hw') (by kernel_rfl)) ?_
  refine WO.vals [(4, 14, (.string p1))] (by kernel_rfl) (fun _ => by kernel_rfl) ?_
  obtain ⟨x9, hx_x9, hr⟩ := bind_some hr
  obtain ⟨v_x9, hv_x9, hq_x9⟩ := OwnMap.lookup (OwnMap.mono h_p0.at_ hl6) (t := 54) (kt := 9) (et := 68) (by kernel_rfl) (keyLaw_str (kt := 9) (by kernel_rfl)) p1 (zv := (.agg (cs_mdl_place z_mdl_place zw_mdl_place).toArray)) (z0 := z_mdl_place) (by kernel_rfl) ⟨(cs_mdl_place z_mdl_place zw_mdl_place), rfl, ⟨zw_mdl_place, rfl, zok_mdl_place⟩⟩
  rw [Option.some.inj hx_x9] at hv_x9
  obtain ⟨_, rfl, hv_x9⟩ := hv_x9
  obtain ⟨w_x9, rfl, h_x9⟩ := hv_x9
  refine WO.lookup rfl (by kernel_rfl) rfl rfl hq_x9 ((rd_f (hS7.rd (List.Mem.tail _ (List.Mem.head _))))) (.agg (cs_mdl_place x9 w_x9).toArray) rfl ?_
  refine WO.vals [(6, 16, (.slice w_x9.queue.a x9.queue.length w_x9.queue.c)), (7, 17, (.int .i64 (x9.queue.length : Int))), (8, 18, (.int .i64 0))] (by kernel_rfl) (fun _ => by kernel_rfl) ?_
  refine WO.nil ?_
  refine En.next ?_
  refine W.block ?_
  obtain ⟨s13, hloop15, hr⟩ := bind_some hr
  have hS17 := hS7.no
  have hS18 := hS17.front2
  have hS19 := hS18.front2
  have hlt23 := (h_x9.queue).len_lt
  refine W.weaken (fr' := [(5, (.slice none ([] : List Int).length 0)), (16, (.slice w_x9.queue.a x9.queue.length w_x9.queue.c)), (17, (.int .i64 (x9.queue.length : Int))), (18, (.int .i64 ((0 : Nat) : Int)))]) (W.forE (m := x9.queue.length) hloop15 (fun (i14 : Nat) => fun (s13 : List Int) fr w => ∃ (I11 : Mem), ∃ (a_s13 : Option Addr), ∃ (c_s13 : Nat), ∃ (C_s13 : Mem), fr = [(5, (.slice a_s13 s13.length c_s13)), (16, (.slice w_x9.queue.a x9.queue.length w_x9.queue.c)), (17, (.int .i64 (x9.queue.length : Int))), (18, (.int .i64 (i14 : Int)))] ∧ I5.Le I11 ∧ St E w I11 ((Gv.one b_p0 (.cells (cs_mdl_Locks p0 w_p0).toArray 56 (0, 0))) :: (w_p0.at_.C) :: (C_s13) :: Os) ∧ OwnSl 3 1 (RInt .i64) I11 C_s13 a_s13 c_s13 s13) ⟨I5, none, 0, Mem.no, rfl, Mem.Le.refl _, hS19, OwnSl.nil⟩ ?roundt10 ?lastt10) (Sub.cons rfl (Sub.cons rfl (Sub.cons rfl (Sub.cons rfl Sub.nil))))
  case roundt10 =>
    rintro i14 s13 _ w20 hi24 ⟨I11, a_s13, c_s13, C_s13, rfl, hl12, hS21, h_s13⟩ x22 hr1
    refine W.seq ?_
    refine W.region (l := [0]) (by kernel_rfl) ?_
    refine WO.vals [(0, 19, (.bool (decide ((i14 : Int) < (x9.queue.length : Int)))))] (by kernel_rfl) (fun _ => by kernel_rfl) ?_
    refine WO.nil ?_
    refine En.next ?_
    refine W.seq ?_
    refine W.cond (b := (decide ((i14 : Int) < (x9.queue.length : Int)))) rfl rfl (fun hc => ?_) (fun hc => ?_)
    rotate_left
    · exact absurd hc (by first | (simp; done) | (simp; omega))
    clear hc
    refine W.skip ?_
    refine En.next ?_
    refine W.seq ?_
    refine W.block ?_
    refine W.seq ?_
    refine W.region (l := [0, 1, 2, 3]) (by kernel_rfl) ?_
    obtain ⟨x25, hx_x25, hr1⟩ := bind_some hr1
    obtain ⟨h0_x25, h1_x25, hx_x25⟩ := idx_some hx_x25
    obtain ⟨ha_x25, cs_x25, hn_x25, hr_x25, hc_x25⟩ := ((RSl.mono h_x9.queue hl12)).el _ _ hx_x25
    obtain rfl := hr_x25
    refine WO.indexAddr (e := 70) (sz := 2) rfl (by kernel_rfl) (by kernel_rfl) (by kernel_rfl) rfl ha_x25 rfl h0_x25 h1_x25 ?_
    refine WO.loadN rfl (by kernel_rfl) (by kernel_rfl) rfl ((cs_mdl_one x25)) (by kernel_rfl) (fun w' hw' => hc_x25.cells (k := 0) (by kernel_rfl) rfl ((rd_f hS21.im) w' hw')) ?_
    refine WO.new hS21 rfl (by kernel_rfl) rfl (.cells (cs_mdl_one z_mdl_one).toArray 70 (0, 0)) (fun b => .pointer (some ⟨b, 0, none⟩)) (by kernel_rfl) (fun _ _ _ => trivial) ?_
    intro b26 w29 hS28
    refine WO.storeBox hS28 rfl (by kernel_rfl) rfl 0 rfl rfl (by kernel_rfl) (by kernel_rfl) (by kernel_rfl) ((cs_mdl_one x25).toArray) (by kernel_rfl) (fun _ _ => trivial) ?_
    intro w31 hS30
    refine WO.nil ?_
    refine En.next ?_
    refine W.region (l := [0, 1, 2, 3, 4, 5]) (by kernel_rfl) ?_
    refine WO.vals [(0, 22, (.slice a_s13 s13.length c_s13)), (1, 23, (.pointer (some ⟨b26, 0, none⟩)))] (by kernel_rfl) (fun _ => by kernel_rfl) ?_
    refine WO.load rfl (by kernel_rfl) (by kernel_rfl) rfl (v := (.int .i64 x25.who)) (fun w' hw' => cell_one ((rd_f (hS30.rd (List.Mem.head _))) w' hw') (by kernel_rfl)) ?_
    refine WO.newSlice (rel := (RInt .i64)) (xs := ([x25.who] : List Int)) hS30 rfl (by kernel_rfl) rfl 3 1 [[(.int .i64 x25.who)]] (by kernel_rfl) rfl ((Elr.cons rfl Elr.nil)) (fun _ _ _ => trivial) ?_
    intro a35 C33 w37 hS36 ho34
    have hS39 := hS36.front4
    obtain ⟨x40, hx_x40, hr1⟩ := bind_some hr1
    obtain ⟨h0_x40, he_x40⟩ := app_some hx_x40
    refine WO.append (e' := 3) (b := 8) (zs := #[(.int .i64 0)]) hS39 h_s13 rfl (by kernel_rfl) rfl (by kernel_rfl) (by kernel_rfl) (by kernel_rfl) rfl rfl rfl rfl ho34.sl (hS39.rd (List.Mem.tail _ (List.Mem.head _))) h0_x40 he_x40 (fun _ _ _ => trivial) ?_
    intro a41 c42 w43 C44 hS45 ho46
    have hS47 := hS45.front1
    have hS48 := hS47.drop
    refine WO.vals [(5, 5, (.slice a41 x40.length c42))] (by kernel_rfl) (fun _ => by kernel_rfl) ?_
    refine WO.nil ?_
    refine En.in_normal ?_
    refine En.next ?_
    refine W.region (l := [0, 1]) (by kernel_rfl) ?_
    refine WO.incr (j := i14) rfl (by kernel_rfl) rfl (by first | omega | (dsimp only at *; omega)) ?_
    refine WO.vals [(1, 18, (.int .i64 ((i14 + 1 : Nat) : Int)))] (by kernel_rfl) (fun _ => by kernel_rfl) ?_
    refine WO.nil ?_
    have hS49 := hS48.front1
    have hS50 := hS49.drop
    have hS51 := hS50.front2
    have hS52 := hS51.front2
    have he := Option.some.inj hr1
    subst x22
    refine En.weaken (fr' := [(5, (.slice a41 x40.length c42)), (16, (.slice w_x9.queue.a x9.queue.length w_x9.queue.c)), (17, (.int .i64 (x9.queue.length : Int))), (18, (.int .i64 ((i14 + 1 : Nat) : Int)))]) (En.round ⟨I11, a41, c42, C44, rfl, hl12, hS52, ho46⟩) (Sub.cons rfl (Sub.cons rfl (Sub.cons rfl (Sub.cons rfl Sub.nil))))
  case lastt10 =>
    rintro _ w53 ⟨I11, a_s13, c_s13, C_s13, rfl, hl12, hS54, h_s13⟩
    refine W.seq ?_
    refine W.region (l := [0]) (by kernel_rfl) ?_
    refine WO.vals [(0, 19, (.bool (decide ((x9.queue.length : Int) < (x9.queue.length : Int)))))] (by kernel_rfl) (fun _ => by kernel_rfl) ?_
    refine WO.nil ?_
    refine En.next ?_
    refine W.seq ?_
    refine W.cond (b := (decide ((x9.queue.length : Int) < (x9.queue.length : Int)))) rfl rfl (fun hc => ?_) (fun hc => ?_)
    · exact absurd hc (by first | (simp; done) | (simp; omega))
    clear hc
    refine W.exit ?_
    refine En.nx_exit ?_
    refine En.rd_exit ?_
    refine En.in_hit ?_
    refine En.next ?_
    refine W.seq ?_
    refine W.region (l := [0, 1]) (by kernel_rfl) ?_
    refine WO.vals [(0, 28, (.slice a_s13 s13.length c_s13))] (by kernel_rfl) (fun _ => by kernel_rfl) ?_
    have hS55 := hS54.front2
    obtain ⟨I56, hl57, hS59, hp58⟩ := OwnSl.pub h_s13 hS55
    refine WO.vals [(1, 4, (.slice a_s13 s13.length c_s13))] (by kernel_rfl) (fun _ => by kernel_rfl) ?_
    refine WO.nil ?_
    refine En.next ?_
    refine W.ret ?_
    have he := Option.some.inj hr
    subst r
    exact En.ret1 rfl (.slice a_s13 s13.length c_s13) rfl ⟨I56, a_s13, c_s13, rfl, ((hl6.trans hl12).trans hl57), hS59, hp58⟩
end Go.Proofs.Ytdmefifamlpbiaa
