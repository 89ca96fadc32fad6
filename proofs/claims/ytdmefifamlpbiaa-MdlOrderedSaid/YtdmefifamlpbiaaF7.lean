/- What functions of the program come to, each by a plain one. Conditions: none. -/
import Derived.Test.YtdmefifamlpbiaaF6
set_option maxRecDepth 100000
namespace Go.Proofs.Ytdmefifamlpbiaa
open Go.Gv
noncomputable def registrarlaw21_MdlOrdered (p0 : List registrarlaw21_Act) : Option Bool := (mdl_New).bind (fun (r6 : mdl_Locks) => (loopO (fun (s : Int × mdl_Locks) => match s with | (s10, s11) => (bif ((decide (s10 < (p0.length : Int))) && (decide (s10 < 60))) then ((idx p0 s10).bind (fun (x22 : registrarlaw21_Act) => (registrarlaw21_long x22).bind (fun (r28 : Bool) => (bif r28 then (registrarlaw21_works).bind (fun (r34 : Bool) => some (.inl (r34, s11))) else (idx p0 s10).bind (fun (x47 : registrarlaw21_Act) => (mdl_Locks_Holds s11 x47.Who).bind (fun (r61 : List api_Need) => ((bif ((x47.Do == 0) && (decide ((r61.length : Int) > 0))) then (idx r61 (w64 ((r61.length : Int) - 1))).bind (fun (x70 : api_Need) => some (!sLt x70.Path x47.Path)) else some false)).bind (fun (j66 : Bool) => (bif j66 then some (.inr s11) else ((bif (x47.Do != 0) then some { x47 with Do := 2 } else some x47)).bind (fun (j82 : registrarlaw21_Act) => (registrarlaw21_act s11 j82).bind (fun (r101 : mdl_Locks) => (mdl_Locks_Cycle r101).bind (fun (r109 : Bool) => (bif r109 then some (.inl (false, r101)) else some (.inr r101))))))))))))).bind (fun (t : (Bool × mdl_Locks) ⊕ mdl_Locks) => match t with | (.inl (s36, s37)) => some (.inr (.inl (s36, s37))) | (.inr s79) => some (.inl ((w64 (s10 + 1)), s79))) else some (.inr (.inr s11)))) (0, r6)).bind (fun (t : (Bool × mdl_Locks) ⊕ mdl_Locks) => match t with | (.inl (s39, s40)) => some s39 | (.inr s118) => (forN (fun (i123 : Nat) => fun (s122 : mdl_Locks) => (loopO (fun (s : Int × Int × Int) => match s with | (s133, s134, s135) => (bif (decide (s135 ≤ 8)) then (mdl_Locks_Waits s122 s135).bind (fun ((r147, r148) : api_Need × Bool) => ((bif r148 then some ((w64 (s133 + 1)), s134) else (mdl_Locks_Holds s122 s135).bind (fun (r169 : List api_Need) => ((bif (decide ((r169.length : Int) > 0)) then some s135 else some s134)).bind (fun (j170 : Int) => some (s133, j170))))).bind (fun ((s159, s160) : Int × Int) => some (.inl (s159, s160, (w64 (s135 + 1)))))) else some (.inr (s133, s134)))) (0, 0, 1)).bind (fun ((s183, s184) : Int × Int) => (bif ((decide (s183 > 0)) && (s184 == 0)) then some (.inr (false, s122)) else (mdl_Locks_Leave s122 s184).bind (fun ((r201, r202) : Int × mdl_Locks) => some (.inl r202))))) 9 0 s118).bind (fun (t : mdl_Locks ⊕ ((Bool × mdl_Locks))) => match t with | .inl s122 => (mdl_Locks_Paths s122).bind (fun (r225 : List ByteArray) => ((bif ((r225.length : Int) == 0) then (registrarlaw21_works).bind (fun (r235 : Bool) => some r235) else some false)).bind (fun (j226 : Bool) => some j226)) | .inr (s188, s189) => some s188)))
set_option maxHeartbeats 1000000 in
theorem registrarlaw21_MdlOrdered_ok {E w : World} {I : Mem} {Os : List Mem} {p0 : List registrarlaw21_Act} {a_p0 : Option Addr} {c_p0 : Nat} (h_p0 : RSl 4 R_registrarlaw21_Act I a_p0 c_p0 p0) (hS : St E w I Os) {r : Bool} (hr : registrarlaw21_MdlOrdered p0 = some r) :
    Calls P 5 #[(.slice a_p0 p0.length c_p0)] w (fun e w' => ∃ (I' : Mem), e = .returned (.bool r) ∧ I.Le I' ∧ St E w' I' Os) := by
  refine calls_W (args := [(.slice a_p0 p0.length c_p0)]) (fn := Try.f5) rfl rfl rfl ?_
  unfold registrarlaw21_MdlOrdered at hr
  refine W.seq ?_
  refine W.region (l := [0]) (by kernel_rfl) ?_
  refine WO.vals [(0, 2, (.bool false))] (by kernel_rfl) (fun _ => by kernel_rfl) ?_
  refine WO.nil ?_
  refine En.next ?_
  refine W.seq ?_
  refine W.region (l := [0, 1]) (by kernel_rfl) ?_
  obtain ⟨r6, hx_r1, hr⟩ := bind_some hr
  refine WO.call rfl (by kernel_rfl) rfl (f := 8) (args := #[]) (by kernel_rfl) (mdl_New_ok  hS hx_r1) ?_
  rintro _ w2 ⟨I3, b_r6, w_r6, rfl, hl4, hS5, h_r6⟩
  refine ⟨_, rfl, trivial, ?_⟩
  refine WO.vals [(1, 3, (.pointer (some ⟨b_r6, 0, none⟩)))] (by kernel_rfl) (fun _ => by kernel_rfl) ?_
  refine WO.nil ?_
  refine En.next ?_
  refine W.seq ?_
  refine W.seq ?_
  refine W.region (l := [0]) (by kernel_rfl) ?_
  refine WO.vals [(0, 4, (.int .i64 0))] (by kernel_rfl) (fun _ => by kernel_rfl) ?_
  refine WO.nil ?_
  refine En.next ?_
  refine W.block ?_
  obtain ⟨t7, hloop12, hr⟩ := bind_some hr
  refine W.weaken (fr' := [(0, (.slice a_p0 p0.length c_p0)), (3, (.pointer (some ⟨b_r6, 0, none⟩))), (4, (.int .i64 0))]) (W.loopO hloop12 (fun (s : Int × mdl_Locks) fr w => match s with | (s10, s11) => ∃ (I8 : Mem), ∃ (w_s11 : W_mdl_Locks), fr = [(0, (.slice a_p0 p0.length c_p0)), (3, (.pointer (some ⟨b_r6, 0, none⟩))), (4, (.int .i64 s10))] ∧ I3.Le I8 ∧ St E w I8 ((Gv.one b_r6 (.cells (cs_mdl_Locks s11 w_s11).toArray 56 (0, 0))) :: (w_s11.at_.C) :: Os) ∧ ok_mdl_Locks I8 s11 w_s11) ⟨I3, w_r6, rfl, Mem.Le.refl _, hS5, h_r6⟩ ?_) (Sub.cons rfl (Sub.cons rfl (Sub.cons rfl Sub.nil)))
  rintro ⟨s10, s11⟩ _ w13 ⟨I8, w_s11, rfl, hl9, hS14, h_s11⟩ x15 hr1 hext7
  refine W.seq ?_
  refine W.seq ?_
  refine W.region (l := [0, 1, 2, 3, 4, 5, 6, 7]) (by kernel_rfl) ?_
  refine WO.vals [(0, 14, (.int .i64 s10)), (1, 15, (.slice a_p0 p0.length c_p0)), (2, 16, (.int .i64 (p0.length : Int))), (3, 17, (.bool (decide (s10 < (p0.length : Int))))), (4, 18, (.bool (decide (s10 < (p0.length : Int)))))] (by kernel_rfl) (fun _ => by kernel_rfl) ?_
  refine WO.join (l1 := [5, 6, 7]) (l2 := []) (J := fun frx wx => frx = [(21, (.bool ((decide (s10 < (p0.length : Int))) && (decide (s10 < 60))))), (0, (.slice a_p0 p0.length c_p0)), (3, (.pointer (some ⟨b_r6, 0, none⟩))), (4, (.int .i64 s10))] ∧ w13 = wx) ?restm16 ?waysm16
  case waysm16 =>
    refine WO.caseb (decide (s10 < (p0.length : Int))) (fun hc => ?_) (fun hc => ?_)
    · skip
      refine WO.reslot 18 rfl (show Value.bool (decide (s10 < (p0.length : Int))) = Value.bool true by rw [hc]) ?_
      refine WO.vals [(5, 19, (.int .i64 s10)), (6, 20, (.bool (decide (s10 < 60)))), (7, 21, (.bool (decide (s10 < 60))))] (by kernel_rfl) (fun _ => by kernel_rfl) ?_
      refine WO.weaken (fr' := [(21, (.bool ((decide (s10 < (p0.length : Int))) && (decide (s10 < 60))))), (0, (.slice a_p0 p0.length c_p0)), (3, (.pointer (some ⟨b_r6, 0, none⟩))), (4, (.int .i64 s10))]) (WO.meet ⟨rfl, rfl⟩) (Sub.cons (by rw [hc]; rfl) (Sub.cons rfl (Sub.cons rfl (Sub.cons rfl Sub.nil))))
    · skip
      refine WO.reslot 18 rfl (show Value.bool (decide (s10 < (p0.length : Int))) = Value.bool false by rw [hc]) ?_
      refine WO.pass rfl (by kernel_rfl) rfl ?_
      refine WO.pass rfl (by kernel_rfl) rfl ?_
      refine WO.vals [(7, 21, (.bool false))] (by kernel_rfl) (fun _ => by kernel_rfl) ?_
      refine WO.weaken (fr' := [(21, (.bool ((decide (s10 < (p0.length : Int))) && (decide (s10 < 60))))), (0, (.slice a_p0 p0.length c_p0)), (3, (.pointer (some ⟨b_r6, 0, none⟩))), (4, (.int .i64 s10))]) (WO.meet ⟨rfl, rfl⟩) (Sub.cons (by rw [hc]; rfl) (Sub.cons rfl (Sub.cons rfl (Sub.cons rfl Sub.nil))))
  case restm16 =>
    rintro _ _ ⟨rfl, rfl⟩
    refine WO.nil ?_
    refine En.next ?_
    refine W.cond (b := ((decide (s10 < (p0.length : Int))) && (decide (s10 < 60)))) rfl rfl (fun hc => ?_) (fun hc => ?_)
    · replace hr1 := cond_t hc hr1
      refine W.skip ?_
      refine En.next ?_
      refine W.seq ?_
      obtain ⟨j18, hr2, hr1⟩ := bind_some hr1
      refine W.join (J := (fun fr w => ∃ (s79 : mdl_Locks), ∃ (I20 : Mem), ∃ (w_s79 : W_mdl_Locks), (.inr s79) = j18 ∧ fr = [(0, (.slice a_p0 p0.length c_p0)), (3, (.pointer (some ⟨b_r6, 0, none⟩))), (4, (.int .i64 s10))] ∧ I8.Le I20 ∧ St E w I20 ((Gv.one b_r6 (.cells (cs_mdl_Locks s79 w_s79).toArray 56 (0, 0))) :: (w_s79.at_.C) :: Os) ∧ ok_mdl_Locks I20 s79 w_s79)) ?restj18 ?waysj18
      case waysj18 =>
        refine W.block ?_
        refine W.seq ?_
        refine W.seq ?_
        refine W.region (l := [0, 1, 2, 3, 4]) (by kernel_rfl) ?_
        refine WO.vals [(0, 24, (.slice a_p0 p0.length c_p0)), (1, 25, (.int .i64 s10))] (by kernel_rfl) (fun _ => by kernel_rfl) ?_
        obtain ⟨x22, hx_x22, hr2⟩ := bind_some hr2
        obtain ⟨h0_x22, h1_x22, hx_x22⟩ := idx_some hx_x22
        obtain ⟨ha_x22, cs_x22, hn_x22, hr_x22, hc_x22⟩ := ((RSl.mono h_p0 (hl4.trans hl9))).el _ _ hx_x22
        obtain rfl := hr_x22
        refine WO.indexAddr (e := 27) (sz := 4) rfl (by kernel_rfl) (by kernel_rfl) (by kernel_rfl) rfl ha_x22 rfl h0_x22 h1_x22 ?_
        refine WO.loadN rfl (by kernel_rfl) (by kernel_rfl) rfl ((cs_registrarlaw21_Act x22)) (by kernel_rfl) (fun w' hw' => hc_x22.cells (k := 0) (by kernel_rfl) rfl ((rd_f hS14.im) w' hw')) ?_
        obtain ⟨r28, hx_r23, hr2⟩ := bind_some hr2
        refine WO.call rfl (by kernel_rfl) rfl (f := 9) (args := #[(.agg (cs_registrarlaw21_Act x22).toArray)]) (by kernel_rfl) (registrarlaw21_long_ok  hS14 hx_r23) ?_
        rintro _ w24 ⟨I25, rfl, hl26, hS27⟩
        refine ⟨_, rfl, trivial, ?_⟩
        refine WO.nil ?_
        refine En.next ?_
        refine W.cond (b := r28) rfl rfl (fun hc => ?_) (fun hc => ?_)
        · replace hr2 := cond_t hc hr2
          refine W.seq ?_
          refine W.region (l := [0, 1]) (by kernel_rfl) ?_
          obtain ⟨r34, hx_r29, hr2⟩ := bind_some hr2
          refine WO.call rfl (by kernel_rfl) rfl (f := 10) (args := #[]) (by kernel_rfl) (registrarlaw21_works_ok  hS27 hx_r29) ?_
          rintro _ w30 ⟨I31, rfl, hl32, hS33⟩
          refine ⟨_, rfl, trivial, ?_⟩
          refine WO.vals [(1, 2, (.bool r34))] (by kernel_rfl) (fun _ => by kernel_rfl) ?_
          refine WO.nil ?_
          refine En.next ?_
          refine W.ret ?_
          refine En.nx_ret ?_
          refine En.in_ret ?_
          refine En.rd_ret ?_
          have ht := Option.some.inj hr2
          subst j18
          refine En.nx_ret ?_
          refine En.rd_ret ?_
          have ht := hext7 _ (Option.some.inj hr1).symm
          subst t7
          refine En.in_ret ?_
          refine En.nx_ret ?_
          have hS45 := hS33.drop
          have hS46 := hS45.drop
          have he := Option.some.inj hr
          subst r
          exact En.ret1 rfl (.bool r34) rfl ⟨I31, rfl, (((hl4.trans hl9).trans hl26).trans hl32), hS46⟩
        · replace hr2 := cond_f hc hr2
          refine W.skip ?_
          refine En.next ?_
          refine W.seq ?_
          refine W.region (l := [0, 1, 2, 3, 4, 5]) (by kernel_rfl) ?_
          refine WO.vals [(0, 30, (.slice a_p0 p0.length c_p0)), (1, 31, (.int .i64 s10))] (by kernel_rfl) (fun _ => by kernel_rfl) ?_
          obtain ⟨x47, hx_x47, hr2⟩ := bind_some hr2
          obtain ⟨h0_x47, h1_x47, hx_x47⟩ := idx_some hx_x47
          obtain ⟨ha_x47, cs_x47, hn_x47, hr_x47, hc_x47⟩ := ((RSl.mono h_p0 ((hl4.trans hl9).trans hl26))).el _ _ hx_x47
          obtain rfl := hr_x47
          refine WO.indexAddr (e := 27) (sz := 4) rfl (by kernel_rfl) (by kernel_rfl) (by kernel_rfl) rfl ha_x47 rfl h0_x47 h1_x47 ?_
          refine WO.loadN rfl (by kernel_rfl) (by kernel_rfl) rfl ((cs_registrarlaw21_Act x47)) (by kernel_rfl) (fun w' hw' => hc_x47.cells (k := 0) (by kernel_rfl) rfl ((rd_f hS27.im) w' hw')) ?_
          refine WO.new hS27 rfl (by kernel_rfl) rfl (.cells (cs_registrarlaw21_Act z_registrarlaw21_Act).toArray 27 (0, 0)) (fun b => .pointer (some ⟨b, 0, none⟩)) (by kernel_rfl) (fun _ _ _ => trivial) ?_
          intro b48 w51 hS50
          refine WO.storeBox hS50 rfl (by kernel_rfl) rfl 0 rfl rfl (by kernel_rfl) (by kernel_rfl) (by kernel_rfl) ((cs_registrarlaw21_Act x47).toArray) (by kernel_rfl) (fun _ _ => trivial) ?_
          intro w53 hS52
          refine WO.nil ?_
          refine En.next ?_
          refine W.seq ?_
          refine W.region (l := [0, 1, 2, 3, 4]) (by kernel_rfl) ?_
          refine WO.vals [(0, 34, (.pointer (some ⟨b_r6, 0, none⟩))), (1, 35, (.pointer (some ⟨b48, 1, none⟩)))] (by kernel_rfl) (fun _ => by kernel_rfl) ?_
          refine WO.load rfl (by kernel_rfl) (by kernel_rfl) rfl (v := (.int .i64 x47.Who)) (fun w' hw' => cell_one ((rd_f (hS52.rd (List.Mem.head _))) w' hw') (by kernel_rfl)) ?_
          have hS54 := hS52.front2
          have hS55 := hS54.front2
          obtain ⟨r61, hx_r56, hr2⟩ := bind_some hr2
          refine WO.call rfl (by kernel_rfl) rfl (f := 18) (args := #[(.pointer (some ⟨b_r6, 0, none⟩)), (.int .i64 x47.Who)]) (by kernel_rfl) (mdl_Locks_Holds_ok (h_s11.mono hl26) hS55 hx_r56) ?_
          rintro _ w57 ⟨I58, a_r61, c_r61, rfl, hl59, hS60, h_r61⟩
          refine ⟨_, rfl, trivial, ?_⟩
          refine WO.vals [(4, 6, (.slice a_r61 r61.length c_r61))] (by kernel_rfl) (fun _ => by kernel_rfl) ?_
          refine WO.nil ?_
          refine En.next ?_
          refine W.seq ?_
          refine W.seq ?_
          have hS62 := hS60.drew
          refine W.draw (l := [0, 1, 2, 3, 4, 5, 6, 7, 8, 9, 10, 11, 12, 13, 14, 15, 16, 17, 18, 19]) (by kernel_rfl) 20 (KR I58 [Gv.one b48 (.cells (cs_registrarlaw21_Act x47).toArray 27 (0, 0))]) qR (.back (by kernel_rfl)) (by kernel_rfl) (KR.cons (hS62.rd (List.Mem.tail _ (List.Mem.tail _ (List.Mem.head _)))) (KR.nil hS62.im)) ?_
          generalize World.drew _ = w63 at *
          refine WO.vals [(0, 38, (.pointer (some ⟨b48, 0, none⟩)))] (by kernel_rfl) (fun _ => by kernel_rfl) ?_
          refine WO.load rfl (by kernel_rfl) (by kernel_rfl) rfl (v := (.int .i64 x47.Do)) (fun w' hw' => cell_one ((rd_c (List.Mem.head _) (hS62.rd (List.Mem.tail _ (List.Mem.tail _ (List.Mem.head _))))) w' hw') (by kernel_rfl)) ?_
          refine WO.vals [(2, 40, (.bool (x47.Do == 0))), (3, 41, (.bool (x47.Do == 0)))] (by kernel_rfl) (fun _ => by kernel_rfl) ?_
          refine WO.join (l1 := [4, 5, 6, 7]) (l2 := [8, 9, 10, 11, 12, 13, 14, 15, 16, 17, 18, 19]) (J := fun frx wx => frx = [(45, (.bool ((x47.Do == 0) && (decide ((r61.length : Int) > 0))))), (0, (.slice a_p0 p0.length c_p0)), (3, (.pointer (some ⟨b_r6, 0, none⟩))), (4, (.int .i64 s10)), (5, (.pointer (some ⟨b48, 0, none⟩))), (6, (.slice a_r61 r61.length c_r61))] ∧ w63 = wx) ?restm64 ?waysm64
          case waysm64 =>
            refine WO.caseb (x47.Do == 0) (fun hc => ?_) (fun hc => ?_)
            · skip
              refine WO.reslot 41 rfl (show Value.bool (x47.Do == 0) = Value.bool true by rw [hc]) ?_
              refine WO.vals [(4, 42, (.slice a_r61 r61.length c_r61)), (5, 43, (.int .i64 (r61.length : Int))), (6, 44, (.bool (decide ((r61.length : Int) > 0)))), (7, 45, (.bool (decide ((r61.length : Int) > 0))))] (by kernel_rfl) (fun _ => by kernel_rfl) ?_
              refine WO.weaken (fr' := [(45, (.bool ((x47.Do == 0) && (decide ((r61.length : Int) > 0))))), (0, (.slice a_p0 p0.length c_p0)), (3, (.pointer (some ⟨b_r6, 0, none⟩))), (4, (.int .i64 s10)), (5, (.pointer (some ⟨b48, 0, none⟩))), (6, (.slice a_r61 r61.length c_r61))]) (WO.meet ⟨rfl, rfl⟩) (Sub.cons (by rw [hc]; rfl) (Sub.cons rfl (Sub.cons rfl (Sub.cons rfl (Sub.cons rfl (Sub.cons rfl Sub.nil))))))
            · skip
              refine WO.reslot 41 rfl (show Value.bool (x47.Do == 0) = Value.bool false by rw [hc]) ?_
              refine WO.pass rfl (by kernel_rfl) rfl ?_
              refine WO.pass rfl (by kernel_rfl) rfl ?_
              refine WO.pass rfl (by kernel_rfl) rfl ?_
              refine WO.vals [(7, 45, (.bool false))] (by kernel_rfl) (fun _ => by kernel_rfl) ?_
              refine WO.weaken (fr' := [(45, (.bool ((x47.Do == 0) && (decide ((r61.length : Int) > 0))))), (0, (.slice a_p0 p0.length c_p0)), (3, (.pointer (some ⟨b_r6, 0, none⟩))), (4, (.int .i64 s10)), (5, (.pointer (some ⟨b48, 0, none⟩))), (6, (.slice a_r61 r61.length c_r61))]) (WO.meet ⟨rfl, rfl⟩) (Sub.cons (by rw [hc]; rfl) (Sub.cons rfl (Sub.cons rfl (Sub.cons rfl (Sub.cons rfl (Sub.cons rfl Sub.nil))))))
          case restm64 =>
            rintro _ _ ⟨rfl, rfl⟩
            refine WO.vals [(8, 46, (.bool ((x47.Do == 0) && (decide ((r61.length : Int) > 0)))))] (by kernel_rfl) (fun _ => by kernel_rfl) ?_
            obtain ⟨j66, hr3, hr2⟩ := bind_some hr2
            refine WO.join (l1 := [9, 10, 11, 12, 13, 14, 15, 16, 17, 18, 19]) (l2 := []) (J := (fun fr w => ∃ (I68 : Mem), fr = [(0, (.slice a_p0 p0.length c_p0)), (3, (.pointer (some ⟨b_r6, 0, none⟩))), (4, (.int .i64 s10)), (5, (.pointer (some ⟨b48, 0, none⟩))), (57, (.bool j66))] ∧ I58.Le I68 ∧ St E w I68 ((Gv.one b_r6 (.cells (cs_mdl_Locks s11 w_s11).toArray 56 (0, 0))) :: (Gv.one b48 (.cells (cs_registrarlaw21_Act x47).toArray 27 (0, 0))) :: (w_s11.at_.C) :: Os))) ?restj66 ?waysj66
            case waysj66 =>
              refine WO.caseb ((x47.Do == 0) && (decide ((r61.length : Int) > 0))) (fun hc => ?_) (fun hc => ?_)
              · replace hr3 := cond_t hc hr3
                refine WO.reslot 46 rfl (show Value.bool ((x47.Do == 0) && (decide ((r61.length : Int) > 0))) = Value.bool true by rw [hc]) ?_
                refine WO.vals [(9, 47, (.slice a_r61 r61.length c_r61)), (10, 48, (.slice a_r61 r61.length c_r61)), (11, 49, (.int .i64 (r61.length : Int))), (12, 50, (.int .i64 (w64 ((r61.length : Int) - 1))))] (by kernel_rfl) (fun _ => by kernel_rfl) ?_
                obtain ⟨x70, hx_x70, hr3⟩ := bind_some hr3
                obtain ⟨h0_x70, h1_x70, hx_x70⟩ := idx_some hx_x70
                obtain ⟨ha_x70, cs_x70, hn_x70, hr_x70, hc_x70⟩ := (h_r61).el _ _ hx_x70
                obtain rfl := hr_x70
                refine WO.indexAddr (e := 43) (sz := 2) rfl (by kernel_rfl) (by kernel_rfl) (by kernel_rfl) rfl ha_x70 rfl h0_x70 h1_x70 ?_
                refine WO.vals [(14, 52, (.pointer (some ⟨bl a_r61, of a_r61 + ((w64 ((r61.length : Int) - 1))).toNat * 2, none⟩)))] (by kernel_rfl) (fun _ => by kernel_rfl) ?_
                refine WO.load rfl (by kernel_rfl) (by kernel_rfl) rfl (v := (.string x70.Path)) (fun w' hw' => hc_x70.cell0 (by kernel_rfl) ((rd_i hS62.im) w' hw')) ?_
                refine WO.vals [(16, 54, (.pointer (some ⟨b48, 3, none⟩)))] (by kernel_rfl) (fun _ => by kernel_rfl) ?_
                refine WO.load rfl (by kernel_rfl) (by kernel_rfl) rfl (v := (.string x47.Path)) (fun w' hw' => cell_one ((rd_c (List.Mem.head _) (hS62.rd (List.Mem.tail _ (List.Mem.tail _ (List.Mem.head _))))) w' hw') (by kernel_rfl)) ?_
                refine WO.vals [(18, 56, (.bool (!sLt x70.Path x47.Path))), (19, 57, (.bool (!sLt x70.Path x47.Path)))] (by kernel_rfl) (fun _ => by kernel_rfl) ?_
                have hS71 := hS62.front1
                have hS72 := hS71.front2
                have hS73 := hS72.front2
                have he := Option.some.inj hr3
                subst j66
                refine WO.weaken (fr' := [(0, (.slice a_p0 p0.length c_p0)), (3, (.pointer (some ⟨b_r6, 0, none⟩))), (4, (.int .i64 s10)), (5, (.pointer (some ⟨b48, 0, none⟩))), (57, (.bool (!sLt x70.Path x47.Path)))]) (WO.meet ⟨I58, rfl, Mem.Le.refl _, hS73⟩) (Sub.cons rfl (Sub.cons rfl (Sub.cons rfl (Sub.cons rfl (Sub.cons rfl Sub.nil)))))
              · replace hr3 := cond_f hc hr3
                refine WO.reslot 46 rfl (show Value.bool ((x47.Do == 0) && (decide ((r61.length : Int) > 0))) = Value.bool false by rw [hc]) ?_
                refine WO.pass rfl (by kernel_rfl) rfl ?_
                refine WO.pass rfl (by kernel_rfl) rfl ?_
                refine WO.pass rfl (by kernel_rfl) rfl ?_
                refine WO.pass rfl (by kernel_rfl) rfl ?_
                refine WO.pass rfl (by kernel_rfl) rfl ?_
                refine WO.pass rfl (by kernel_rfl) rfl ?_
                refine WO.pass rfl (by kernel_rfl) rfl ?_
                refine WO.pass rfl (by kernel_rfl) rfl ?_
                refine WO.pass rfl (by kernel_rfl) rfl ?_
                refine WO.pass rfl (by kernel_rfl) rfl ?_
                refine WO.vals [(19, 57, (.bool false))] (by kernel_rfl) (fun _ => by kernel_rfl) ?_
                have hS74 := hS62.front1
                have hS75 := hS74.front2
                have hS76 := hS75.front2
                have he := Option.some.inj hr3
                subst j66
                refine WO.weaken (fr' := [(0, (.slice a_p0 p0.length c_p0)), (3, (.pointer (some ⟨b_r6, 0, none⟩))), (4, (.int .i64 s10)), (5, (.pointer (some ⟨b48, 0, none⟩))), (57, (.bool false))]) (WO.meet ⟨I58, rfl, Mem.Le.refl _, hS76⟩) (Sub.cons rfl (Sub.cons rfl (Sub.cons rfl (Sub.cons rfl (Sub.cons rfl Sub.nil)))))
            case restj66 =>
              rintro _ w77 ⟨I68, rfl, hl69, hS78⟩
              refine WO.nil ?_
              refine En.next ?_
              refine W.cond (b := j66) rfl rfl (fun hc => ?_) (fun hc => ?_)
              · replace hr2 := cond_t hc hr2
                refine W.exit ?_
                refine En.nx_exit ?_
                refine En.in_hit ?_
                have hS80 := hS78.front1
                have hS81 := hS80.drop
                refine En.weaken (fr' := [(0, (.slice a_p0 p0.length c_p0)), (3, (.pointer (some ⟨b_r6, 0, none⟩))), (4, (.int .i64 s10))]) (En.round ⟨s11, I68, w_s11, Option.some.inj hr2, rfl, ((hl26.trans hl59).trans hl69), hS81, (h_s11.mono ((hl26.trans hl59).trans hl69))⟩) (Sub.cons rfl (Sub.cons rfl (Sub.cons rfl Sub.nil)))
              · replace hr2 := cond_f hc hr2
                refine W.skip ?_
                refine En.next ?_
                refine W.seq ?_
                refine W.seq ?_
                refine W.region (l := [0, 1, 2]) (by kernel_rfl) ?_
                refine WO.vals [(0, 58, (.pointer (some ⟨b48, 0, none⟩)))] (by kernel_rfl) (fun _ => by kernel_rfl) ?_
                refine WO.load rfl (by kernel_rfl) (by kernel_rfl) rfl (v := (.int .i64 x47.Do)) (fun w' hw' => cell_one ((rd_f (hS78.rd (List.Mem.tail _ (List.Mem.head _)))) w' hw') (by kernel_rfl)) ?_
                refine WO.vals [(2, 60, (.bool (x47.Do != 0)))] (by kernel_rfl) (fun _ => by kernel_rfl) ?_
                refine WO.nil ?_
                refine En.next ?_
                obtain ⟨j82, hr3, hr2⟩ := bind_some hr2
                refine W.join (J := (fun fr w => ∃ (I84 : Mem), fr = [(0, (.slice a_p0 p0.length c_p0)), (3, (.pointer (some ⟨b_r6, 0, none⟩))), (4, (.int .i64 s10)), (5, (.pointer (some ⟨b48, 0, none⟩)))] ∧ I68.Le I84 ∧ St E w I84 ((Gv.one b_r6 (.cells (cs_mdl_Locks s11 w_s11).toArray 56 (0, 0))) :: (Gv.one b48 (.cells (cs_registrarlaw21_Act j82).toArray 27 (0, 0))) :: (w_s11.at_.C) :: Os))) ?restj82 ?waysj82
                case waysj82 =>
                  refine W.cond (b := (x47.Do != 0)) rfl rfl (fun hc => ?_) (fun hc => ?_)
                  · replace hr3 := cond_t hc hr3
                    refine W.region (l := [0, 1]) (by kernel_rfl) ?_
                    refine WO.vals [(0, 61, (.pointer (some ⟨b48, 0, none⟩)))] (by kernel_rfl) (fun _ => by kernel_rfl) ?_
                    have hS86 := hS78.front1
                    refine WO.storeBox hS86 rfl (by kernel_rfl) rfl 0 rfl rfl (by kernel_rfl) (by kernel_rfl) (by kernel_rfl) ((cs_registrarlaw21_Act ({ x47 with Do := 2 })).toArray) (by kernel_rfl) (fun _ _ => trivial) ?_
                    intro w88 hS87
                    refine WO.nil ?_
                    have hS89 := hS87.front2
                    have hS90 := hS89.front1
                    have hS91 := hS90.front2
                    have he := Option.some.inj hr3
                    subst j82
                    refine En.weaken (fr' := [(0, (.slice a_p0 p0.length c_p0)), (3, (.pointer (some ⟨b_r6, 0, none⟩))), (4, (.int .i64 s10)), (5, (.pointer (some ⟨b48, 0, none⟩)))]) (En.round ⟨I68, rfl, Mem.Le.refl _, hS91⟩) (Sub.cons rfl (Sub.cons rfl (Sub.cons rfl (Sub.cons rfl Sub.nil))))
                  · replace hr3 := cond_f hc hr3
                    refine W.skip ?_
                    have he := Option.some.inj hr3
                    subst j82
                    refine En.weaken (fr' := [(0, (.slice a_p0 p0.length c_p0)), (3, (.pointer (some ⟨b_r6, 0, none⟩))), (4, (.int .i64 s10)), (5, (.pointer (some ⟨b48, 0, none⟩)))]) (En.round ⟨I68, rfl, Mem.Le.refl _, hS78⟩) (Sub.cons rfl (Sub.cons rfl (Sub.cons rfl (Sub.cons rfl Sub.nil))))
                case restj82 =>
                  rintro _ w92 ⟨I84, rfl, hl85, hS93⟩
                  refine En.next ?_
                  refine W.seq ?_
                  refine W.region (l := [0, 1, 2]) (by kernel_rfl) ?_
                  refine WO.vals [(0, 62, (.pointer (some ⟨b_r6, 0, none⟩)))] (by kernel_rfl) (fun _ => by kernel_rfl) ?_
                  refine WO.loadN rfl (by kernel_rfl) (by kernel_rfl) rfl ((cs_registrarlaw21_Act j82)) (by kernel_rfl) (fun w' hw' => cells_one ((rd_f (hS93.rd (List.Mem.tail _ (List.Mem.head _)))) w' hw') (by kernel_rfl)) ?_
                  have hS94 := hS93.front2
                  have hS95 := hS94.front1
                  obtain ⟨r101, hx_r96, hr2⟩ := bind_some hr2
                  refine WO.call rfl (by kernel_rfl) rfl (f := 13) (args := #[(.pointer (some ⟨b_r6, 0, none⟩)), (.agg (cs_registrarlaw21_Act j82).toArray)]) (by kernel_rfl) (registrarlaw21_act_ok (h_s11.mono (((hl26.trans hl59).trans hl69).trans hl85)) hS95 hx_r96) ?_
                  rintro _ w97 ⟨I98, w_r101, rfl, hl99, hS100, h_r101⟩
                  refine ⟨_, rfl, trivial, ?_⟩
                  refine WO.nil ?_
                  refine En.next ?_
                  refine W.seq ?_
                  refine W.region (l := [0, 1]) (by kernel_rfl) ?_
                  refine WO.vals [(0, 65, (.pointer (some ⟨b_r6, 0, none⟩)))] (by kernel_rfl) (fun _ => by kernel_rfl) ?_
                  have hS102 := hS100.front1
                  have hS103 := hS102.front1
                  obtain ⟨r109, hx_r104, hr2⟩ := bind_some hr2
                  refine WO.call rfl (by kernel_rfl) rfl (f := 19) (args := #[(.pointer (some ⟨b_r6, 0, none⟩))]) (by kernel_rfl) (mdl_Locks_Cycle_ok h_r101 hS103 hx_r104) ?_
                  rintro _ w105 ⟨I106, rfl, hl107, hS108⟩
                  refine ⟨_, rfl, trivial, ?_⟩
                  refine WO.nil ?_
                  refine En.next ?_
                  refine W.cond (b := r109) rfl rfl (fun hc => ?_) (fun hc => ?_)
                  · replace hr2 := cond_t hc hr2
                    refine W.seq ?_
                    refine W.region (l := [0]) (by kernel_rfl) ?_
                    refine WO.vals [(0, 2, (.bool false))] (by kernel_rfl) (fun _ => by kernel_rfl) ?_
                    refine WO.nil ?_
                    refine En.next ?_
                    refine W.ret ?_
                    refine En.in_ret ?_
                    refine En.rd_ret ?_
                    have ht := Option.some.inj hr2
                    subst j18
                    refine En.nx_ret ?_
                    refine En.rd_ret ?_
                    have ht := hext7 _ (Option.some.inj hr1).symm
                    subst t7
                    refine En.in_ret ?_
                    refine En.nx_ret ?_
                    have hS110 := hS108.drop
                    have hS111 := hS110.drop
                    have hS112 := hS111.drop
                    have he := Option.some.inj hr
                    subst r
                    exact En.ret1 rfl (.bool false) rfl ⟨I106, rfl, (((((((hl4.trans hl9).trans hl26).trans hl59).trans hl69).trans hl85).trans hl99).trans hl107), hS112⟩
                  · replace hr2 := cond_f hc hr2
                    refine W.skip ?_
                    refine En.in_normal ?_
                    have hS113 := hS108.front2
                    have hS114 := hS113.drop
                    refine En.weaken (fr' := [(0, (.slice a_p0 p0.length c_p0)), (3, (.pointer (some ⟨b_r6, 0, none⟩))), (4, (.int .i64 s10))]) (En.round ⟨r101, I106, w_r101, Option.some.inj hr2, rfl, (((((hl26.trans hl59).trans hl69).trans hl85).trans hl99).trans hl107), hS114, (h_r101.mono hl107)⟩) (Sub.cons rfl (Sub.cons rfl (Sub.cons rfl Sub.nil)))
      case restj18 =>
        rintro _ w115 ⟨s79, I20, w_s79, rfl, rfl, hl21, hS116, h_s79⟩
        refine En.next ?_
        refine W.region (l := [0, 1, 2]) (by kernel_rfl) ?_
        refine WO.vals [(0, 22, (.int .i64 s10)), (1, 23, (.int .i64 (w64 (s10 + 1)))), (2, 4, (.int .i64 (w64 (s10 + 1))))] (by kernel_rfl) (fun _ => by kernel_rfl) ?_
        refine WO.nil ?_
        refine En.weaken (fr' := [(0, (.slice a_p0 p0.length c_p0)), (3, (.pointer (some ⟨b_r6, 0, none⟩))), (4, (.int .i64 (w64 (s10 + 1))))]) (En.round ⟨((w64 (s10 + 1)), s79), (Option.some.inj hr1).symm, I20, w_s79, rfl, (hl9.trans hl21), hS116, h_s79⟩) (Sub.cons rfl (Sub.cons rfl (Sub.cons rfl Sub.nil)))
    · replace hr1 := cond_f hc hr1
      refine W.exit ?_
      refine En.nx_exit ?_
      refine En.rd_exit ?_
      have ht := hext7 _ (Option.some.inj hr1).symm
      subst t7
      refine En.in_hit ?_
      refine En.next ?_
      refine W.seq ?_
      refine W.seq ?_
      refine W.region (l := [0]) (by kernel_rfl) ?_
      refine WO.vals [(0, 7, (.int .i64 0))] (by kernel_rfl) (fun _ => by kernel_rfl) ?_
      refine WO.nil ?_
      refine En.next ?_
      refine W.block ?_
      obtain ⟨t242, hloop247, hr⟩ := bind_some hr
      have hlt251 : (9 : Nat) < big := by decide
      refine W.weaken (fr' := [(3, (.pointer (some ⟨b_r6, 0, none⟩))), (7, (.int .i64 ((0 : Nat) : Int)))]) (W.forN (m := 9) hloop247 (fun (i246 : Nat) => fun (s245 : mdl_Locks) fr w => ∃ (I243 : Mem), ∃ (w_s245 : W_mdl_Locks), fr = [(3, (.pointer (some ⟨b_r6, 0, none⟩))), (7, (.int .i64 (i246 : Int)))] ∧ I8.Le I243 ∧ St E w I243 ((Gv.one b_r6 (.cells (cs_mdl_Locks s245 w_s245).toArray 56 (0, 0))) :: (w_s245.at_.C) :: Os) ∧ ok_mdl_Locks I243 s245 w_s245) ⟨I8, w_s11, rfl, Mem.Le.refl _, hS14, h_s11⟩ ?roundt242 ?lastt242) (Sub.cons rfl (Sub.cons rfl Sub.nil))
      case roundt242 =>
        rintro i246 s245 _ w248 hi252 ⟨I243, w_s245, rfl, hl244, hS249, h_s245⟩ x250 hr1 hext242
        refine W.seq ?_
        refine W.seq ?_
        refine W.region (l := [0, 1]) (by kernel_rfl) ?_
        refine WO.vals [(0, 67, (.int .i64 (i246 : Int))), (1, 68, (.bool (decide ((i246 : Int) < 9))))] (by kernel_rfl) (fun _ => by kernel_rfl) ?_
        refine WO.nil ?_
        refine En.next ?_
        refine W.cond (b := (decide ((i246 : Int) < 9))) rfl rfl (fun hc => ?_) (fun hc => ?_)
        rotate_left
        · exact absurd hc (by first | (simp; done) | (simp; omega))
        clear hc
        refine W.skip ?_
        refine En.next ?_
        refine W.seq ?_
        refine W.block ?_
        refine W.seq ?_
        refine W.region (l := [0, 1]) (by kernel_rfl) ?_
        refine WO.vals [(0, 8, (.int .i64 0)), (1, 9, (.int .i64 0))] (by kernel_rfl) (fun _ => by kernel_rfl) ?_
        refine WO.nil ?_
        refine En.next ?_
        refine W.seq ?_
        refine W.seq ?_
        refine W.region (l := [0]) (by kernel_rfl) ?_
        refine WO.vals [(0, 10, (.int .i64 1))] (by kernel_rfl) (fun _ => by kernel_rfl) ?_
        refine WO.nil ?_
        refine En.next ?_
        refine W.block ?_
        obtain ⟨t253, hloop259, hr1⟩ := bind_some hr1
        refine W.weaken (fr' := [(3, (.pointer (some ⟨b_r6, 0, none⟩))), (7, (.int .i64 (i246 : Int))), (8, (.int .i64 0)), (9, (.int .i64 0)), (10, (.int .i64 1))]) (W.loopO hloop259 (fun (s : Int × Int × Int) fr w => match s with | (s256, s257, s258) => ∃ (I254 : Mem), fr = [(3, (.pointer (some ⟨b_r6, 0, none⟩))), (7, (.int .i64 (i246 : Int))), (8, (.int .i64 s256)), (9, (.int .i64 s257)), (10, (.int .i64 s258))] ∧ I243.Le I254 ∧ St E w I254 ((Gv.one b_r6 (.cells (cs_mdl_Locks s245 w_s245).toArray 56 (0, 0))) :: (w_s245.at_.C) :: Os)) ⟨I243, rfl, Mem.Le.refl _, hS249⟩ ?_) (Sub.cons rfl (Sub.cons rfl (Sub.cons rfl (Sub.cons rfl (Sub.cons rfl Sub.nil)))))
        rintro ⟨s256, s257, s258⟩ _ w260 ⟨I254, rfl, hl255, hS261⟩ x262 hr2 hext253
        refine W.seq ?_
        refine W.seq ?_
        refine W.region (l := [0, 1]) (by kernel_rfl) ?_
        refine WO.vals [(0, 71, (.int .i64 s258)), (1, 72, (.bool (decide (s258 ≤ 8))))] (by kernel_rfl) (fun _ => by kernel_rfl) ?_
        refine WO.nil ?_
        refine En.next ?_
        refine W.cond (b := (decide (s258 ≤ 8))) rfl rfl (fun hc => ?_) (fun hc => ?_)
        · replace hr2 := cond_t hc hr2
          refine W.skip ?_
          refine En.next ?_
          refine W.seq ?_
          refine W.block ?_
          refine W.seq ?_
          refine W.region (l := [0, 1, 2, 3, 4, 5, 6, 7, 8]) (by kernel_rfl) ?_
          refine WO.vals [(0, 76, (.pointer (some ⟨b_r6, 0, none⟩))), (1, 77, (.int .i64 s258))] (by kernel_rfl) (fun _ => by kernel_rfl) ?_
          have hS263 := hS261.front1
          have hS264 := hS263.front1
          obtain ⟨⟨r270, r271⟩, hx_r265, hr2⟩ := bind_some hr2
          refine WO.call rfl (by kernel_rfl) rfl (f := 20) (args := #[(.pointer (some ⟨b_r6, 0, none⟩)), (.int .i64 s258)]) (by kernel_rfl) (mdl_Locks_Waits_ok (h_s245.mono hl255) hS264 hx_r265) ?_
          rintro _ w266 ⟨I267, rfl, hl268, hS269⟩
          refine ⟨_, rfl, trivial, ?_⟩
          refine WO.vals [(3, 75, (.tuple #[(.agg (cs_api_Need r270).toArray), (.bool r271)])), (4, 79, (.agg (cs_api_Need r270).toArray)), (5, 80, (.bool r271))] (by kernel_rfl) (fun _ => by kernel_rfl) ?_
          refine WO.new hS269 rfl (by kernel_rfl) rfl (.cells (cs_api_Need z_api_Need).toArray 43 (0, 0)) (fun b => .pointer (some ⟨b, 0, none⟩)) (by kernel_rfl) (fun _ _ _ => trivial) ?_
          intro b272 w275 hS274
          refine WO.storeBox hS274 rfl (by kernel_rfl) rfl 0 rfl rfl (by kernel_rfl) (by kernel_rfl) (by kernel_rfl) ((cs_api_Need r270).toArray) (by kernel_rfl) (fun _ _ => trivial) ?_
          intro w277 hS276
          refine WO.vals [(8, 12, (.bool r271))] (by kernel_rfl) (fun _ => by kernel_rfl) ?_
          refine WO.nil ?_
          refine En.next ?_
          refine W.seq ?_
          refine W.region (l := [0]) (by kernel_rfl) ?_
          refine WO.vals [(0, 81, (.bool r271))] (by kernel_rfl) (fun _ => by kernel_rfl) ?_
          refine WO.nil ?_
          refine En.next ?_
          obtain ⟨j278, hr3, hr2⟩ := bind_some hr2
          refine W.join (J := (fun fr w => ∃ (s282 : Int), ∃ (s283 : Int), ∃ (I280 : Mem), (s282, s283) = j278 ∧ fr = [(3, (.pointer (some ⟨b_r6, 0, none⟩))), (7, (.int .i64 (i246 : Int))), (8, (.int .i64 s282)), (9, (.int .i64 s283)), (10, (.int .i64 s258))] ∧ I267.Le I280 ∧ St E w I280 ((Gv.one b_r6 (.cells (cs_mdl_Locks s245 w_s245).toArray 56 (0, 0))) :: (w_s245.at_.C) :: Os))) ?restj278 ?waysj278
          case waysj278 =>
            refine W.cond (b := r271) rfl rfl (fun hc => ?_) (fun hc => ?_)
            · replace hr3 := cond_t hc hr3
              refine W.region (l := [0, 1, 2]) (by kernel_rfl) ?_
              refine WO.vals [(0, 82, (.int .i64 s256)), (1, 83, (.int .i64 (w64 (s256 + 1)))), (2, 8, (.int .i64 (w64 (s256 + 1))))] (by kernel_rfl) (fun _ => by kernel_rfl) ?_
              refine WO.nil ?_
              have hS284 := hS276.drop
              refine En.weaken (fr' := [(3, (.pointer (some ⟨b_r6, 0, none⟩))), (7, (.int .i64 (i246 : Int))), (8, (.int .i64 (w64 (s256 + 1)))), (9, (.int .i64 s257)), (10, (.int .i64 s258))]) (En.round ⟨(w64 (s256 + 1)), s257, I267, Option.some.inj hr3, rfl, Mem.Le.refl _, hS284⟩) (Sub.cons rfl (Sub.cons rfl (Sub.cons rfl (Sub.cons rfl (Sub.cons rfl Sub.nil)))))
            · replace hr3 := cond_f hc hr3
              refine W.seq ?_
              refine W.region (l := [0, 1, 2, 3, 4]) (by kernel_rfl) ?_
              refine WO.vals [(0, 84, (.pointer (some ⟨b_r6, 0, none⟩))), (1, 85, (.int .i64 s258))] (by kernel_rfl) (fun _ => by kernel_rfl) ?_
              have hS285 := hS276.front2
              have hS286 := hS285.front2
              obtain ⟨r292, hx_r287, hr3⟩ := bind_some hr3
              refine WO.call rfl (by kernel_rfl) rfl (f := 18) (args := #[(.pointer (some ⟨b_r6, 0, none⟩)), (.int .i64 s258)]) (by kernel_rfl) (mdl_Locks_Holds_ok (h_s245.mono (hl255.trans hl268)) hS286 hx_r287) ?_
              rintro _ w288 ⟨I289, a_r292, c_r292, rfl, hl290, hS291, h_r292⟩
              refine ⟨_, rfl, trivial, ?_⟩
              refine WO.vals [(3, 87, (.int .i64 (r292.length : Int))), (4, 88, (.bool (decide ((r292.length : Int) > 0))))] (by kernel_rfl) (fun _ => by kernel_rfl) ?_
              refine WO.nil ?_
              refine En.next ?_
              obtain ⟨j293, hr4, hr3⟩ := bind_some hr3
              refine W.join (J := (fun fr w => ∃ (I295 : Mem), fr = [(3, (.pointer (some ⟨b_r6, 0, none⟩))), (7, (.int .i64 (i246 : Int))), (8, (.int .i64 s256)), (9, (.int .i64 j293)), (10, (.int .i64 s258))] ∧ I289.Le I295 ∧ St E w I295 ((Gv.one b_r6 (.cells (cs_mdl_Locks s245 w_s245).toArray 56 (0, 0))) :: (w_s245.at_.C) :: Os))) ?restj293 ?waysj293
              case waysj293 =>
                refine W.cond (b := (decide ((r292.length : Int) > 0))) rfl rfl (fun hc => ?_) (fun hc => ?_)
                · replace hr4 := cond_t hc hr4
                  refine W.region (l := [0, 1]) (by kernel_rfl) ?_
                  refine WO.vals [(0, 89, (.int .i64 s258)), (1, 9, (.int .i64 s258))] (by kernel_rfl) (fun _ => by kernel_rfl) ?_
                  refine WO.nil ?_
                  have hS297 := hS291.front2
                  have hS298 := hS297.drop
                  have he := Option.some.inj hr4
                  subst j293
                  refine En.weaken (fr' := [(3, (.pointer (some ⟨b_r6, 0, none⟩))), (7, (.int .i64 (i246 : Int))), (8, (.int .i64 s256)), (9, (.int .i64 s258)), (10, (.int .i64 s258))]) (En.round ⟨I289, rfl, Mem.Le.refl _, hS298⟩) (Sub.cons rfl (Sub.cons rfl (Sub.cons rfl (Sub.cons rfl (Sub.cons rfl Sub.nil)))))
                · replace hr4 := cond_f hc hr4
                  refine W.skip ?_
                  have hS299 := hS291.front2
                  have hS300 := hS299.drop
                  have he := Option.some.inj hr4
                  subst j293
                  refine En.weaken (fr' := [(3, (.pointer (some ⟨b_r6, 0, none⟩))), (7, (.int .i64 (i246 : Int))), (8, (.int .i64 s256)), (9, (.int .i64 s257)), (10, (.int .i64 s258))]) (En.round ⟨I289, rfl, Mem.Le.refl _, hS300⟩) (Sub.cons rfl (Sub.cons rfl (Sub.cons rfl (Sub.cons rfl (Sub.cons rfl Sub.nil)))))
              case restj293 =>
                rintro _ w301 ⟨I295, rfl, hl296, hS302⟩
                refine En.weaken (fr' := [(3, (.pointer (some ⟨b_r6, 0, none⟩))), (7, (.int .i64 (i246 : Int))), (8, (.int .i64 s256)), (9, (.int .i64 j293)), (10, (.int .i64 s258))]) (En.round ⟨s256, j293, I295, Option.some.inj hr3, rfl, (hl290.trans hl296), hS302⟩) (Sub.cons rfl (Sub.cons rfl (Sub.cons rfl (Sub.cons rfl (Sub.cons rfl Sub.nil)))))
          case restj278 =>
            rintro _ w303 ⟨s282, s283, I280, rfl, rfl, hl281, hS304⟩
            refine En.in_normal ?_
            refine En.next ?_
            refine W.region (l := [0, 1, 2]) (by kernel_rfl) ?_
            refine WO.vals [(0, 73, (.int .i64 s258)), (1, 74, (.int .i64 (w64 (s258 + 1)))), (2, 10, (.int .i64 (w64 (s258 + 1))))] (by kernel_rfl) (fun _ => by kernel_rfl) ?_
            refine WO.nil ?_
            refine En.weaken (fr' := [(3, (.pointer (some ⟨b_r6, 0, none⟩))), (7, (.int .i64 (i246 : Int))), (8, (.int .i64 s282)), (9, (.int .i64 s283)), (10, (.int .i64 (w64 (s258 + 1))))]) (En.round ⟨(s282, s283, (w64 (s258 + 1))), (Option.some.inj hr2).symm, I280, rfl, ((hl255.trans hl268).trans hl281), hS304⟩) (Sub.cons rfl (Sub.cons rfl (Sub.cons rfl (Sub.cons rfl (Sub.cons rfl Sub.nil)))))
        · replace hr2 := cond_f hc hr2
          refine W.exit ?_
          refine En.nx_exit ?_
          refine En.rd_exit ?_
          have ht := hext253 _ (Option.some.inj hr2).symm
          subst t253
          refine En.in_hit ?_
          refine En.next ?_
          refine W.seq ?_
          refine W.seq ?_
          refine W.region (l := [0, 1, 2, 3, 4, 5]) (by kernel_rfl) ?_
          refine WO.vals [(0, 90, (.int .i64 s256)), (1, 91, (.bool (decide (s256 > 0)))), (2, 92, (.bool (decide (s256 > 0))))] (by kernel_rfl) (fun _ => by kernel_rfl) ?_
          refine WO.join (l1 := [3, 4, 5]) (l2 := []) (J := fun frx wx => frx = [(95, (.bool ((decide (s256 > 0)) && (s257 == 0)))), (3, (.pointer (some ⟨b_r6, 0, none⟩))), (7, (.int .i64 (i246 : Int))), (9, (.int .i64 s257))] ∧ w260 = wx) ?restm326 ?waysm326
          case waysm326 =>
            refine WO.caseb (decide (s256 > 0)) (fun hc => ?_) (fun hc => ?_)
            · skip
              refine WO.reslot 92 rfl (show Value.bool (decide (s256 > 0)) = Value.bool true by rw [hc]) ?_
              refine WO.vals [(3, 93, (.int .i64 s257)), (4, 94, (.bool (s257 == 0))), (5, 95, (.bool (s257 == 0)))] (by kernel_rfl) (fun _ => by kernel_rfl) ?_
              refine WO.weaken (fr' := [(95, (.bool ((decide (s256 > 0)) && (s257 == 0)))), (3, (.pointer (some ⟨b_r6, 0, none⟩))), (7, (.int .i64 (i246 : Int))), (9, (.int .i64 s257))]) (WO.meet ⟨rfl, rfl⟩) (Sub.cons (by rw [hc]; rfl) (Sub.cons rfl (Sub.cons rfl (Sub.cons rfl Sub.nil))))
            · skip
              refine WO.reslot 92 rfl (show Value.bool (decide (s256 > 0)) = Value.bool false by rw [hc]) ?_
              refine WO.pass rfl (by kernel_rfl) rfl ?_
              refine WO.pass rfl (by kernel_rfl) rfl ?_
              refine WO.vals [(5, 95, (.bool false))] (by kernel_rfl) (fun _ => by kernel_rfl) ?_
              refine WO.weaken (fr' := [(95, (.bool ((decide (s256 > 0)) && (s257 == 0)))), (3, (.pointer (some ⟨b_r6, 0, none⟩))), (7, (.int .i64 (i246 : Int))), (9, (.int .i64 s257))]) (WO.meet ⟨rfl, rfl⟩) (Sub.cons (by rw [hc]; rfl) (Sub.cons rfl (Sub.cons rfl (Sub.cons rfl Sub.nil))))
          case restm326 =>
            rintro _ _ ⟨rfl, rfl⟩
            refine WO.nil ?_
            refine En.next ?_
            refine W.cond (b := ((decide (s256 > 0)) && (s257 == 0))) rfl rfl (fun hc => ?_) (fun hc => ?_)
            · replace hr1 := cond_t hc hr1
              refine W.seq ?_
              refine W.region (l := [0]) (by kernel_rfl) ?_
              refine WO.vals [(0, 2, (.bool false))] (by kernel_rfl) (fun _ => by kernel_rfl) ?_
              refine WO.nil ?_
              refine En.next ?_
              refine W.ret ?_
              refine En.nx_ret ?_
              refine En.in_ret ?_
              refine En.nx_ret ?_
              refine En.rd_ret ?_
              have ht := hext242 _ (Option.some.inj hr1).symm
              subst t242
              refine En.in_ret ?_
              refine En.nx_ret ?_
              have hS328 := hS261.drop
              have hS329 := hS328.drop
              have he := Option.some.inj hr
              subst r
              exact En.ret1 rfl (.bool false) rfl ⟨I254, rfl, (((hl4.trans hl9).trans hl244).trans hl255), hS329⟩
            · replace hr1 := cond_f hc hr1
              refine W.skip ?_
              refine En.next ?_
              refine W.region (l := [0, 1, 2]) (by kernel_rfl) ?_
              refine WO.vals [(0, 96, (.pointer (some ⟨b_r6, 0, none⟩))), (1, 97, (.int .i64 s257))] (by kernel_rfl) (fun _ => by kernel_rfl) ?_
              have hS330 := hS261.front1
              have hS331 := hS330.front1
              obtain ⟨⟨r337, r338⟩, hx_r332, hr1⟩ := bind_some hr1
              refine WO.call rfl (by kernel_rfl) rfl (f := 21) (args := #[(.pointer (some ⟨b_r6, 0, none⟩)), (.int .i64 s257)]) (by kernel_rfl) (mdl_Locks_Leave_ok (h_s245.mono hl255) hS331 hx_r332) ?_
              rintro _ w333 ⟨I334, w_r338, rfl, hl335, hS336, h_r338⟩
              refine ⟨_, rfl, trivial, ?_⟩
              refine WO.nil ?_
              refine En.in_normal ?_
              refine En.next ?_
              refine W.region (l := [0, 1, 2]) (by kernel_rfl) ?_
              refine WO.vals [(0, 69, (.int .i64 (i246 : Int)))] (by kernel_rfl) (fun _ => by kernel_rfl) ?_
              refine WO.incr (j := i246) rfl (by kernel_rfl) rfl (by omega) ?_
              refine WO.vals [(2, 7, (.int .i64 ((i246 + 1 : Nat) : Int)))] (by kernel_rfl) (fun _ => by kernel_rfl) ?_
              refine WO.nil ?_
              refine En.weaken (fr' := [(3, (.pointer (some ⟨b_r6, 0, none⟩))), (7, (.int .i64 ((i246 + 1 : Nat) : Int)))]) (En.round ⟨r338, (Option.some.inj hr1).symm, I334, w_r338, rfl, ((hl244.trans hl255).trans hl335), hS336, h_r338⟩) (Sub.cons rfl (Sub.cons rfl Sub.nil))
      case lastt242 =>
        rintro s245 _ w339 ⟨I243, w_s245, rfl, hl244, hS340, h_s245⟩ he
        cases he
        refine W.seq ?_
        refine W.seq ?_
        refine W.region (l := [0, 1]) (by kernel_rfl) ?_
        refine WO.vals [(0, 67, (.int .i64 ((9 : Nat) : Int))), (1, 68, (.bool (decide (((9 : Nat) : Int) < 9))))] (by kernel_rfl) (fun _ => by kernel_rfl) ?_
        refine WO.nil ?_
        refine En.next ?_
        refine W.cond (b := (decide (((9 : Nat) : Int) < 9))) rfl rfl (fun hc => ?_) (fun hc => ?_)
        · exact absurd hc (by first | (simp; done) | (simp; omega))
        clear hc
        refine W.exit ?_
        refine En.nx_exit ?_
        refine En.rd_exit ?_
        refine En.in_hit ?_
        refine En.next ?_
        refine W.seq ?_
        refine W.region (l := [0, 1, 2, 3, 4, 5, 6, 7]) (by kernel_rfl) ?_
        refine WO.vals [(0, 99, (.pointer (some ⟨b_r6, 0, none⟩)))] (by kernel_rfl) (fun _ => by kernel_rfl) ?_
        have hS341 := hS340.front1
        have hS342 := hS341.front1
        obtain ⟨r348, hx_r343, hr⟩ := bind_some hr
        refine WO.call rfl (by kernel_rfl) rfl (f := 11) (args := #[(.pointer (some ⟨b_r6, 0, none⟩))]) (by kernel_rfl) (mdl_Locks_Paths_ok h_s245 hS342 hx_r343) ?_
        rintro _ w344 ⟨I345, a_r348, c_r348, rfl, hl346, hS347, h_r348⟩
        refine ⟨_, rfl, trivial, ?_⟩
        refine WO.vals [(2, 101, (.int .i64 (r348.length : Int))), (3, 102, (.bool ((r348.length : Int) == 0))), (4, 103, (.bool ((r348.length : Int) == 0)))] (by kernel_rfl) (fun _ => by kernel_rfl) ?_
        obtain ⟨j349, hr1, hr⟩ := bind_some hr
        refine WO.join (l1 := [5, 6]) (l2 := [7]) (J := (fun fr w => ∃ (I351 : Mem), fr = [(105, (.bool j349))] ∧ I345.Le I351 ∧ St E w I351 Os)) ?restj349 ?waysj349
        case waysj349 =>
          refine WO.caseb ((r348.length : Int) == 0) (fun hc => ?_) (fun hc => ?_)
          · replace hr1 := cond_t hc hr1
            refine WO.reslot 103 rfl (show Value.bool ((r348.length : Int) == 0) = Value.bool true by rw [hc]) ?_
            obtain ⟨r358, hx_r353, hr1⟩ := bind_some hr1
            refine WO.call rfl (by kernel_rfl) rfl (f := 10) (args := #[]) (by kernel_rfl) (registrarlaw21_works_ok  hS347 hx_r353) ?_
            rintro _ w354 ⟨I355, rfl, hl356, hS357⟩
            refine ⟨_, rfl, trivial, ?_⟩
            refine WO.vals [(6, 105, (.bool r358))] (by kernel_rfl) (fun _ => by kernel_rfl) ?_
            have hS359 := hS357.drop
            have hS360 := hS359.drop
            have he := Option.some.inj hr1
            subst j349
            refine WO.weaken (fr' := [(105, (.bool r358))]) (WO.meet ⟨I355, rfl, hl356, hS360⟩) (Sub.cons rfl Sub.nil)
          · replace hr1 := cond_f hc hr1
            refine WO.reslot 103 rfl (show Value.bool ((r348.length : Int) == 0) = Value.bool false by rw [hc]) ?_
            refine WO.pass rfl (by kernel_rfl) rfl ?_
            refine WO.vals [(6, 105, (.bool false))] (by kernel_rfl) (fun _ => by kernel_rfl) ?_
            have hS361 := hS347.drop
            have hS362 := hS361.drop
            have he := Option.some.inj hr1
            subst j349
            refine WO.weaken (fr' := [(105, (.bool false))]) (WO.meet ⟨I345, rfl, Mem.Le.refl _, hS362⟩) (Sub.cons rfl Sub.nil)
        case restj349 =>
          rintro _ w363 ⟨I351, rfl, hl352, hS364⟩
          refine WO.vals [(7, 2, (.bool j349))] (by kernel_rfl) (fun _ => by kernel_rfl) ?_
          refine WO.nil ?_
          refine En.next ?_
          refine W.ret ?_
          have he := Option.some.inj hr
          subst r
          exact En.ret1 rfl (.bool j349) rfl ⟨I351, rfl, ((((hl4.trans hl9).trans hl244).trans hl346).trans hl352), hS364⟩
end Go.Proofs.Ytdmefifamlpbiaa
