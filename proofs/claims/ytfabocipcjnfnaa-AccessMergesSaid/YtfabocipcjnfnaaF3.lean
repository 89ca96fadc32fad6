/- What functions of the program come to, each by a plain one. Conditions: none. -/
import Derived.Test.YtfabocipcjnfnaaF2
set_option maxRecDepth 100000
namespace Go.Proofs.Ytfabocipcjnfnaa
open Go.Gv
noncomputable def access_Merge (p0 : List api_Need) : Option (List api_Need) := (slices_Clone_api_Need p0).bind (fun (r6 : List api_Need) => (slices_SortStableFunc_api_Need r6 (fun (u0 : api_Need) (u1 : api_Need) => access_Merge_1 u0 u1)).bind (fun (r12 : List api_Need) => (forE (fun (i17 : Nat) => fun (s16 : List api_Need) => (idx r12 (i17 : Int)).bind (fun (x27 : api_Need) => (access_mode x27.Mode).bind (fun (r39 : Int) => ((bif (decide ((w64 ((s16.length : Int) - 1)) ≥ 0)) then (idx s16 (w64 ((s16.length : Int) - 1))).bind (fun (x48 : api_Need) => some (sEq x48.Path x27.Path)) else some false)).bind (fun (j44 : Bool) => ((bif j44 then (idx s16 (w64 ((s16.length : Int) - 1))).bind (fun (x61 : api_Need) => (access_both x61.Mode r39).bind (fun (r67 : Int) => (idx s16 (w64 ((s16.length : Int) - 1))).bind (fun (x68 : api_Need) => some (s16.set ((w64 ((s16.length : Int) - 1))).toNat (⟨x68.Path, r67⟩ : api_Need))))) else (app 24 s16 ([(⟨x27.Path, r39⟩ : api_Need)] : List api_Need)).bind (fun (x85 : List api_Need) => some x85))).bind (fun (j55 : List api_Need) => some j55))))) r12.length 0 ([] : List api_Need)).bind (fun (s16 : (List api_Need)) => some s16)))
set_option maxHeartbeats 1000000 in
theorem access_Merge_ok {E w : World} {I : Mem} {Os : List Mem} {p0 : List api_Need} {a_p0 : Option Addr} {c_p0 : Nat} (h_p0 : RSl 2 R_api_Need I a_p0 c_p0 p0) (hS : St E w I Os) {r : (List api_Need)} (hr : access_Merge p0 = some r) :
    Calls P 8 #[(.slice a_p0 p0.length c_p0)] w (fun e w' => ∃ (I' : Mem) (ra0 : Option Addr) (rc0 : Nat), e = .returned (.slice ra0 r.length rc0) ∧ I.Le I' ∧ St E w' I' Os ∧ RSl 2 R_api_Need I' ra0 rc0 r) := by
  refine calls_W (args := [(.slice a_p0 p0.length c_p0)]) (fn := Try.f8) rfl rfl rfl ?_
  unfold access_Merge at hr
  refine W.seq ?_
  refine W.region (l := [0]) (by kernel_rfl) ?_
  refine WO.vals [(0, 2, (.slice none 0 0))] (by kernel_rfl) (fun _ => by kernel_rfl) ?_
  refine WO.nil ?_
  refine En.next ?_
  refine W.seq ?_
  refine W.region (l := [0, 1, 2]) (by kernel_rfl) ?_
  refine WO.vals [(0, 8, (.slice a_p0 p0.length c_p0))] (by kernel_rfl) (fun _ => by kernel_rfl) ?_
  obtain ⟨r6, hx_r1, hr⟩ := bind_some hr
  refine WO.call rfl (by kernel_rfl) rfl (f := 12) (args := #[(.slice a_p0 p0.length c_p0)]) (by kernel_rfl) (slices_Clone_api_Need_ok h_p0 hS hx_r1) ?_
  rintro _ w2 ⟨I3, a_r6, c_r6, C_r6, rfl, hl4, hS5, h_r6⟩
  refine ⟨_, rfl, trivial, ?_⟩
  refine WO.vals [(2, 3, (.slice a_r6 r6.length c_r6))] (by kernel_rfl) (fun _ => by kernel_rfl) ?_
  refine WO.nil ?_
  refine En.next ?_
  refine W.seq ?_
  refine W.region (l := [0, 1]) (by kernel_rfl) ?_
  refine WO.vals [(0, 10, (.slice a_r6 r6.length c_r6))] (by kernel_rfl) (fun _ => by kernel_rfl) ?_
  obtain ⟨r12, hx_r7, hr⟩ := bind_some hr
  refine WO.call rfl (by kernel_rfl) rfl (f := 13) (args := #[(.slice a_r6 r6.length c_r6), (.func (.func 14) #[] #[])]) (by kernel_rfl) (slices_SortStableFunc_api_Need_ok h_r6 (fun {F Ic wc} {_} {_} hlc hSc  {rc} hrc => access_Merge_1_ok   hSc hrc) (fun _ _ => by kernel_rfl) hS5 hx_r7) ?_
  rintro _ w8 ⟨I9, C_r12, rfl, hl10, hS11, h_r12, hn_r12⟩
  refine ⟨_, rfl, trivial, ?_⟩
  refine WO.reslot 3 rfl (show Value.slice a_r6 r6.length c_r6 = Value.slice a_r6 r12.length c_r6 by rw [hn_r12]) ?_
  refine WO.reslot 9 rfl (show Value.slice a_r6 r6.length c_r6 = Value.slice a_r6 r12.length c_r6 by rw [hn_r12]) ?_
  refine WO.reslot 10 rfl (show Value.slice a_r6 r6.length c_r6 = Value.slice a_r6 r12.length c_r6 by rw [hn_r12]) ?_
  refine WO.nil ?_
  refine En.next ?_
  refine W.seq ?_
  refine W.region (l := [0]) (by kernel_rfl) ?_
  refine WO.vals [(0, 4, (.slice none 0 0))] (by kernel_rfl) (fun _ => by kernel_rfl) ?_
  refine WO.nil ?_
  refine En.next ?_
  refine W.seq ?_
  refine W.seq ?_
  refine W.region (l := [0, 1, 2]) (by kernel_rfl) ?_
  refine WO.vals [(0, 12, (.slice a_r6 r12.length c_r6)), (1, 13, (.int .i64 (r12.length : Int))), (2, 14, (.int .i64 0))] (by kernel_rfl) (fun _ => by kernel_rfl) ?_
  refine WO.nil ?_
  refine En.next ?_
  refine W.block ?_
  obtain ⟨s16, hloop18, hr⟩ := bind_some hr
  have hS20 := hS11.no
  have hS21 := hS20.front1
  have hlt25 := (h_r12.sl).len_lt
  refine W.weaken (fr' := [(4, (.slice none ([] : List api_Need).length 0)), (12, (.slice a_r6 r12.length c_r6)), (13, (.int .i64 (r12.length : Int))), (14, (.int .i64 ((0 : Nat) : Int)))]) (W.forE (m := r12.length) hloop18 (fun (i17 : Nat) => fun (s16 : List api_Need) fr w => ∃ (I14 : Mem), ∃ (a_s16 : Option Addr), ∃ (c_s16 : Nat), ∃ (C_s16 : Mem), fr = [(4, (.slice a_s16 s16.length c_s16)), (12, (.slice a_r6 r12.length c_r6)), (13, (.int .i64 (r12.length : Int))), (14, (.int .i64 (i17 : Int)))] ∧ I9.Le I14 ∧ St E w I14 ((C_r12) :: (C_s16) :: Os) ∧ OwnSl 28 2 R_api_Need I14 C_s16 a_s16 c_s16 s16) ⟨I9, none, 0, Mem.no, rfl, Mem.Le.refl _, hS21, OwnSl.nil⟩ ?roundt13 ?lastt13) (Sub.cons rfl (Sub.cons rfl (Sub.cons rfl (Sub.cons rfl Sub.nil))))
  case roundt13 =>
    rintro i17 s16 _ w22 hi26 ⟨I14, a_s16, c_s16, C_s16, rfl, hl15, hS23, h_s16⟩ x24 hr1
    refine W.seq ?_
    refine W.region (l := [0]) (by kernel_rfl) ?_
    refine WO.vals [(0, 15, (.bool (decide ((i17 : Int) < (r12.length : Int)))))] (by kernel_rfl) (fun _ => by kernel_rfl) ?_
    refine WO.nil ?_
    refine En.next ?_
    refine W.seq ?_
    refine W.cond (b := (decide ((i17 : Int) < (r12.length : Int)))) rfl rfl (fun hc => ?_) (fun hc => ?_)
    rotate_left
    · exact absurd hc (by first | (simp; done) | (simp; omega))
    clear hc
    refine W.skip ?_
    refine En.next ?_
    refine W.seq ?_
    refine W.block ?_
    refine W.seq ?_
    refine W.region (l := [0, 1, 2, 3]) (by kernel_rfl) ?_
    obtain ⟨x27, hx_x27, hr1⟩ := bind_some hr1
    obtain ⟨h0_x27, h1_x27, hx_x27⟩ := idx_some hx_x27
    obtain ⟨ha_x27, cs_x27, hn_x27, hr_x27, hc_x27⟩ := ((h_r12.mono hl15).sl).el _ _ hx_x27
    obtain rfl := hr_x27
    refine WO.indexAddr (e := 28) (sz := 2) rfl (by kernel_rfl) (by kernel_rfl) (by kernel_rfl) rfl ha_x27 rfl h0_x27 h1_x27 ?_
    refine WO.loadN rfl (by kernel_rfl) (by kernel_rfl) rfl [(.string x27.Path), (.int .i64 x27.Mode)] (by kernel_rfl) (fun w' hw' => hc_x27.cells (k := 0) rfl rfl ((rd_f (hS23.rd (List.Mem.head _))) w' hw')) ?_
    refine WO.new hS23 rfl (by kernel_rfl) rfl (.cells #[(.string (⟨#[]⟩ : ByteArray)), (.int .i64 0)] 28 (0, 0)) (fun b => .pointer (some ⟨b, 0, none⟩)) (by kernel_rfl) (fun _ _ _ => trivial) ?_
    intro b28 w31 hS30
    refine WO.storeBox hS30 rfl (by kernel_rfl) rfl 0 rfl rfl (by kernel_rfl) rfl rfl #[(.string x27.Path), (.int .i64 x27.Mode)] rfl (fun _ _ => trivial) ?_
    intro w33 hS32
    refine WO.nil ?_
    refine En.next ?_
    refine W.seq ?_
    refine W.region (l := [0, 1, 2, 3, 4]) (by kernel_rfl) ?_
    refine WO.vals [(0, 18, (.pointer (some ⟨b28, 1, none⟩)))] (by kernel_rfl) (fun _ => by kernel_rfl) ?_
    refine WO.load rfl (by kernel_rfl) (by kernel_rfl) rfl (v := (.int .i64 x27.Mode)) (fun w' hw' => cell_one ((rd_f (hS32.rd (List.Mem.head _))) w' hw') rfl) ?_
    obtain ⟨r39, hx_r34, hr1⟩ := bind_some hr1
    refine WO.call rfl (by kernel_rfl) rfl (f := 16) (args := #[(.int .i64 x27.Mode)]) (by kernel_rfl) (access_mode_ok  hS32 hx_r34) ?_
    rintro _ w35 ⟨I36, rfl, hl37, hS38⟩
    refine ⟨_, rfl, trivial, ?_⟩
    refine WO.vals [(3, 21, (.pointer (some ⟨b28, 1, none⟩)))] (by kernel_rfl) (fun _ => by kernel_rfl) ?_
    refine WO.storeBox hS38 rfl (by kernel_rfl) rfl 1 rfl rfl (by kernel_rfl) rfl rfl #[(.string x27.Path), (.int .i64 r39)] rfl (fun _ _ => trivial) ?_
    intro w41 hS40
    refine WO.nil ?_
    refine En.next ?_
    refine W.seq ?_
    refine W.region (l := [0, 1, 2, 3]) (by kernel_rfl) ?_
    refine WO.vals [(0, 22, (.slice a_s16 s16.length c_s16)), (1, 23, (.int .i64 (s16.length : Int))), (2, 24, (.int .i64 (w64 ((s16.length : Int) - 1)))), (3, 7, (.int .i64 (w64 ((s16.length : Int) - 1))))] (by kernel_rfl) (fun _ => by kernel_rfl) ?_
    refine WO.nil ?_
    refine En.next ?_
    refine W.seq ?_
    have hS42 := hS40.drew
    refine W.draw (l := [0, 1, 2, 3, 4, 5, 6, 7, 8, 9, 10, 11]) (by kernel_rfl) 12 (KR I36 [one b28 (.cells #[(.string x27.Path), (.int .i64 r39)] 28 (0, 0)), C_s16]) qR (.back (by kernel_rfl)) (by kernel_rfl) (KR.cons (hS42.rd (List.Mem.head _)) (KR.cons (hS42.rd (List.Mem.tail _ (List.Mem.tail _ (List.Mem.head _)))) (KR.nil hS42.im))) ?_
    generalize World.drew _ = w43 at *
    refine WO.vals [(0, 25, (.int .i64 (w64 ((s16.length : Int) - 1)))), (1, 26, (.bool (decide ((w64 ((s16.length : Int) - 1)) ≥ 0)))), (2, 27, (.bool (decide ((w64 ((s16.length : Int) - 1)) ≥ 0))))] (by kernel_rfl) (fun _ => by kernel_rfl) ?_
    obtain ⟨j44, hr2, hr1⟩ := bind_some hr1
    refine WO.join (l1 := [3, 4, 5, 6, 7, 8, 9, 10, 11]) (l2 := []) (J := (fun fr w => ∃ (I46 : Mem), fr = [(4, (.slice a_s16 s16.length c_s16)), (6, (.pointer (some ⟨b28, 0, none⟩))), (7, (.int .i64 (w64 ((s16.length : Int) - 1)))), (12, (.slice a_r6 r12.length c_r6)), (13, (.int .i64 (r12.length : Int))), (14, (.int .i64 (i17 : Int))), (36, (.bool j44))] ∧ I36.Le I46 ∧ St E w I46 ((C_r12) :: (C_s16) :: (one b28 (.cells #[(.string x27.Path), (.int .i64 r39)] 28 (0, 0))) :: Os))) ?restj44 ?waysj44
    case waysj44 =>
      refine WO.caseb (decide ((w64 ((s16.length : Int) - 1)) ≥ 0)) (fun hc => ?_) (fun hc => ?_)
      · replace hr2 := cond_t hc hr2
        refine WO.reslot 27 rfl (show Value.bool (decide ((w64 ((s16.length : Int) - 1)) ≥ 0)) = Value.bool true by rw [hc]) ?_
        refine WO.vals [(3, 28, (.slice a_s16 s16.length c_s16)), (4, 29, (.int .i64 (w64 ((s16.length : Int) - 1))))] (by kernel_rfl) (fun _ => by kernel_rfl) ?_
        obtain ⟨x48, hx_x48, hr2⟩ := bind_some hr2
        obtain ⟨h0_x48, h1_x48, hx_x48⟩ := idx_some hx_x48
        obtain ⟨ha_x48, cs_x48, hn_x48, hr_x48, hc_x48⟩ := ((h_s16.mono hl37).sl).el _ _ hx_x48
        obtain rfl := hr_x48
        refine WO.indexAddr (e := 28) (sz := 2) rfl (by kernel_rfl) (by kernel_rfl) (by kernel_rfl) rfl ha_x48 rfl h0_x48 h1_x48 ?_
        refine WO.vals [(6, 31, (.pointer (some ⟨bl a_s16, of a_s16 + ((w64 ((s16.length : Int) - 1))).toNat * 2, none⟩)))] (by kernel_rfl) (fun _ => by kernel_rfl) ?_
        refine WO.load rfl (by kernel_rfl) (by kernel_rfl) rfl (v := (.string x48.Path)) (fun w' hw' => hc_x48.cell0 rfl ((rd_c (List.Mem.tail _ (List.Mem.head _)) (hS42.rd (List.Mem.tail _ (List.Mem.tail _ (List.Mem.head _))))) w' hw')) ?_
        refine WO.vals [(8, 33, (.pointer (some ⟨b28, 0, none⟩)))] (by kernel_rfl) (fun _ => by kernel_rfl) ?_
        refine WO.load rfl (by kernel_rfl) (by kernel_rfl) rfl (v := (.string x27.Path)) (fun w' hw' => cell_one ((rd_c (List.Mem.head _) (hS42.rd (List.Mem.head _))) w' hw') rfl) ?_
        refine WO.vals [(10, 35, (.bool (sEq x48.Path x27.Path))), (11, 36, (.bool (sEq x48.Path x27.Path)))] (by kernel_rfl) (fun _ => by kernel_rfl) ?_
        have hS49 := hS42.front2
        have hS50 := hS49.front2
        have he := Option.some.inj hr2
        subst j44
        refine WO.weaken (fr' := [(4, (.slice a_s16 s16.length c_s16)), (6, (.pointer (some ⟨b28, 0, none⟩))), (7, (.int .i64 (w64 ((s16.length : Int) - 1)))), (12, (.slice a_r6 r12.length c_r6)), (13, (.int .i64 (r12.length : Int))), (14, (.int .i64 (i17 : Int))), (36, (.bool (sEq x48.Path x27.Path)))]) (WO.meet ⟨I36, rfl, Mem.Le.refl _, hS50⟩) (Sub.cons rfl (Sub.cons rfl (Sub.cons rfl (Sub.cons rfl (Sub.cons rfl (Sub.cons rfl (Sub.cons rfl Sub.nil)))))))
      · replace hr2 := cond_f hc hr2
        refine WO.reslot 27 rfl (show Value.bool (decide ((w64 ((s16.length : Int) - 1)) ≥ 0)) = Value.bool false by rw [hc]) ?_
        refine WO.pass rfl (by kernel_rfl) rfl ?_
        refine WO.pass rfl (by kernel_rfl) rfl ?_
        refine WO.pass rfl (by kernel_rfl) rfl ?_
        refine WO.pass rfl (by kernel_rfl) rfl ?_
        refine WO.pass rfl (by kernel_rfl) rfl ?_
        refine WO.pass rfl (by kernel_rfl) rfl ?_
        refine WO.pass rfl (by kernel_rfl) rfl ?_
        refine WO.pass rfl (by kernel_rfl) rfl ?_
        refine WO.vals [(11, 36, (.bool false))] (by kernel_rfl) (fun _ => by kernel_rfl) ?_
        have hS51 := hS42.front2
        have hS52 := hS51.front2
        have he := Option.some.inj hr2
        subst j44
        refine WO.weaken (fr' := [(4, (.slice a_s16 s16.length c_s16)), (6, (.pointer (some ⟨b28, 0, none⟩))), (7, (.int .i64 (w64 ((s16.length : Int) - 1)))), (12, (.slice a_r6 r12.length c_r6)), (13, (.int .i64 (r12.length : Int))), (14, (.int .i64 (i17 : Int))), (36, (.bool false))]) (WO.meet ⟨I36, rfl, Mem.Le.refl _, hS52⟩) (Sub.cons rfl (Sub.cons rfl (Sub.cons rfl (Sub.cons rfl (Sub.cons rfl (Sub.cons rfl (Sub.cons rfl Sub.nil)))))))
    case restj44 =>
      rintro _ w53 ⟨I46, rfl, hl47, hS54⟩
      refine WO.nil ?_
      refine En.next ?_
      obtain ⟨j55, hr2, hr1⟩ := bind_some hr1
      refine W.join (J := (fun fr w => ∃ (I57 : Mem), ∃ (a_j55 : Option Addr), ∃ (c_j55 : Nat), ∃ (C_j55 : Mem), fr = [(4, (.slice a_j55 j55.length c_j55)), (12, (.slice a_r6 r12.length c_r6)), (13, (.int .i64 (r12.length : Int))), (14, (.int .i64 (i17 : Int)))] ∧ I46.Le I57 ∧ St E w I57 ((C_r12) :: (C_j55) :: Os) ∧ OwnSl 28 2 R_api_Need I57 C_j55 a_j55 c_j55 j55)) ?restj55 ?waysj55
      case waysj55 =>
        refine W.cond (b := j44) rfl rfl (fun hc => ?_) (fun hc => ?_)
        · replace hr2 := cond_t hc hr2
          have hS59 := hS54.drew
          refine W.draw (l := [0, 1, 2, 3, 4, 5, 6, 7, 8, 9, 10, 11, 12]) (by kernel_rfl) 9 (KR I46 [C_s16, one b28 (.cells #[(.string x27.Path), (.int .i64 r39)] 28 (0, 0))]) qR (.back (by kernel_rfl)) (by kernel_rfl) (KR.cons (hS59.rd (List.Mem.tail _ (List.Mem.head _))) (KR.cons (hS59.rd (List.Mem.tail _ (List.Mem.tail _ (List.Mem.head _)))) (KR.nil hS59.im))) ?_
          generalize World.drew _ = w60 at *
          refine WO.vals [(0, 37, (.slice a_s16 s16.length c_s16)), (1, 38, (.int .i64 (w64 ((s16.length : Int) - 1)))), (2, 39, (.slice a_s16 s16.length c_s16)), (3, 40, (.int .i64 (w64 ((s16.length : Int) - 1))))] (by kernel_rfl) (fun _ => by kernel_rfl) ?_
          obtain ⟨x61, hx_x61, hr2⟩ := bind_some hr2
          obtain ⟨h0_x61, h1_x61, hx_x61⟩ := idx_some hx_x61
          obtain ⟨ha_x61, cs_x61, hn_x61, hr_x61, hc_x61⟩ := ((h_s16.mono (hl37.trans hl47)).sl).el _ _ hx_x61
          obtain rfl := hr_x61
          refine WO.indexAddr (e := 28) (sz := 2) rfl (by kernel_rfl) (by kernel_rfl) (by kernel_rfl) rfl ha_x61 rfl h0_x61 h1_x61 ?_
          refine WO.vals [(5, 42, (.pointer (some ⟨bl a_s16, of a_s16 + ((w64 ((s16.length : Int) - 1))).toNat * 2 + 1, none⟩)))] (by kernel_rfl) (fun _ => by kernel_rfl) ?_
          refine WO.load rfl (by kernel_rfl) (by kernel_rfl) rfl (v := (.int .i64 x61.Mode)) (fun w' hw' => hc_x61.cellk 1 rfl ((rd_c (List.Mem.head _) (hS59.rd (List.Mem.tail _ (List.Mem.head _)))) w' hw')) ?_
          refine WO.vals [(7, 44, (.pointer (some ⟨b28, 1, none⟩)))] (by kernel_rfl) (fun _ => by kernel_rfl) ?_
          refine WO.load rfl (by kernel_rfl) (by kernel_rfl) rfl (v := (.int .i64 r39)) (fun w' hw' => cell_one ((rd_c (List.Mem.tail _ (List.Mem.head _)) (hS59.rd (List.Mem.tail _ (List.Mem.tail _ (List.Mem.head _))))) w' hw') rfl) ?_
          refine WO.tail rfl ?_
          obtain ⟨r67, hx_r62, hr2⟩ := bind_some hr2
          refine WO.call rfl (by kernel_rfl) rfl (f := 17) (args := #[(.int .i64 x61.Mode), (.int .i64 r39)]) (by kernel_rfl) (access_both_ok  hS59 hx_r62) ?_
          rintro _ w63 ⟨I64, rfl, hl65, hS66⟩
          refine ⟨_, rfl, trivial, ?_⟩
          obtain ⟨x68, hx_x68, hr2⟩ := bind_some hr2
          obtain ⟨h0_x68, h1_x68, hx_x68⟩ := idx_some hx_x68
          obtain ⟨ha_x68, cs_x68, hn_x68, hr_x68, hc_x68⟩ := ((h_s16.mono ((hl37.trans hl47).trans hl65)).sl).el _ _ hx_x68
          obtain rfl := hr_x68
          refine WO.indexAddr (e := 28) (sz := 2) rfl (by kernel_rfl) (by kernel_rfl) (by kernel_rfl) rfl ha_x68 rfl h0_x68 h1_x68 ?_
          refine WO.vals [(11, 48, (.pointer (some ⟨bl a_s16, of a_s16 + ((w64 ((s16.length : Int) - 1))).toNat * 2 + 1, none⟩)))] (by kernel_rfl) (fun _ => by kernel_rfl) ?_
          have hS69 := hS66.front1
          refine WO.storeOwn hS69 (OwnSl.mono h_s16 ((hl37.trans hl47).trans hl65)) rfl (by kernel_rfl) rfl hx_x68 (u' := (⟨x68.Path, r67⟩ : api_Need)) 1 rfl rfl (by kernel_rfl) rfl rfl (fun cs hrel => (by obtain rfl := hrel; exact rfl)) (fun _ _ _ => trivial) ?_
          intro w71 C72 hS70 ho73
          refine WO.reslot 4 rfl (show Value.slice a_s16 s16.length c_s16 = Value.slice a_s16 (s16.set ((w64 ((s16.length : Int) - 1))).toNat (⟨x68.Path, r67⟩ : api_Need)).length c_s16 by simp only [List.length_set]) ?_
          refine WO.nil ?_
          have hS74 := hS70.front2
          have hS75 := hS74.drop
          have hS76 := hS75.front1
          have he := Option.some.inj hr2
          subst j55
          refine En.weaken (fr' := [(4, (.slice a_s16 (s16.set ((w64 ((s16.length : Int) - 1))).toNat (⟨x68.Path, r67⟩ : api_Need)).length c_s16)), (12, (.slice a_r6 r12.length c_r6)), (13, (.int .i64 (r12.length : Int))), (14, (.int .i64 (i17 : Int)))]) (En.round ⟨I64, a_s16, c_s16, C72, rfl, hl65, hS76, ho73⟩) (Sub.cons rfl (Sub.cons rfl (Sub.cons rfl (Sub.cons rfl Sub.nil))))
        · replace hr2 := cond_f hc hr2
          refine W.region (l := [0, 1, 2, 3, 4]) (by kernel_rfl) ?_
          refine WO.vals [(0, 49, (.slice a_s16 s16.length c_s16))] (by kernel_rfl) (fun _ => by kernel_rfl) ?_
          refine WO.loadN rfl (by kernel_rfl) (by kernel_rfl) rfl [(.string x27.Path), (.int .i64 r39)] (by kernel_rfl) (fun w' hw' => cells_one ((rd_f (hS54.rd (List.Mem.tail _ (List.Mem.tail _ (List.Mem.head _))))) w' hw') rfl) ?_
          refine WO.newSlice (rel := R_api_Need) (xs := ([(⟨x27.Path, r39⟩ : api_Need)] : List api_Need)) hS54 rfl (by kernel_rfl) rfl 28 2 [[(.string x27.Path), (.int .i64 r39)]] (by kernel_rfl) rfl ((Elr.cons rfl Elr.nil)) (fun _ _ _ => trivial) ?_
          intro a80 C78 w82 hS81 ho79
          have hS84 := hS81.front2
          obtain ⟨x85, hx_x85, hr2⟩ := bind_some hr2
          obtain ⟨h0_x85, he_x85⟩ := app_some hx_x85
          refine WO.append (e' := 28) (b := 24) (zs := #[(.string (⟨#[]⟩ : ByteArray)), (.int .i64 0)]) hS84 (OwnSl.mono h_s16 (hl37.trans hl47)) rfl (by kernel_rfl) rfl (by kernel_rfl) (by kernel_rfl) (by kernel_rfl) rfl rfl rfl rfl ho79.sl (hS84.rd (List.Mem.tail _ (List.Mem.head _))) h0_x85 he_x85 (fun _ _ _ => trivial) ?_
          intro a86 c87 w88 C89 hS90 ho91
          have hS92 := hS90.front1
          have hS93 := hS92.drop
          refine WO.vals [(4, 4, (.slice a86 x85.length c87))] (by kernel_rfl) (fun _ => by kernel_rfl) ?_
          refine WO.nil ?_
          have hS94 := hS93.front2
          have hS95 := hS94.drop
          have hS96 := hS95.front1
          have he := Option.some.inj hr2
          subst j55
          refine En.weaken (fr' := [(4, (.slice a86 x85.length c87)), (12, (.slice a_r6 r12.length c_r6)), (13, (.int .i64 (r12.length : Int))), (14, (.int .i64 (i17 : Int)))]) (En.round ⟨I46, a86, c87, C89, rfl, Mem.Le.refl _, hS96, ho91⟩) (Sub.cons rfl (Sub.cons rfl (Sub.cons rfl (Sub.cons rfl Sub.nil))))
      case restj55 =>
        rintro _ w97 ⟨I57, a_j55, c_j55, C_j55, rfl, hl58, hS98, h_j55⟩
        refine En.in_normal ?_
        refine En.next ?_
        refine W.region (l := [0, 1]) (by kernel_rfl) ?_
        refine WO.incr (j := i17) rfl (by kernel_rfl) rfl (by omega) ?_
        refine WO.vals [(1, 14, (.int .i64 ((i17 + 1 : Nat) : Int)))] (by kernel_rfl) (fun _ => by kernel_rfl) ?_
        refine WO.nil ?_
        have he := Option.some.inj hr1
        subst x24
        refine En.weaken (fr' := [(4, (.slice a_j55 j55.length c_j55)), (12, (.slice a_r6 r12.length c_r6)), (13, (.int .i64 (r12.length : Int))), (14, (.int .i64 ((i17 + 1 : Nat) : Int)))]) (En.round ⟨I57, a_j55, c_j55, C_j55, rfl, (((hl15.trans hl37).trans hl47).trans hl58), hS98, h_j55⟩) (Sub.cons rfl (Sub.cons rfl (Sub.cons rfl (Sub.cons rfl Sub.nil))))
  case lastt13 =>
    rintro _ w99 ⟨I14, a_s16, c_s16, C_s16, rfl, hl15, hS100, h_s16⟩
    refine W.seq ?_
    refine W.region (l := [0]) (by kernel_rfl) ?_
    refine WO.vals [(0, 15, (.bool (decide ((r12.length : Int) < (r12.length : Int)))))] (by kernel_rfl) (fun _ => by kernel_rfl) ?_
    refine WO.nil ?_
    refine En.next ?_
    refine W.seq ?_
    refine W.cond (b := (decide ((r12.length : Int) < (r12.length : Int)))) rfl rfl (fun hc => ?_) (fun hc => ?_)
    · exact absurd hc (by first | (simp; done) | (simp; omega))
    clear hc
    refine W.exit ?_
    refine En.nx_exit ?_
    refine En.rd_exit ?_
    refine En.in_hit ?_
    refine En.next ?_
    refine W.seq ?_
    refine W.region (l := [0, 1]) (by kernel_rfl) ?_
    refine WO.vals [(0, 54, (.slice a_s16 s16.length c_s16))] (by kernel_rfl) (fun _ => by kernel_rfl) ?_
    have hS101 := hS100.front1
    obtain ⟨I102, hl103, hS105, hp104⟩ := OwnSl.pub h_s16 hS101
    refine WO.vals [(1, 2, (.slice a_s16 s16.length c_s16))] (by kernel_rfl) (fun _ => by kernel_rfl) ?_
    refine WO.nil ?_
    refine En.next ?_
    refine W.ret ?_
    have hS106 := hS105.drop
    have he := Option.some.inj hr
    subst r
    exact En.ret1 rfl (.slice a_s16 s16.length c_s16) rfl ⟨I102, a_s16, c_s16, rfl, (((hl4.trans hl10).trans hl15).trans hl103), hS106, hp104⟩
def slices_IndexFunc_api_Need (p0 : List api_Need) (p1 : api_Need → Option Bool) : Option Int := (forN (fun (i4 : Nat) => fun (_s : Unit) => (idx p0 (i4 : Int)).bind (fun (x11 : api_Need) => (p1 x11).bind (fun (r17 : Bool) => (bif r17 then some (.inr (i4 : Int)) else some (.inl ()))))) p0.length 0 ()).bind (fun (t : Unit ⊕ (Int)) => match t with | .inl _ => some (-1) | .inr s19 => some s19)
set_option maxHeartbeats 1000000 in
theorem slices_IndexFunc_api_Need_ok {E w : World} {I : Mem} {Os : List Mem} {p0 : List api_Need} {p1 : api_Need → Option Bool} {a_p0 : Option Addr} {c_p0 : Nat} {g_p1 : FuncId} {k_p1 : List Value} (h_p0 : RSl 2 R_api_Need I a_p0 c_p0 p0) (h_p1 : ∀ {F : List Mem} {I' : Mem} {w : World} {u0 : api_Need}, I.Le I' → St E w I' (F ++ Os) → ∀ {r : Bool}, p1 u0 = some r → Calls P g_p1 (([(.agg #[(.string u0.Path), (.int .i64 u0.Mode)])] : List Value) ++ k_p1).toArray w (fun e w' => ∃ (I'' : Mem), e = .returned (.bool r) ∧ I'.Le I'' ∧ St E w' I'' (F ++ Os))) (hcall_p1 : Callable P g_p1) (hS : St E w I Os) {r : Int} (hr : slices_IndexFunc_api_Need p0 p1 = some r) :
    Calls P 24 #[(.slice a_p0 p0.length c_p0), (.func (.func g_p1) #[] k_p1.toArray)] w (fun e w' => ∃ (I' : Mem), e = .returned (.int .i64 r) ∧ I.Le I' ∧ St E w' I' Os) := by
  refine calls_W (args := [(.slice a_p0 p0.length c_p0), (.func (.func g_p1) #[] k_p1.toArray)]) (fn := Try.f24) rfl rfl rfl ?_
  unfold slices_IndexFunc_api_Need at hr
  refine W.seq ?_
  refine W.region (l := [0]) (by kernel_rfl) ?_
  refine WO.vals [(0, 4, (.int .i64 0))] (by kernel_rfl) (fun _ => by kernel_rfl) ?_
  refine WO.nil ?_
  refine En.next ?_
  refine W.seq ?_
  refine W.seq ?_
  refine W.region (l := [0, 1, 2]) (by kernel_rfl) ?_
  refine WO.vals [(0, 6, (.slice a_p0 p0.length c_p0)), (1, 7, (.int .i64 (p0.length : Int))), (2, 8, (.int .i64 0))] (by kernel_rfl) (fun _ => by kernel_rfl) ?_
  refine WO.nil ?_
  refine En.next ?_
  refine W.block ?_
  obtain ⟨t1, hloop5, hr⟩ := bind_some hr
  have hlt9 := (h_p0).len_lt
  refine W.weaken (fr' := [(0, (.slice a_p0 p0.length c_p0)), (1, (.func (.func g_p1) #[] k_p1.toArray)), (7, (.int .i64 (p0.length : Int))), (8, (.int .i64 ((0 : Nat) : Int)))]) (W.forN (m := p0.length) hloop5 (fun (i4 : Nat) => fun (_s : Unit) fr w => ∃ (I2 : Mem), fr = [(0, (.slice a_p0 p0.length c_p0)), (1, (.func (.func g_p1) #[] k_p1.toArray)), (7, (.int .i64 (p0.length : Int))), (8, (.int .i64 (i4 : Int)))] ∧ I.Le I2 ∧ St E w I2 Os) ⟨I, rfl, Mem.Le.refl _, hS⟩ ?roundt1 ?lastt1) (Sub.cons rfl (Sub.cons rfl (Sub.cons rfl (Sub.cons rfl Sub.nil))))
  case roundt1 =>
    rintro i4 _ _ w6 hi10 ⟨I2, rfl, hl3, hS7⟩ x8 hr1 hext1
    refine W.seq ?_
    refine W.region (l := [0]) (by kernel_rfl) ?_
    refine WO.vals [(0, 9, (.bool (decide ((i4 : Int) < (p0.length : Int)))))] (by kernel_rfl) (fun _ => by kernel_rfl) ?_
    refine WO.nil ?_
    refine En.next ?_
    refine W.seq ?_
    refine W.cond (b := (decide ((i4 : Int) < (p0.length : Int)))) rfl rfl (fun hc => ?_) (fun hc => ?_)
    rotate_left
    · exact absurd hc (by first | (simp; done) | (simp; omega))
    clear hc
    refine W.skip ?_
    refine En.next ?_
    refine W.seq ?_
    refine W.block ?_
    refine W.seq ?_
    refine W.region (l := [0, 1]) (by kernel_rfl) ?_
    refine WO.vals [(0, 10, (.int .i64 (i4 : Int))), (1, 5, (.int .i64 (i4 : Int)))] (by kernel_rfl) (fun _ => by kernel_rfl) ?_
    refine WO.nil ?_
    refine En.next ?_
    refine W.seq ?_
    refine W.region (l := [0, 1, 2, 3, 4, 5]) (by kernel_rfl) ?_
    refine WO.vals [(0, 11, (.func (.func g_p1) #[] k_p1.toArray)), (1, 12, (.slice a_p0 p0.length c_p0)), (2, 13, (.int .i64 (i4 : Int)))] (by kernel_rfl) (fun _ => by kernel_rfl) ?_
    obtain ⟨x11, hx_x11, hr1⟩ := bind_some hr1
    obtain ⟨h0_x11, h1_x11, hx_x11⟩ := idx_some hx_x11
    obtain ⟨ha_x11, cs_x11, hn_x11, hr_x11, hc_x11⟩ := ((RSl.mono h_p0 hl3)).el _ _ hx_x11
    obtain rfl := hr_x11
    refine WO.indexAddr (e := 28) (sz := 2) rfl (by kernel_rfl) (by kernel_rfl) (by kernel_rfl) rfl ha_x11 rfl h0_x11 h1_x11 ?_
    refine WO.loadN rfl (by kernel_rfl) (by kernel_rfl) rfl [(.string x11.Path), (.int .i64 x11.Mode)] (by kernel_rfl) (fun w' hw' => hc_x11.cells (k := 0) rfl rfl ((rd_f hS7.im) w' hw')) ?_
    obtain ⟨r17, hx_r12, hr1⟩ := bind_some hr1
    refine WO.callv rfl (by kernel_rfl) rfl (g := g_p1) (kk := k_p1) (args := [(.agg #[(.string x11.Path), (.int .i64 x11.Mode)])]) rfl (by kernel_rfl) hcall_p1 (h_p1 (F := []) hl3 hS7  hx_r12) ?_
    rintro _ w13 ⟨I14, rfl, hl15, hS16⟩
    refine ⟨_, rfl, trivial, ?_⟩
    refine WO.nil ?_
    refine En.next ?_
    refine W.cond (b := r17) rfl rfl (fun hc => ?_) (fun hc => ?_)
    · replace hr1 := cond_t hc hr1
      refine W.seq ?_
      refine W.region (l := [0, 1]) (by kernel_rfl) ?_
      refine WO.vals [(0, 17, (.int .i64 (i4 : Int))), (1, 4, (.int .i64 (i4 : Int)))] (by kernel_rfl) (fun _ => by kernel_rfl) ?_
      refine WO.nil ?_
      refine En.next ?_
      refine W.ret ?_
      refine En.in_ret ?_
      refine En.nx_ret ?_
      refine En.rd_ret ?_
      have ht := hext1 _ (Option.some.inj hr1).symm
      subst t1
      refine En.in_ret ?_
      refine En.nx_ret ?_
      have he := Option.some.inj hr
      subst r
      exact En.ret1 rfl (.int .i64 (i4 : Int)) rfl ⟨I14, rfl, (hl3.trans hl15), hS16⟩
    · replace hr1 := cond_f hc hr1
      refine W.skip ?_
      refine En.in_normal ?_
      refine En.next ?_
      refine W.region (l := [0, 1]) (by kernel_rfl) ?_
      refine WO.incr (j := i4) rfl (by kernel_rfl) rfl (by omega) ?_
      refine WO.vals [(1, 8, (.int .i64 ((i4 + 1 : Nat) : Int)))] (by kernel_rfl) (fun _ => by kernel_rfl) ?_
      refine WO.nil ?_
      refine En.weaken (fr' := [(0, (.slice a_p0 p0.length c_p0)), (1, (.func (.func g_p1) #[] k_p1.toArray)), (7, (.int .i64 (p0.length : Int))), (8, (.int .i64 ((i4 + 1 : Nat) : Int)))]) (En.round ⟨(), (Option.some.inj hr1).symm, I14, rfl, (hl3.trans hl15), hS16⟩) (Sub.cons rfl (Sub.cons rfl (Sub.cons rfl (Sub.cons rfl Sub.nil))))
  case lastt1 =>
    rintro _ _ w20 ⟨I2, rfl, hl3, hS21⟩ he
    cases he
    refine W.seq ?_
    refine W.region (l := [0]) (by kernel_rfl) ?_
    refine WO.vals [(0, 9, (.bool (decide ((p0.length : Int) < (p0.length : Int)))))] (by kernel_rfl) (fun _ => by kernel_rfl) ?_
    refine WO.nil ?_
    refine En.next ?_
    refine W.seq ?_
    refine W.cond (b := (decide ((p0.length : Int) < (p0.length : Int)))) rfl rfl (fun hc => ?_) (fun hc => ?_)
    · exact absurd hc (by first | (simp; done) | (simp; omega))
    clear hc
    refine W.exit ?_
    refine En.nx_exit ?_
    refine En.rd_exit ?_
    refine En.in_hit ?_
    refine En.next ?_
    refine W.seq ?_
    refine W.region (l := [0]) (by kernel_rfl) ?_
    refine WO.vals [(0, 4, (.int .i64 (-1)))] (by kernel_rfl) (fun _ => by kernel_rfl) ?_
    refine WO.nil ?_
    refine En.next ?_
    refine W.ret ?_
    have he := Option.some.inj hr
    subst r
    exact En.ret1 rfl (.int .i64 (-1)) rfl ⟨I2, rfl, hl3, hS21⟩
def slices_ContainsFunc_api_Need (p0 : List api_Need) (p1 : api_Need → Option Bool) : Option Bool := (slices_IndexFunc_api_Need p0 p1).bind (fun (r6 : Int) => some (decide (r6 ≥ 0)))
set_option maxHeartbeats 1000000 in
theorem slices_ContainsFunc_api_Need_ok {E w : World} {I : Mem} {Os : List Mem} {p0 : List api_Need} {p1 : api_Need → Option Bool} {a_p0 : Option Addr} {c_p0 : Nat} {g_p1 : FuncId} {k_p1 : List Value} (h_p0 : RSl 2 R_api_Need I a_p0 c_p0 p0) (h_p1 : ∀ {F : List Mem} {I' : Mem} {w : World} {u0 : api_Need}, I.Le I' → St E w I' (F ++ Os) → ∀ {r : Bool}, p1 u0 = some r → Calls P g_p1 (([(.agg #[(.string u0.Path), (.int .i64 u0.Mode)])] : List Value) ++ k_p1).toArray w (fun e w' => ∃ (I'' : Mem), e = .returned (.bool r) ∧ I'.Le I'' ∧ St E w' I'' (F ++ Os))) (hcall_p1 : Callable P g_p1) (hS : St E w I Os) {r : Bool} (hr : slices_ContainsFunc_api_Need p0 p1 = some r) :
    Calls P 19 #[(.slice a_p0 p0.length c_p0), (.func (.func g_p1) #[] k_p1.toArray)] w (fun e w' => ∃ (I' : Mem), e = .returned (.bool r) ∧ I.Le I' ∧ St E w' I' Os) := by
  refine calls_W (args := [(.slice a_p0 p0.length c_p0), (.func (.func g_p1) #[] k_p1.toArray)]) (fn := Try.f19) rfl rfl rfl ?_
  unfold slices_ContainsFunc_api_Need at hr
  refine W.seq ?_
  refine W.region (l := [0]) (by kernel_rfl) ?_
  refine WO.vals [(0, 4, (.bool false))] (by kernel_rfl) (fun _ => by kernel_rfl) ?_
  refine WO.nil ?_
  refine En.next ?_
  refine W.seq ?_
  refine W.region (l := [0, 1, 2, 3, 4]) (by kernel_rfl) ?_
  refine WO.vals [(0, 5, (.slice a_p0 p0.length c_p0)), (1, 6, (.func (.func g_p1) #[] k_p1.toArray))] (by kernel_rfl) (fun _ => by kernel_rfl) ?_
  obtain ⟨r6, hx_r1, hr⟩ := bind_some hr
  refine WO.call rfl (by kernel_rfl) rfl (f := 24) (args := #[(.slice a_p0 p0.length c_p0), (.func (.func g_p1) #[] k_p1.toArray)]) (by kernel_rfl) (slices_IndexFunc_api_Need_ok h_p0 (fun {F Ic wc} {_} hlc hSc  {rc} hrc => h_p1 hlc hSc  hrc) hcall_p1 hS hx_r1) ?_
  rintro _ w2 ⟨I3, rfl, hl4, hS5⟩
  refine ⟨_, rfl, trivial, ?_⟩
  refine WO.vals [(3, 8, (.bool (decide (r6 ≥ 0)))), (4, 4, (.bool (decide (r6 ≥ 0))))] (by kernel_rfl) (fun _ => by kernel_rfl) ?_
  refine WO.nil ?_
  refine En.next ?_
  refine W.ret ?_
  have he := Option.some.inj hr
  subst r
  exact En.ret1 rfl (.bool (decide (r6 ≥ 0))) rfl ⟨I3, rfl, hl4, hS5⟩
def access_Covers_1_1 (p0 : api_Need) (q1 : api_Need) : Option Bool := ((bif (sEq p0.Path q1.Path) then (access_mode p0.Mode).bind (fun (r16 : Int) => (access_mode q1.Mode).bind (fun (r22 : Int) => (access_both r16 r22).bind (fun (r28 : Int) => (access_mode p0.Mode).bind (fun (r34 : Int) => some (r28 == r34))))) else some false)).bind (fun (j7 : Bool) => some j7)
set_option maxHeartbeats 1000000 in
theorem access_Covers_1_1_ok {E w : World} {I : Mem} {Os : List Mem} {p0 : api_Need} {q1 : api_Need} {kb1 : Nat} (hm1 : (one kb1 (.cells #[(.string q1.Path), (.int .i64 q1.Mode)] 28 (0, 0))) ∈ Os) (hS : St E w I Os) {r : Bool} (hr : access_Covers_1_1 p0 q1 = some r) :
    Calls P 21 #[(.agg #[(.string p0.Path), (.int .i64 p0.Mode)]), (.pointer (some ⟨kb1, 0, none⟩))] w (fun e w' => ∃ (I' : Mem), e = .returned (.bool r) ∧ I.Le I' ∧ St E w' I' Os) := by
  refine calls_W (args := [(.agg #[(.string p0.Path), (.int .i64 p0.Mode)]), (.pointer (some ⟨kb1, 0, none⟩))]) (fn := Try.f21) rfl rfl rfl ?_
  unfold access_Covers_1_1 at hr
  refine W.seq ?_
  refine W.region (l := [0, 1]) (by kernel_rfl) ?_
  refine WO.new hS rfl (by kernel_rfl) rfl (.cells #[(.string p0.Path), (.int .i64 p0.Mode)] 28 (0, 0)) (fun b => .pointer (some ⟨b, 0, none⟩)) (by kernel_rfl) (fun _ _ _ => trivial) ?_
  intro b1 w4 hS3
  refine WO.vals [(1, 3, (.bool false))] (by kernel_rfl) (fun _ => by kernel_rfl) ?_
  refine WO.nil ?_
  refine En.next ?_
  refine W.seq ?_
  have hS5 := hS3.drew
  refine W.draw (l := [0, 1, 2, 3, 4, 5, 6, 7, 8, 9, 10, 11, 12, 13, 14, 15, 16, 17, 18]) (by kernel_rfl) 18 (KR I [one b1 (.cells #[(.string p0.Path), (.int .i64 p0.Mode)] 28 (0, 0)), one kb1 (.cells #[(.string q1.Path), (.int .i64 q1.Mode)] 28 (0, 0))]) qR (.back (by kernel_rfl)) (by kernel_rfl) (KR.cons (hS5.rd (List.Mem.head _)) (KR.cons (hS5.rd (List.Mem.tail _ hm1)) (KR.nil hS5.im))) ?_
  generalize World.drew _ = w6 at *
  refine WO.vals [(0, 4, (.pointer (some ⟨b1, 0, none⟩)))] (by kernel_rfl) (fun _ => by kernel_rfl) ?_
  refine WO.load rfl (by kernel_rfl) (by kernel_rfl) rfl (v := (.string p0.Path)) (fun w' hw' => cell_one ((rd_c (List.Mem.head _) (hS5.rd (List.Mem.head _))) w' hw') rfl) ?_
  refine WO.vals [(2, 6, (.pointer (some ⟨kb1, 0, none⟩)))] (by kernel_rfl) (fun _ => by kernel_rfl) ?_
  refine WO.load rfl (by kernel_rfl) (by kernel_rfl) rfl (v := (.string q1.Path)) (fun w' hw' => cell_one ((rd_c (List.Mem.tail _ (List.Mem.head _)) (hS5.rd (List.Mem.tail _ hm1))) w' hw') rfl) ?_
  refine WO.vals [(4, 8, (.bool (sEq p0.Path q1.Path))), (5, 9, (.bool (sEq p0.Path q1.Path)))] (by kernel_rfl) (fun _ => by kernel_rfl) ?_
  obtain ⟨j7, hr1, hr⟩ := bind_some hr
  refine WO.join (l1 := [6, 7, 8, 9, 10, 11, 12, 13, 14, 15, 16, 17]) (l2 := [18]) (J := (fun fr w => ∃ (I9 : Mem), fr = [(21, (.bool j7))] ∧ I.Le I9 ∧ St E w I9 Os)) ?restj7 ?waysj7
  case waysj7 =>
    refine WO.caseb (sEq p0.Path q1.Path) (fun hc => ?_) (fun hc => ?_)
    · replace hr1 := cond_t hc hr1
      refine WO.reslot 9 rfl (show Value.bool (sEq p0.Path q1.Path) = Value.bool true by rw [hc]) ?_
      refine WO.vals [(6, 10, (.pointer (some ⟨b1, 1, none⟩)))] (by kernel_rfl) (fun _ => by kernel_rfl) ?_
      refine WO.load rfl (by kernel_rfl) (by kernel_rfl) rfl (v := (.int .i64 p0.Mode)) (fun w' hw' => cell_one ((rd_c (List.Mem.head _) (hS5.rd (List.Mem.head _))) w' hw') rfl) ?_
      obtain ⟨r16, hx_r11, hr1⟩ := bind_some hr1
      refine WO.call rfl (by kernel_rfl) rfl (f := 16) (args := #[(.int .i64 p0.Mode)]) (by kernel_rfl) (access_mode_ok  hS5 hx_r11) ?_
      rintro _ w12 ⟨I13, rfl, hl14, hS15⟩
      refine ⟨_, rfl, (KR.cons (hS15.rd (List.Mem.head _)) (KR.cons (hS15.rd (List.Mem.tail _ hm1)) (KR.nil (hS15.im.of_le hl14)))), ?_⟩
      refine WO.vals [(9, 13, (.pointer (some ⟨kb1, 1, none⟩)))] (by kernel_rfl) (fun _ => by kernel_rfl) ?_
      refine WO.load rfl (by kernel_rfl) (by kernel_rfl) rfl (v := (.int .i64 q1.Mode)) (fun w' hw' => cell_one ((rd_c (List.Mem.tail _ (List.Mem.head _)) (hS15.rd (List.Mem.tail _ hm1))) w' hw') rfl) ?_
      obtain ⟨r22, hx_r17, hr1⟩ := bind_some hr1
      refine WO.call rfl (by kernel_rfl) rfl (f := 16) (args := #[(.int .i64 q1.Mode)]) (by kernel_rfl) (access_mode_ok  hS15 hx_r17) ?_
      rintro _ w18 ⟨I19, rfl, hl20, hS21⟩
      refine ⟨_, rfl, (KR.cons (hS21.rd (List.Mem.head _)) (KR.cons (hS21.rd (List.Mem.tail _ hm1)) (KR.nil (hS21.im.of_le (hl14.trans hl20))))), ?_⟩
      obtain ⟨r28, hx_r23, hr1⟩ := bind_some hr1
      refine WO.call rfl (by kernel_rfl) rfl (f := 17) (args := #[(.int .i64 r16), (.int .i64 r22)]) (by kernel_rfl) (access_both_ok  hS21 hx_r23) ?_
      rintro _ w24 ⟨I25, rfl, hl26, hS27⟩
      refine ⟨_, rfl, (KR.cons (hS27.rd (List.Mem.head _)) (KR.cons (hS27.rd (List.Mem.tail _ hm1)) (KR.nil (hS27.im.of_le ((hl14.trans hl20).trans hl26))))), ?_⟩
      refine WO.vals [(13, 17, (.pointer (some ⟨b1, 1, none⟩)))] (by kernel_rfl) (fun _ => by kernel_rfl) ?_
      refine WO.load rfl (by kernel_rfl) (by kernel_rfl) rfl (v := (.int .i64 p0.Mode)) (fun w' hw' => cell_one ((rd_c (List.Mem.head _) (hS27.rd (List.Mem.head _))) w' hw') rfl) ?_
      obtain ⟨r34, hx_r29, hr1⟩ := bind_some hr1
      refine WO.call rfl (by kernel_rfl) rfl (f := 16) (args := #[(.int .i64 p0.Mode)]) (by kernel_rfl) (access_mode_ok  hS27 hx_r29) ?_
      rintro _ w30 ⟨I31, rfl, hl32, hS33⟩
      refine ⟨_, rfl, (KR.cons (hS33.rd (List.Mem.head _)) (KR.cons (hS33.rd (List.Mem.tail _ hm1)) (KR.nil (hS33.im.of_le (((hl14.trans hl20).trans hl26).trans hl32))))), ?_⟩
      refine WO.vals [(16, 20, (.bool (r28 == r34))), (17, 21, (.bool (r28 == r34)))] (by kernel_rfl) (fun _ => by kernel_rfl) ?_
      have hS35 := hS33.drop
      have he := Option.some.inj hr1
      subst j7
      refine WO.weaken (fr' := [(21, (.bool (r28 == r34)))]) (WO.meet ⟨I31, rfl, (((hl14.trans hl20).trans hl26).trans hl32), hS35⟩) (Sub.cons rfl Sub.nil)
    · replace hr1 := cond_f hc hr1
      refine WO.reslot 9 rfl (show Value.bool (sEq p0.Path q1.Path) = Value.bool false by rw [hc]) ?_
      refine WO.pass rfl (by kernel_rfl) rfl ?_
      refine WO.pass rfl (by kernel_rfl) rfl ?_
      refine WO.pass rfl (by kernel_rfl) rfl ?_
      refine WO.pass rfl (by kernel_rfl) rfl ?_
      refine WO.pass rfl (by kernel_rfl) rfl ?_
      refine WO.pass rfl (by kernel_rfl) rfl ?_
      refine WO.pass rfl (by kernel_rfl) rfl ?_
      refine WO.pass rfl (by kernel_rfl) rfl ?_
      refine WO.pass rfl (by kernel_rfl) rfl ?_
      refine WO.pass rfl (by kernel_rfl) rfl ?_
      refine WO.pass rfl (by kernel_rfl) rfl ?_
      refine WO.vals [(17, 21, (.bool false))] (by kernel_rfl) (fun _ => by kernel_rfl) ?_
      have hS36 := hS5.drop
      have he := Option.some.inj hr1
      subst j7
      refine WO.weaken (fr' := [(21, (.bool false))]) (WO.meet ⟨I, rfl, Mem.Le.refl _, hS36⟩) (Sub.cons rfl Sub.nil)
  case restj7 =>
    rintro _ w37 ⟨I9, rfl, hl10, hS38⟩
    refine WO.tail rfl ?_
    refine WO.vals [(18, 3, (.bool j7))] (by kernel_rfl) (fun _ => by kernel_rfl) ?_
    refine WO.nil ?_
    refine En.next ?_
    refine W.ret ?_
    have he := Option.some.inj hr
    subst r
    exact En.ret1 rfl (.bool j7) rfl ⟨I9, rfl, hl10, hS38⟩
def access_Covers_1 (p0 : api_Need) (q1 : List api_Need) : Option Bool := (slices_ContainsFunc_api_Need q1 (fun (u0 : api_Need) => access_Covers_1_1 u0 p0)).bind (fun (r10 : Bool) => some (!r10))
set_option maxHeartbeats 1000000 in
theorem access_Covers_1_ok {E w : World} {I : Mem} {Os : List Mem} {p0 : api_Need} {q1 : List api_Need} {kb1 : Nat} {a_q1 : Option Addr} {c_q1 : Nat} (h_q1 : RSl 2 R_api_Need I a_q1 c_q1 q1) (hm1 : (one kb1 (.cells #[(.slice a_q1 q1.length c_q1)] 22 (0, 0))) ∈ Os) (hS : St E w I Os) {r : Bool} (hr : access_Covers_1 p0 q1 = some r) :
    Calls P 20 #[(.agg #[(.string p0.Path), (.int .i64 p0.Mode)]), (.pointer (some ⟨kb1, 0, none⟩))] w (fun e w' => ∃ (I' : Mem), e = .returned (.bool r) ∧ I.Le I' ∧ St E w' I' Os) := by
  refine calls_W (args := [(.agg #[(.string p0.Path), (.int .i64 p0.Mode)]), (.pointer (some ⟨kb1, 0, none⟩))]) (fn := Try.f20) rfl rfl rfl ?_
  unfold access_Covers_1 at hr
  refine W.seq ?_
  refine W.region (l := [0, 1]) (by kernel_rfl) ?_
  refine WO.new hS rfl (by kernel_rfl) rfl (.cells #[(.string p0.Path), (.int .i64 p0.Mode)] 28 (0, 0)) (fun b => .pointer (some ⟨b, 0, none⟩)) (by kernel_rfl) (fun _ _ _ => trivial) ?_
  intro b1 w4 hS3
  refine WO.vals [(1, 3, (.bool false))] (by kernel_rfl) (fun _ => by kernel_rfl) ?_
  refine WO.nil ?_
  refine En.next ?_
  refine W.seq ?_
  refine W.region (l := [0, 1, 2, 3, 4]) (by kernel_rfl) ?_
  refine WO.load rfl (by kernel_rfl) (by kernel_rfl) rfl (v := (.slice a_q1 q1.length c_q1)) (fun w' hw' => cell_one ((rd_f (hS3.rd (List.Mem.tail _ hm1))) w' hw') rfl) ?_
  refine WO.vals [(1, 5, (.func (.func 21) #[] #[(.pointer (some ⟨b1, 0, none⟩))]))] (by kernel_rfl) (fun _ => by kernel_rfl) ?_
  obtain ⟨r10, hx_r5, hr⟩ := bind_some hr
  refine WO.call rfl (by kernel_rfl) rfl (f := 19) (args := #[(.slice a_q1 q1.length c_q1), (.func (.func 21) #[] #[(.pointer (some ⟨b1, 0, none⟩))])]) (by kernel_rfl) (slices_ContainsFunc_api_Need_ok h_q1 (fun {F Ic wc} {_} hlc hSc  {rc} hrc => access_Covers_1_1_ok  (List.mem_append_right _ (List.Mem.head _)) hSc hrc) (fun _ _ => by kernel_rfl) hS3 hx_r5) ?_
  rintro _ w6 ⟨I7, rfl, hl8, hS9⟩
  refine ⟨_, rfl, trivial, ?_⟩
  refine WO.vals [(3, 7, (.bool (!r10))), (4, 3, (.bool (!r10)))] (by kernel_rfl) (fun _ => by kernel_rfl) ?_
  refine WO.nil ?_
  refine En.next ?_
  refine W.ret ?_
  have hS11 := hS9.drop
  have he := Option.some.inj hr
  subst r
  exact En.ret1 rfl (.bool (!r10)) rfl ⟨I7, rfl, hl8, hS11⟩
def access_Covers (p0 : List api_Need) (p1 : List api_Need) : Option Bool := (slices_ContainsFunc_api_Need p1 (fun (u0 : api_Need) => access_Covers_1 u0 p0)).bind (fun (r10 : Bool) => some (!r10))
set_option maxHeartbeats 1000000 in
theorem access_Covers_ok {E w : World} {I : Mem} {Os : List Mem} {p0 : List api_Need} {p1 : List api_Need} {a_p0 : Option Addr} {c_p0 : Nat} {a_p1 : Option Addr} {c_p1 : Nat} (h_p0 : RSl 2 R_api_Need I a_p0 c_p0 p0) (h_p1 : RSl 2 R_api_Need I a_p1 c_p1 p1) (hS : St E w I Os) {r : Bool} (hr : access_Covers p0 p1 = some r) :
    Calls P 10 #[(.slice a_p0 p0.length c_p0), (.slice a_p1 p1.length c_p1)] w (fun e w' => ∃ (I' : Mem), e = .returned (.bool r) ∧ I.Le I' ∧ St E w' I' Os) := by
  refine calls_W (args := [(.slice a_p0 p0.length c_p0), (.slice a_p1 p1.length c_p1)]) (fn := Try.f10) rfl rfl rfl ?_
  unfold access_Covers at hr
  refine W.seq ?_
  refine W.region (l := [0, 1]) (by kernel_rfl) ?_
  refine WO.new hS rfl (by kernel_rfl) rfl (.cells #[(.slice a_p0 p0.length c_p0)] 22 (0, 0)) (fun b => .pointer (some ⟨b, 0, none⟩)) (by kernel_rfl) (fun _ _ _ => trivial) ?_
  intro b1 w4 hS3
  refine WO.vals [(1, 4, (.bool false))] (by kernel_rfl) (fun _ => by kernel_rfl) ?_
  refine WO.nil ?_
  refine En.next ?_
  refine W.seq ?_
  refine W.region (l := [0, 1, 2, 3, 4]) (by kernel_rfl) ?_
  refine WO.vals [(0, 5, (.slice a_p1 p1.length c_p1)), (1, 6, (.func (.func 20) #[] #[(.pointer (some ⟨b1, 0, none⟩))]))] (by kernel_rfl) (fun _ => by kernel_rfl) ?_
  obtain ⟨r10, hx_r5, hr⟩ := bind_some hr
  refine WO.call rfl (by kernel_rfl) rfl (f := 19) (args := #[(.slice a_p1 p1.length c_p1), (.func (.func 20) #[] #[(.pointer (some ⟨b1, 0, none⟩))])]) (by kernel_rfl) (slices_ContainsFunc_api_Need_ok h_p1 (fun {F Ic wc} {_} hlc hSc  {rc} hrc => access_Covers_1_ok (RSl.mono h_p0 hlc) (List.mem_append_right _ (List.Mem.head _)) hSc hrc) (fun _ _ => by kernel_rfl) hS3 hx_r5) ?_
  rintro _ w6 ⟨I7, rfl, hl8, hS9⟩
  refine ⟨_, rfl, trivial, ?_⟩
  refine WO.vals [(3, 8, (.bool (!r10))), (4, 4, (.bool (!r10)))] (by kernel_rfl) (fun _ => by kernel_rfl) ?_
  refine WO.nil ?_
  refine En.next ?_
  refine W.ret ?_
  have hS11 := hS9.drop
  have he := Option.some.inj hr
  subst r
  exact En.ret1 rfl (.bool (!r10)) rfl ⟨I7, rfl, hl8, hS11⟩
noncomputable def registrarlaw20_works  : Option Bool := (access_Merge ([(⟨(⟨#[116]⟩ : ByteArray), 3⟩ : api_Need), (⟨(⟨#[]⟩ : ByteArray), 2⟩ : api_Need), (⟨(⟨#[116]⟩ : ByteArray), 2⟩ : api_Need)] : List api_Need)).bind (fun (r17 : List api_Need) => ((bif ((r17.length : Int) == 2) then (idx r17 1).bind (fun (x22 : api_Need) => some (sEq x22.Path (⟨#[116]⟩ : ByteArray) && (x22.Mode == 4))) else some false)).bind (fun (j18 : Bool) => ((bif j18 then (access_Covers r17 ([(⟨(⟨#[]⟩ : ByteArray), 1⟩ : api_Need)] : List api_Need)).bind (fun (r45 : Bool) => some r45) else some false)).bind (fun (j25 : Bool) => some j25)))
set_option maxHeartbeats 1000000 in
theorem registrarlaw20_works_ok {E w : World} {I : Mem} {Os : List Mem} (hS : St E w I Os) {r : Bool} (hr : registrarlaw20_works = some r) :
    Calls P 6 #[] w (fun e w' => ∃ (I' : Mem), e = .returned (.bool r) ∧ I.Le I' ∧ St E w' I' Os) := by
  refine calls_W (args := []) (fn := Try.f6) rfl rfl rfl ?_
  unfold registrarlaw20_works at hr
  refine W.seq ?_
  refine W.region (l := [0]) (by kernel_rfl) ?_
  refine WO.vals [(0, 0, (.bool false))] (by kernel_rfl) (fun _ => by kernel_rfl) ?_
  refine WO.nil ?_
  refine En.next ?_
  refine W.seq ?_
  refine W.region (l := [0, 1, 2, 3, 4, 5]) (by kernel_rfl) ?_
  refine WO.vals [(0, 2, (.agg #[(.string (⟨#[116]⟩ : ByteArray)), (.int .i64 3)])), (1, 3, (.agg #[(.string (⟨#[]⟩ : ByteArray)), (.int .i64 2)])), (2, 4, (.agg #[(.string (⟨#[116]⟩ : ByteArray)), (.int .i64 2)]))] (by kernel_rfl) (fun _ => by kernel_rfl) ?_
  refine WO.newSlice (rel := R_api_Need) (xs := ([(⟨(⟨#[116]⟩ : ByteArray), 3⟩ : api_Need), (⟨(⟨#[]⟩ : ByteArray), 2⟩ : api_Need), (⟨(⟨#[116]⟩ : ByteArray), 2⟩ : api_Need)] : List api_Need)) hS rfl (by kernel_rfl) rfl 28 2 [[(.string (⟨#[116]⟩ : ByteArray)), (.int .i64 3)], [(.string (⟨#[]⟩ : ByteArray)), (.int .i64 2)], [(.string (⟨#[116]⟩ : ByteArray)), (.int .i64 2)]] (by kernel_rfl) rfl ((Elr.cons rfl (Elr.cons rfl (Elr.cons rfl Elr.nil)))) (fun _ _ _ => trivial) ?_
  intro a4 C2 w6 hS5 ho3
  obtain ⟨I8, hl9, hS11, hp10⟩ := OwnSl.pub ho3 hS5
  obtain ⟨r17, hx_r12, hr⟩ := bind_some hr
  refine WO.call rfl (by kernel_rfl) rfl (f := 8) (args := #[(.slice a4 3 3)]) (by kernel_rfl) (access_Merge_ok hp10 hS11 hx_r12) ?_
  rintro _ w13 ⟨I14, a_r17, c_r17, rfl, hl15, hS16, h_r17⟩
  refine ⟨_, rfl, trivial, ?_⟩
  refine WO.vals [(5, 1, (.slice a_r17 r17.length c_r17))] (by kernel_rfl) (fun _ => by kernel_rfl) ?_
  refine WO.nil ?_
  refine En.next ?_
  refine W.seq ?_
  refine W.region (l := [0, 1, 2, 3, 4, 5, 6, 7, 8, 9, 10, 11, 12, 13, 14, 15, 16]) (by kernel_rfl) ?_
  refine WO.vals [(0, 7, (.slice a_r17 r17.length c_r17)), (1, 8, (.int .i64 (r17.length : Int))), (2, 9, (.bool ((r17.length : Int) == 2))), (3, 10, (.bool ((r17.length : Int) == 2)))] (by kernel_rfl) (fun _ => by kernel_rfl) ?_
  obtain ⟨j18, hr1, hr⟩ := bind_some hr
  refine WO.join (l1 := [4, 5, 6, 7, 8, 9]) (l2 := [10, 11, 12, 13, 14, 15, 16]) (J := (fun fr w => ∃ (I20 : Mem), fr = [(1, (.slice a_r17 r17.length c_r17)), (16, (.bool j18))] ∧ I14.Le I20 ∧ St E w I20 Os)) ?restj18 ?waysj18
  case waysj18 =>
    refine WO.caseb ((r17.length : Int) == 2) (fun hc => ?_) (fun hc => ?_)
    · replace hr1 := cond_t hc hr1
      refine WO.reslot 10 rfl (show Value.bool ((r17.length : Int) == 2) = Value.bool true by rw [hc]) ?_
      refine WO.vals [(4, 11, (.slice a_r17 r17.length c_r17))] (by kernel_rfl) (fun _ => by kernel_rfl) ?_
      obtain ⟨x22, hx_x22, hr1⟩ := bind_some hr1
      obtain ⟨h0_x22, h1_x22, hx_x22⟩ := idx_some hx_x22
      obtain ⟨ha_x22, cs_x22, hn_x22, hr_x22, hc_x22⟩ := (h_r17).el _ _ hx_x22
      obtain rfl := hr_x22
      refine WO.indexAddr (e := 28) (sz := 2) rfl (by kernel_rfl) (by kernel_rfl) (by kernel_rfl) rfl ha_x22 rfl h0_x22 h1_x22 ?_
      refine WO.loadN rfl (by kernel_rfl) (by kernel_rfl) rfl [(.string x22.Path), (.int .i64 x22.Mode)] (by kernel_rfl) (fun w' hw' => hc_x22.cells (k := 0) rfl rfl ((rd_f hS16.im) w' hw')) ?_
      refine WO.vals [(7, 14, (.agg #[(.string (⟨#[116]⟩ : ByteArray)), (.int .i64 4)]))] (by kernel_rfl) (fun _ => by kernel_rfl) ?_
      refine WO.eqStruct rfl (by kernel_rfl) rfl rfl (by kernel_rfl) 50 rfl (b := (sEq x22.Path (⟨#[116]⟩ : ByteArray) && ((x22.Mode == 4) && true))) (by kernel_rfl) (sEq x22.Path (⟨#[116]⟩ : ByteArray) && (x22.Mode == 4)) (.inl ⟨rfl, by simp only [Bool.and_true]⟩) ?_
      refine WO.vals [(9, 16, (.bool (sEq x22.Path (⟨#[116]⟩ : ByteArray) && (x22.Mode == 4))))] (by kernel_rfl) (fun _ => by kernel_rfl) ?_
      have he := Option.some.inj hr1
      subst j18
      refine WO.weaken (fr' := [(1, (.slice a_r17 r17.length c_r17)), (16, (.bool (sEq x22.Path (⟨#[116]⟩ : ByteArray) && (x22.Mode == 4))))]) (WO.meet ⟨I14, rfl, Mem.Le.refl _, hS16⟩) (Sub.cons rfl (Sub.cons rfl Sub.nil))
    · replace hr1 := cond_f hc hr1
      refine WO.reslot 10 rfl (show Value.bool ((r17.length : Int) == 2) = Value.bool false by rw [hc]) ?_
      refine WO.pass rfl (by kernel_rfl) rfl ?_
      refine WO.pass rfl (by kernel_rfl) rfl ?_
      refine WO.pass rfl (by kernel_rfl) rfl ?_
      refine WO.pass rfl (by kernel_rfl) rfl ?_
      refine WO.pass rfl (by kernel_rfl) rfl ?_
      refine WO.vals [(9, 16, (.bool false))] (by kernel_rfl) (fun _ => by kernel_rfl) ?_
      have he := Option.some.inj hr1
      subst j18
      refine WO.weaken (fr' := [(1, (.slice a_r17 r17.length c_r17)), (16, (.bool false))]) (WO.meet ⟨I14, rfl, Mem.Le.refl _, hS16⟩) (Sub.cons rfl (Sub.cons rfl Sub.nil))
  case restj18 =>
    rintro _ w23 ⟨I20, rfl, hl21, hS24⟩
    refine WO.vals [(10, 17, (.bool j18))] (by kernel_rfl) (fun _ => by kernel_rfl) ?_
    obtain ⟨j25, hr1, hr⟩ := bind_some hr
    refine WO.join (l1 := [11, 12, 13, 14, 15]) (l2 := [16]) (J := (fun fr w => ∃ (I27 : Mem), fr = [(22, (.bool j25))] ∧ I20.Le I27 ∧ St E w I27 Os)) ?restj25 ?waysj25
    case waysj25 =>
      refine WO.caseb j18 (fun hc => ?_) (fun hc => ?_)
      · replace hr1 := cond_t hc hr1
        refine WO.reslot 17 rfl (show Value.bool j18 = Value.bool true by rw [hc]) ?_
        refine WO.vals [(11, 18, (.slice a_r17 r17.length c_r17)), (12, 19, (.agg #[(.string (⟨#[]⟩ : ByteArray)), (.int .i64 1)]))] (by kernel_rfl) (fun _ => by kernel_rfl) ?_
        refine WO.newSlice (rel := R_api_Need) (xs := ([(⟨(⟨#[]⟩ : ByteArray), 1⟩ : api_Need)] : List api_Need)) hS24 rfl (by kernel_rfl) rfl 28 2 [[(.string (⟨#[]⟩ : ByteArray)), (.int .i64 1)]] (by kernel_rfl) rfl ((Elr.cons rfl Elr.nil)) (fun _ _ _ => trivial) ?_
        intro a32 C30 w34 hS33 ho31
        obtain ⟨I36, hl37, hS39, hp38⟩ := OwnSl.pub ho31 hS33
        obtain ⟨r45, hx_r40, hr1⟩ := bind_some hr1
        refine WO.call rfl (by kernel_rfl) rfl (f := 10) (args := #[(.slice a_r17 r17.length c_r17), (.slice a32 1 1)]) (by kernel_rfl) (access_Covers_ok (RSl.mono h_r17 (hl21.trans hl37)) hp38 hS39 hx_r40) ?_
        rintro _ w41 ⟨I42, rfl, hl43, hS44⟩
        refine ⟨_, rfl, trivial, ?_⟩
        refine WO.vals [(15, 22, (.bool r45))] (by kernel_rfl) (fun _ => by kernel_rfl) ?_
        have he := Option.some.inj hr1
        subst j25
        refine WO.weaken (fr' := [(22, (.bool r45))]) (WO.meet ⟨I42, rfl, (hl37.trans hl43), hS44⟩) (Sub.cons rfl Sub.nil)
      · replace hr1 := cond_f hc hr1
        refine WO.reslot 17 rfl (show Value.bool j18 = Value.bool false by rw [hc]) ?_
        refine WO.pass rfl (by kernel_rfl) rfl ?_
        refine WO.pass rfl (by kernel_rfl) rfl ?_
        refine WO.pass rfl (by kernel_rfl) rfl ?_
        refine WO.pass rfl (by kernel_rfl) rfl ?_
        refine WO.vals [(15, 22, (.bool false))] (by kernel_rfl) (fun _ => by kernel_rfl) ?_
        have he := Option.some.inj hr1
        subst j25
        refine WO.weaken (fr' := [(22, (.bool false))]) (WO.meet ⟨I20, rfl, Mem.Le.refl _, hS24⟩) (Sub.cons rfl Sub.nil)
    case restj25 =>
      rintro _ w46 ⟨I27, rfl, hl28, hS47⟩
      refine WO.vals [(16, 0, (.bool j25))] (by kernel_rfl) (fun _ => by kernel_rfl) ?_
      refine WO.nil ?_
      refine En.next ?_
      refine W.ret ?_
      have he := Option.some.inj hr
      subst r
      exact En.ret1 rfl (.bool j25) rfl ⟨I27, rfl, (((hl9.trans hl15).trans hl21).trans hl28), hS47⟩
def registrarref20_Both (p0 : Int) (p1 : Int) : Option Int := ((bif ((decide (p0 < 1)) || (decide (p0 > 4))) then some 4 else some p0)).bind (fun (j3 : Int) => ((bif ((decide (p1 < 1)) || (decide (p1 > 4))) then some 4 else some p1)).bind (fun (j11 : Int) => (bif ((j3 == j11) || (j11 == 1)) then some j3 else (bif (j3 == 1) then some j11 else some 4))))
set_option maxHeartbeats 1000000 in
theorem registrarref20_Both_ok {E w : World} {I : Mem} {Os : List Mem} {p0 : Int} {p1 : Int} (hS : St E w I Os) {r : Int} (hr : registrarref20_Both p0 p1 = some r) :
    Calls P 18 #[(.int .i64 p0), (.int .i64 p1)] w (fun e w' => ∃ (I' : Mem), e = .returned (.int .i64 r) ∧ I.Le I' ∧ St E w' I' Os) := by
  refine calls_W (args := [(.int .i64 p0), (.int .i64 p1)]) (fn := Try.f18) rfl rfl rfl ?_
  unfold registrarref20_Both at hr
  refine W.seq ?_
  refine W.region (l := [0]) (by kernel_rfl) ?_
  refine WO.vals [(0, 4, (.int .i64 0))] (by kernel_rfl) (fun _ => by kernel_rfl) ?_
  refine WO.nil ?_
  refine En.next ?_
  refine W.seq ?_
  refine W.seq ?_
  refine W.region (l := [0, 1, 2, 3, 4, 5]) (by kernel_rfl) ?_
  refine WO.vals [(0, 5, (.int .i64 p0)), (1, 6, (.bool (decide (p0 < 1)))), (2, 7, (.bool (decide (p0 < 1))))] (by kernel_rfl) (fun _ => by kernel_rfl) ?_
  refine WO.join (l1 := [3, 4, 5]) (l2 := []) (J := fun frx wx => frx = [(10, (.bool ((decide (p0 < 1)) || (decide (p0 > 4))))), (0, (.int .i64 p0)), (1, (.int .i64 p1))] ∧ wx = w) ?restm1 ?waysm1
  case waysm1 =>
    refine WO.caseb (decide (p0 < 1)) (fun hc => ?_) (fun hc => ?_)
    · skip
      refine WO.reslot 7 rfl (show Value.bool (decide (p0 < 1)) = Value.bool true by rw [hc]) ?_
      refine WO.pass rfl (by kernel_rfl) rfl ?_
      refine WO.pass rfl (by kernel_rfl) rfl ?_
      refine WO.vals [(5, 10, (.bool true))] (by kernel_rfl) (fun _ => by kernel_rfl) ?_
      refine WO.weaken (fr' := [(10, (.bool ((decide (p0 < 1)) || (decide (p0 > 4))))), (0, (.int .i64 p0)), (1, (.int .i64 p1))]) (WO.meet ⟨rfl, rfl⟩) (Sub.cons (by rw [hc]; rfl) (Sub.cons rfl (Sub.cons rfl Sub.nil)))
    · skip
      refine WO.reslot 7 rfl (show Value.bool (decide (p0 < 1)) = Value.bool false by rw [hc]) ?_
      refine WO.vals [(3, 8, (.int .i64 p0)), (4, 9, (.bool (decide (p0 > 4)))), (5, 10, (.bool (decide (p0 > 4))))] (by kernel_rfl) (fun _ => by kernel_rfl) ?_
      refine WO.weaken (fr' := [(10, (.bool ((decide (p0 < 1)) || (decide (p0 > 4))))), (0, (.int .i64 p0)), (1, (.int .i64 p1))]) (WO.meet ⟨rfl, rfl⟩) (Sub.cons (by rw [hc]; rfl) (Sub.cons rfl (Sub.cons rfl Sub.nil)))
  case restm1 =>
    rintro _ _ ⟨rfl, rfl⟩
    refine WO.nil ?_
    refine En.next ?_
    obtain ⟨j3, hr1, hr⟩ := bind_some hr
    refine W.join (J := (fun fr w => ∃ (I5 : Mem), fr = [(0, (.int .i64 j3)), (1, (.int .i64 p1))] ∧ I.Le I5 ∧ St E w I5 Os)) ?restj3 ?waysj3
    case waysj3 =>
      refine W.cond (b := ((decide (p0 < 1)) || (decide (p0 > 4)))) rfl rfl (fun hc => ?_) (fun hc => ?_)
      · replace hr1 := cond_t hc hr1
        refine W.region (l := [0]) (by kernel_rfl) ?_
        refine WO.vals [(0, 0, (.int .i64 4))] (by kernel_rfl) (fun _ => by kernel_rfl) ?_
        refine WO.nil ?_
        have he := Option.some.inj hr1
        subst j3
        refine En.weaken (fr' := [(0, (.int .i64 4)), (1, (.int .i64 p1))]) (En.round ⟨I, rfl, Mem.Le.refl _, hS⟩) (Sub.cons rfl (Sub.cons rfl Sub.nil))
      · replace hr1 := cond_f hc hr1
        refine W.skip ?_
        have he := Option.some.inj hr1
        subst j3
        refine En.weaken (fr' := [(0, (.int .i64 p0)), (1, (.int .i64 p1))]) (En.round ⟨I, rfl, Mem.Le.refl _, hS⟩) (Sub.cons rfl (Sub.cons rfl Sub.nil))
    case restj3 =>
      rintro _ w7 ⟨I5, rfl, hl6, hS8⟩
      refine En.next ?_
      refine W.seq ?_
      refine W.seq ?_
      refine W.region (l := [0, 1, 2, 3, 4, 5]) (by kernel_rfl) ?_
      refine WO.vals [(0, 11, (.int .i64 p1)), (1, 12, (.bool (decide (p1 < 1)))), (2, 13, (.bool (decide (p1 < 1))))] (by kernel_rfl) (fun _ => by kernel_rfl) ?_
      refine WO.join (l1 := [3, 4, 5]) (l2 := []) (J := fun frx wx => frx = [(16, (.bool ((decide (p1 < 1)) || (decide (p1 > 4))))), (0, (.int .i64 j3)), (1, (.int .i64 p1))] ∧ wx = w7) ?restm9 ?waysm9
      case waysm9 =>
        refine WO.caseb (decide (p1 < 1)) (fun hc => ?_) (fun hc => ?_)
        · skip
          refine WO.reslot 13 rfl (show Value.bool (decide (p1 < 1)) = Value.bool true by rw [hc]) ?_
          refine WO.pass rfl (by kernel_rfl) rfl ?_
          refine WO.pass rfl (by kernel_rfl) rfl ?_
          refine WO.vals [(5, 16, (.bool true))] (by kernel_rfl) (fun _ => by kernel_rfl) ?_
          refine WO.weaken (fr' := [(16, (.bool ((decide (p1 < 1)) || (decide (p1 > 4))))), (0, (.int .i64 j3)), (1, (.int .i64 p1))]) (WO.meet ⟨rfl, rfl⟩) (Sub.cons (by rw [hc]; rfl) (Sub.cons rfl (Sub.cons rfl Sub.nil)))
        · skip
          refine WO.reslot 13 rfl (show Value.bool (decide (p1 < 1)) = Value.bool false by rw [hc]) ?_
          refine WO.vals [(3, 14, (.int .i64 p1)), (4, 15, (.bool (decide (p1 > 4)))), (5, 16, (.bool (decide (p1 > 4))))] (by kernel_rfl) (fun _ => by kernel_rfl) ?_
          refine WO.weaken (fr' := [(16, (.bool ((decide (p1 < 1)) || (decide (p1 > 4))))), (0, (.int .i64 j3)), (1, (.int .i64 p1))]) (WO.meet ⟨rfl, rfl⟩) (Sub.cons (by rw [hc]; rfl) (Sub.cons rfl (Sub.cons rfl Sub.nil)))
      case restm9 =>
        rintro _ _ ⟨rfl, rfl⟩
        refine WO.nil ?_
        refine En.next ?_
        obtain ⟨j11, hr1, hr⟩ := bind_some hr
        refine W.join (J := (fun fr w => ∃ (I13 : Mem), fr = [(0, (.int .i64 j3)), (1, (.int .i64 j11))] ∧ I5.Le I13 ∧ St E w I13 Os)) ?restj11 ?waysj11
        case waysj11 =>
          refine W.cond (b := ((decide (p1 < 1)) || (decide (p1 > 4)))) rfl rfl (fun hc => ?_) (fun hc => ?_)
          · replace hr1 := cond_t hc hr1
            refine W.region (l := [0]) (by kernel_rfl) ?_
            refine WO.vals [(0, 1, (.int .i64 4))] (by kernel_rfl) (fun _ => by kernel_rfl) ?_
            refine WO.nil ?_
            have he := Option.some.inj hr1
            subst j11
            refine En.weaken (fr' := [(0, (.int .i64 j3)), (1, (.int .i64 4))]) (En.round ⟨I5, rfl, Mem.Le.refl _, hS8⟩) (Sub.cons rfl (Sub.cons rfl Sub.nil))
          · replace hr1 := cond_f hc hr1
            refine W.skip ?_
            have he := Option.some.inj hr1
            subst j11
            refine En.weaken (fr' := [(0, (.int .i64 j3)), (1, (.int .i64 p1))]) (En.round ⟨I5, rfl, Mem.Le.refl _, hS8⟩) (Sub.cons rfl (Sub.cons rfl Sub.nil))
        case restj11 =>
          rintro _ w15 ⟨I13, rfl, hl14, hS16⟩
          refine En.next ?_
          refine W.seq ?_
          refine W.seq ?_
          refine W.region (l := [0, 1, 2, 3, 4, 5, 6]) (by kernel_rfl) ?_
          refine WO.vals [(0, 17, (.int .i64 j3)), (1, 18, (.int .i64 j11)), (2, 19, (.bool (j3 == j11))), (3, 20, (.bool (j3 == j11)))] (by kernel_rfl) (fun _ => by kernel_rfl) ?_
          refine WO.join (l1 := [4, 5, 6]) (l2 := []) (J := fun frx wx => frx = [(23, (.bool ((j3 == j11) || (j11 == 1)))), (0, (.int .i64 j3)), (1, (.int .i64 j11))] ∧ wx = w15) ?restm17 ?waysm17
          case waysm17 =>
            refine WO.caseb (j3 == j11) (fun hc => ?_) (fun hc => ?_)
            · skip
              refine WO.reslot 20 rfl (show Value.bool (j3 == j11) = Value.bool true by rw [hc]) ?_
              refine WO.pass rfl (by kernel_rfl) rfl ?_
              refine WO.pass rfl (by kernel_rfl) rfl ?_
              refine WO.vals [(6, 23, (.bool true))] (by kernel_rfl) (fun _ => by kernel_rfl) ?_
              refine WO.weaken (fr' := [(23, (.bool ((j3 == j11) || (j11 == 1)))), (0, (.int .i64 j3)), (1, (.int .i64 j11))]) (WO.meet ⟨rfl, rfl⟩) (Sub.cons (by rw [hc]; rfl) (Sub.cons rfl (Sub.cons rfl Sub.nil)))
            · skip
              refine WO.reslot 20 rfl (show Value.bool (j3 == j11) = Value.bool false by rw [hc]) ?_
              refine WO.vals [(4, 21, (.int .i64 j11)), (5, 22, (.bool (j11 == 1))), (6, 23, (.bool (j11 == 1)))] (by kernel_rfl) (fun _ => by kernel_rfl) ?_
              refine WO.weaken (fr' := [(23, (.bool ((j3 == j11) || (j11 == 1)))), (0, (.int .i64 j3)), (1, (.int .i64 j11))]) (WO.meet ⟨rfl, rfl⟩) (Sub.cons (by rw [hc]; rfl) (Sub.cons rfl (Sub.cons rfl Sub.nil)))
          case restm17 =>
            rintro _ _ ⟨rfl, rfl⟩
            refine WO.nil ?_
            refine En.next ?_
            refine W.cond (b := ((j3 == j11) || (j11 == 1))) rfl rfl (fun hc => ?_) (fun hc => ?_)
            · replace hr := cond_t hc hr
              refine W.seq ?_
              refine W.region (l := [0, 1]) (by kernel_rfl) ?_
              refine WO.vals [(0, 24, (.int .i64 j3)), (1, 4, (.int .i64 j3))] (by kernel_rfl) (fun _ => by kernel_rfl) ?_
              refine WO.nil ?_
              refine En.next ?_
              refine W.ret ?_
              refine En.nx_ret ?_
              have he := Option.some.inj hr
              subst r
              exact En.ret1 rfl (.int .i64 j3) rfl ⟨I13, rfl, (hl6.trans hl14), hS16⟩
            · replace hr := cond_f hc hr
              refine W.skip ?_
              refine En.next ?_
              refine W.seq ?_
              refine W.seq ?_
              refine W.region (l := [0, 1]) (by kernel_rfl) ?_
              refine WO.vals [(0, 25, (.int .i64 j3)), (1, 26, (.bool (j3 == 1)))] (by kernel_rfl) (fun _ => by kernel_rfl) ?_
              refine WO.nil ?_
              refine En.next ?_
              refine W.cond (b := (j3 == 1)) rfl rfl (fun hc => ?_) (fun hc => ?_)
              · replace hr := cond_t hc hr
                refine W.seq ?_
                refine W.region (l := [0, 1]) (by kernel_rfl) ?_
                refine WO.vals [(0, 27, (.int .i64 j11)), (1, 4, (.int .i64 j11))] (by kernel_rfl) (fun _ => by kernel_rfl) ?_
                refine WO.nil ?_
                refine En.next ?_
                refine W.ret ?_
                refine En.nx_ret ?_
                have he := Option.some.inj hr
                subst r
                exact En.ret1 rfl (.int .i64 j11) rfl ⟨I13, rfl, (hl6.trans hl14), hS16⟩
              · replace hr := cond_f hc hr
                refine W.skip ?_
                refine En.next ?_
                refine W.seq ?_
                refine W.region (l := [0]) (by kernel_rfl) ?_
                refine WO.vals [(0, 4, (.int .i64 4))] (by kernel_rfl) (fun _ => by kernel_rfl) ?_
                refine WO.nil ?_
                refine En.next ?_
                refine W.ret ?_
                have he := Option.some.inj hr
                subst r
                exact En.ret1 rfl (.int .i64 4) rfl ⟨I13, rfl, (hl6.trans hl14), hS16⟩
noncomputable def registrarref20_Merge (p0 : List api_Need) : Option (List api_Need) := (forE (fun (i5 : Nat) => fun (s4 : List api_Need) => ((loopO (fun (s21 : Int) => ((bif (decide (s21 < (s4.length : Int))) then (idx s4 s21).bind (fun (x32 : api_Need) => (idx p0 (i5 : Int)).bind (fun (x33 : api_Need) => some (sLt x32.Path x33.Path))) else some false)).bind (fun (j28 : Bool) => (bif j28 then some (.inl (w64 (s21 + 1))) else some (.inr s21)))) 0).bind (fun (s37 : Int) => ((bif (decide (s37 < (s4.length : Int))) then (idx s4 s37).bind (fun (x44 : api_Need) => (idx p0 (i5 : Int)).bind (fun (x45 : api_Need) => some (sEq x44.Path x45.Path))) else some false)).bind (fun (j40 : Bool) => (bif j40 then (idx s4 s37).bind (fun (x50 : api_Need) => (idx p0 (i5 : Int)).bind (fun (x51 : api_Need) => (registrarref20_Both x50.Mode x51.Mode).bind (fun (r57 : Int) => (idx s4 s37).bind (fun (x58 : api_Need) => some (s4.set (s37).toNat (⟨x58.Path, r57⟩ : api_Need)))))) else (sub s4 0 s37).bind (fun (x67 : List api_Need) => (app 24 ([] : List api_Need) x67).bind (fun (x70 : List api_Need) => (idx p0 (i5 : Int)).bind (fun (x79 : api_Need) => (idx p0 (i5 : Int)).bind (fun (x80 : api_Need) => (idx p0 (i5 : Int)).bind (fun (x81 : api_Need) => (registrarref20_Both x80.Mode x81.Mode).bind (fun (r87 : Int) => (app 24 x70 ([(⟨x79.Path, r87⟩ : api_Need)] : List api_Need)).bind (fun (x96 : List api_Need) => (sub s4 s37 (s4.length : Int)).bind (fun (x105 : List api_Need) => (app 24 x96 x105).bind (fun (x106 : List api_Need) => some x106))))))))))))).bind (fun (j14 : List api_Need) => some j14)) p0.length 0 ([] : List api_Need)).bind (fun (s4 : (List api_Need)) => some s4)
set_option maxHeartbeats 1000000 in
theorem registrarref20_Merge_ok {E w : World} {I : Mem} {Os : List Mem} {p0 : List api_Need} {a_p0 : Option Addr} {c_p0 : Nat} (h_p0 : RSl 2 R_api_Need I a_p0 c_p0 p0) (hS : St E w I Os) {r : (List api_Need)} (hr : registrarref20_Merge p0 = some r) :
    Calls P 9 #[(.slice a_p0 p0.length c_p0)] w (fun e w' => ∃ (I' : Mem) (ra0 : Option Addr) (rc0 : Nat), e = .returned (.slice ra0 r.length rc0) ∧ I.Le I' ∧ St E w' I' Os ∧ RSl 2 R_api_Need I' ra0 rc0 r) := by
  refine calls_W (args := [(.slice a_p0 p0.length c_p0)]) (fn := Try.f9) rfl rfl rfl ?_
  unfold registrarref20_Merge at hr
  refine W.seq ?_
  refine W.region (l := [0]) (by kernel_rfl) ?_
  refine WO.vals [(0, 2, (.slice none 0 0))] (by kernel_rfl) (fun _ => by kernel_rfl) ?_
  refine WO.nil ?_
  refine En.next ?_
  refine W.seq ?_
  refine W.region (l := [0]) (by kernel_rfl) ?_
  refine WO.vals [(0, 3, (.slice none 0 0))] (by kernel_rfl) (fun _ => by kernel_rfl) ?_
  refine WO.nil ?_
  refine En.next ?_
  refine W.seq ?_
  refine W.seq ?_
  refine W.region (l := [0]) (by kernel_rfl) ?_
  refine WO.vals [(0, 4, (.int .i64 0))] (by kernel_rfl) (fun _ => by kernel_rfl) ?_
  refine WO.nil ?_
  refine En.next ?_
  refine W.block ?_
  obtain ⟨s4, hloop6, hr⟩ := bind_some hr
  have hS8 := hS.no
  have hlt12 := (h_p0).len_lt
  refine W.weaken (fr' := [(0, (.slice a_p0 p0.length c_p0)), (3, (.slice none ([] : List api_Need).length 0)), (4, (.int .i64 ((0 : Nat) : Int)))]) (W.forE (m := p0.length) hloop6 (fun (i5 : Nat) => fun (s4 : List api_Need) fr w => ∃ (I2 : Mem), ∃ (a_s4 : Option Addr), ∃ (c_s4 : Nat), ∃ (C_s4 : Mem), fr = [(0, (.slice a_p0 p0.length c_p0)), (3, (.slice a_s4 s4.length c_s4)), (4, (.int .i64 (i5 : Int)))] ∧ I.Le I2 ∧ St E w I2 ((C_s4) :: Os) ∧ OwnSl 28 2 R_api_Need I2 C_s4 a_s4 c_s4 s4) ⟨I, none, 0, Mem.no, rfl, Mem.Le.refl _, hS8, OwnSl.nil⟩ ?roundt1 ?lastt1) (Sub.cons rfl (Sub.cons rfl (Sub.cons rfl Sub.nil)))
  case roundt1 =>
    rintro i5 s4 _ w9 hi13 ⟨I2, a_s4, c_s4, C_s4, rfl, hl3, hS10, h_s4⟩ x11 hr1
    refine W.seq ?_
    refine W.seq ?_
    refine W.region (l := [0, 1, 2, 3]) (by kernel_rfl) ?_
    refine WO.vals [(0, 7, (.int .i64 (i5 : Int))), (1, 8, (.slice a_p0 p0.length c_p0)), (2, 9, (.int .i64 (p0.length : Int))), (3, 10, (.bool (decide ((i5 : Int) < (p0.length : Int)))))] (by kernel_rfl) (fun _ => by kernel_rfl) ?_
    refine WO.nil ?_
    refine En.next ?_
    refine W.cond (b := (decide ((i5 : Int) < (p0.length : Int)))) rfl rfl (fun hc => ?_) (fun hc => ?_)
    rotate_left
    · exact absurd hc (by first | (simp; done) | (simp; omega))
    clear hc
    refine W.skip ?_
    refine En.next ?_
    refine W.seq ?_
    obtain ⟨j14, hr2, hr1⟩ := bind_some hr1
    refine W.join (J := (fun fr w => ∃ (I16 : Mem), ∃ (a_j14 : Option Addr), ∃ (c_j14 : Nat), ∃ (C_j14 : Mem), fr = [(0, (.slice a_p0 p0.length c_p0)), (3, (.slice a_j14 j14.length c_j14)), (4, (.int .i64 (i5 : Int)))] ∧ I2.Le I16 ∧ St E w I16 ((C_j14) :: Os) ∧ OwnSl 28 2 R_api_Need I16 C_j14 a_j14 c_j14 j14)) ?restj14 ?waysj14
    case waysj14 =>
      refine W.block ?_
      refine W.seq ?_
      refine W.region (l := [0]) (by kernel_rfl) ?_
      refine WO.vals [(0, 5, (.int .i64 0))] (by kernel_rfl) (fun _ => by kernel_rfl) ?_
      refine WO.nil ?_
      refine En.next ?_
      refine W.seq ?_
      refine W.block ?_
      obtain ⟨t18, hloop22, hr2⟩ := bind_some hr2
      refine W.weaken (fr' := [(0, (.slice a_p0 p0.length c_p0)), (3, (.slice a_s4 s4.length c_s4)), (4, (.int .i64 (i5 : Int))), (5, (.int .i64 0))]) (W.loopO hloop22 (fun (s21 : Int) fr w => ∃ (I19 : Mem), fr = [(0, (.slice a_p0 p0.length c_p0)), (3, (.slice a_s4 s4.length c_s4)), (4, (.int .i64 (i5 : Int))), (5, (.int .i64 s21))] ∧ I2.Le I19 ∧ St E w I19 ((C_s4) :: Os)) ⟨I2, rfl, Mem.Le.refl _, hS10⟩ ?_) (Sub.cons rfl (Sub.cons rfl (Sub.cons rfl (Sub.cons rfl Sub.nil))))
      rintro s21 _ w23 ⟨I19, rfl, hl20, hS24⟩ x25 hr3 hext18
      refine W.seq ?_
      refine W.seq ?_
      have hS26 := hS24.drew
      refine W.draw (l := [0, 1, 2, 3, 4, 5, 6, 7, 8, 9, 10, 11, 12, 13, 14, 15, 16]) (by kernel_rfl) 17 (KR I19 [C_s4]) qR (.back (by kernel_rfl)) (by kernel_rfl) (KR.cons (hS26.rd (List.Mem.head _)) (KR.nil hS26.im)) ?_
      generalize World.drew _ = w27 at *
      refine WO.vals [(0, 13, (.int .i64 s21)), (1, 14, (.slice a_s4 s4.length c_s4)), (2, 15, (.int .i64 (s4.length : Int))), (3, 16, (.bool (decide (s21 < (s4.length : Int))))), (4, 17, (.bool (decide (s21 < (s4.length : Int)))))] (by kernel_rfl) (fun _ => by kernel_rfl) ?_
      obtain ⟨j28, hr4, hr3⟩ := bind_some hr3
      refine WO.join (l1 := [5, 6, 7, 8, 9, 10, 11, 12, 13, 14, 15, 16]) (l2 := []) (J := (fun fr w => ∃ (I30 : Mem), fr = [(0, (.slice a_p0 p0.length c_p0)), (3, (.slice a_s4 s4.length c_s4)), (4, (.int .i64 (i5 : Int))), (5, (.int .i64 s21)), (29, (.bool j28))] ∧ I19.Le I30 ∧ St E w I30 ((C_s4) :: Os))) ?restj28 ?waysj28
      case waysj28 =>
        refine WO.caseb (decide (s21 < (s4.length : Int))) (fun hc => ?_) (fun hc => ?_)
        · replace hr4 := cond_t hc hr4
          refine WO.reslot 17 rfl (show Value.bool (decide (s21 < (s4.length : Int))) = Value.bool true by rw [hc]) ?_
          refine WO.vals [(5, 18, (.slice a_s4 s4.length c_s4)), (6, 19, (.int .i64 s21))] (by kernel_rfl) (fun _ => by kernel_rfl) ?_
          obtain ⟨x32, hx_x32, hr4⟩ := bind_some hr4
          obtain ⟨h0_x32, h1_x32, hx_x32⟩ := idx_some hx_x32
          obtain ⟨ha_x32, cs_x32, hn_x32, hr_x32, hc_x32⟩ := ((h_s4.mono hl20).sl).el _ _ hx_x32
          obtain rfl := hr_x32
          refine WO.indexAddr (e := 28) (sz := 2) rfl (by kernel_rfl) (by kernel_rfl) (by kernel_rfl) rfl ha_x32 rfl h0_x32 h1_x32 ?_
          refine WO.vals [(8, 21, (.pointer (some ⟨bl a_s4, of a_s4 + (s21).toNat * 2, none⟩)))] (by kernel_rfl) (fun _ => by kernel_rfl) ?_
          refine WO.load rfl (by kernel_rfl) (by kernel_rfl) rfl (v := (.string x32.Path)) (fun w' hw' => hc_x32.cell0 rfl ((rd_c (List.Mem.head _) (hS26.rd (List.Mem.head _))) w' hw')) ?_
          refine WO.vals [(10, 23, (.slice a_p0 p0.length c_p0)), (11, 24, (.int .i64 (i5 : Int)))] (by kernel_rfl) (fun _ => by kernel_rfl) ?_
          obtain ⟨x33, hx_x33, hr4⟩ := bind_some hr4
          obtain ⟨h0_x33, h1_x33, hx_x33⟩ := idx_some hx_x33
          obtain ⟨ha_x33, cs_x33, hn_x33, hr_x33, hc_x33⟩ := ((RSl.mono h_p0 (hl3.trans hl20))).el _ _ hx_x33
          obtain rfl := hr_x33
          refine WO.indexAddr (e := 28) (sz := 2) rfl (by kernel_rfl) (by kernel_rfl) (by kernel_rfl) rfl ha_x33 rfl h0_x33 h1_x33 ?_
          refine WO.vals [(13, 26, (.pointer (some ⟨bl a_p0, of a_p0 + ((i5 : Int)).toNat * 2, none⟩)))] (by kernel_rfl) (fun _ => by kernel_rfl) ?_
          refine WO.load rfl (by kernel_rfl) (by kernel_rfl) rfl (v := (.string x33.Path)) (fun w' hw' => hc_x33.cell0 rfl ((rd_i hS26.im) w' hw')) ?_
          refine WO.vals [(15, 28, (.bool (sLt x32.Path x33.Path))), (16, 29, (.bool (sLt x32.Path x33.Path)))] (by kernel_rfl) (fun _ => by kernel_rfl) ?_
          have he := Option.some.inj hr4
          subst j28
          refine WO.weaken (fr' := [(0, (.slice a_p0 p0.length c_p0)), (3, (.slice a_s4 s4.length c_s4)), (4, (.int .i64 (i5 : Int))), (5, (.int .i64 s21)), (29, (.bool (sLt x32.Path x33.Path)))]) (WO.meet ⟨I19, rfl, Mem.Le.refl _, hS26⟩) (Sub.cons rfl (Sub.cons rfl (Sub.cons rfl (Sub.cons rfl (Sub.cons rfl Sub.nil)))))
        · replace hr4 := cond_f hc hr4
          refine WO.reslot 17 rfl (show Value.bool (decide (s21 < (s4.length : Int))) = Value.bool false by rw [hc]) ?_
          refine WO.pass rfl (by kernel_rfl) rfl ?_
          refine WO.pass rfl (by kernel_rfl) rfl ?_
          refine WO.pass rfl (by kernel_rfl) rfl ?_
          refine WO.pass rfl (by kernel_rfl) rfl ?_
          refine WO.pass rfl (by kernel_rfl) rfl ?_
          refine WO.pass rfl (by kernel_rfl) rfl ?_
          refine WO.pass rfl (by kernel_rfl) rfl ?_
          refine WO.pass rfl (by kernel_rfl) rfl ?_
          refine WO.pass rfl (by kernel_rfl) rfl ?_
          refine WO.pass rfl (by kernel_rfl) rfl ?_
          refine WO.pass rfl (by kernel_rfl) rfl ?_
          refine WO.vals [(16, 29, (.bool false))] (by kernel_rfl) (fun _ => by kernel_rfl) ?_
          have he := Option.some.inj hr4
          subst j28
          refine WO.weaken (fr' := [(0, (.slice a_p0 p0.length c_p0)), (3, (.slice a_s4 s4.length c_s4)), (4, (.int .i64 (i5 : Int))), (5, (.int .i64 s21)), (29, (.bool false))]) (WO.meet ⟨I19, rfl, Mem.Le.refl _, hS26⟩) (Sub.cons rfl (Sub.cons rfl (Sub.cons rfl (Sub.cons rfl (Sub.cons rfl Sub.nil)))))
      case restj28 =>
        rintro _ w34 ⟨I30, rfl, hl31, hS35⟩
        refine WO.nil ?_
        refine En.next ?_
        refine W.cond (b := j28) rfl rfl (fun hc => ?_) (fun hc => ?_)
        · replace hr3 := cond_t hc hr3
          refine W.skip ?_
          refine En.next ?_
          refine W.block ?_
          refine W.region (l := [0, 1, 2]) (by kernel_rfl) ?_
          refine WO.vals [(0, 30, (.int .i64 s21)), (1, 31, (.int .i64 (w64 (s21 + 1)))), (2, 5, (.int .i64 (w64 (s21 + 1))))] (by kernel_rfl) (fun _ => by kernel_rfl) ?_
          refine WO.nil ?_
          refine En.in_normal ?_
          refine En.weaken (fr' := [(0, (.slice a_p0 p0.length c_p0)), (3, (.slice a_s4 s4.length c_s4)), (4, (.int .i64 (i5 : Int))), (5, (.int .i64 (w64 (s21 + 1))))]) (En.round ⟨(w64 (s21 + 1)), (Option.some.inj hr3).symm, I30, rfl, (hl20.trans hl31), hS35⟩) (Sub.cons rfl (Sub.cons rfl (Sub.cons rfl (Sub.cons rfl Sub.nil))))
        · replace hr3 := cond_f hc hr3
          refine W.exit ?_
          refine En.nx_exit ?_
          refine En.rd_exit ?_
          have ht := hext18 _ (Option.some.inj hr3).symm
          subst t18
          refine En.in_hit ?_
          refine En.next ?_
          refine W.seq ?_
          refine W.seq ?_
          have hS113 := hS35.drew
          refine W.draw (l := [0, 1, 2, 3, 4, 5, 6, 7, 8, 9, 10, 11, 12, 13, 14, 15, 16]) (by kernel_rfl) 17 (KR I30 [C_s4]) qR (.back (by kernel_rfl)) (by kernel_rfl) (KR.cons (hS113.rd (List.Mem.head _)) (KR.nil hS113.im)) ?_
          generalize World.drew _ = w114 at *
          refine WO.vals [(0, 32, (.int .i64 s21)), (1, 33, (.slice a_s4 s4.length c_s4)), (2, 34, (.int .i64 (s4.length : Int))), (3, 35, (.bool (decide (s21 < (s4.length : Int))))), (4, 36, (.bool (decide (s21 < (s4.length : Int)))))] (by kernel_rfl) (fun _ => by kernel_rfl) ?_
          obtain ⟨j115, hr3, hr2⟩ := bind_some hr2
          refine WO.join (l1 := [5, 6, 7, 8, 9, 10, 11, 12, 13, 14, 15, 16]) (l2 := []) (J := (fun fr w => ∃ (I117 : Mem), fr = [(0, (.slice a_p0 p0.length c_p0)), (3, (.slice a_s4 s4.length c_s4)), (4, (.int .i64 (i5 : Int))), (5, (.int .i64 s21)), (48, (.bool j115))] ∧ I30.Le I117 ∧ St E w I117 ((C_s4) :: Os))) ?restj115 ?waysj115
          case waysj115 =>
            refine WO.caseb (decide (s21 < (s4.length : Int))) (fun hc => ?_) (fun hc => ?_)
            · replace hr3 := cond_t hc hr3
              refine WO.reslot 36 rfl (show Value.bool (decide (s21 < (s4.length : Int))) = Value.bool true by rw [hc]) ?_
              refine WO.vals [(5, 37, (.slice a_s4 s4.length c_s4)), (6, 38, (.int .i64 s21))] (by kernel_rfl) (fun _ => by kernel_rfl) ?_
              obtain ⟨x119, hx_x119, hr3⟩ := bind_some hr3
              obtain ⟨h0_x119, h1_x119, hx_x119⟩ := idx_some hx_x119
              obtain ⟨ha_x119, cs_x119, hn_x119, hr_x119, hc_x119⟩ := ((h_s4.mono (hl20.trans hl31)).sl).el _ _ hx_x119
              obtain rfl := hr_x119
              refine WO.indexAddr (e := 28) (sz := 2) rfl (by kernel_rfl) (by kernel_rfl) (by kernel_rfl) rfl ha_x119 rfl h0_x119 h1_x119 ?_
              refine WO.vals [(8, 40, (.pointer (some ⟨bl a_s4, of a_s4 + (s21).toNat * 2, none⟩)))] (by kernel_rfl) (fun _ => by kernel_rfl) ?_
              refine WO.load rfl (by kernel_rfl) (by kernel_rfl) rfl (v := (.string x119.Path)) (fun w' hw' => hc_x119.cell0 rfl ((rd_c (List.Mem.head _) (hS113.rd (List.Mem.head _))) w' hw')) ?_
              refine WO.vals [(10, 42, (.slice a_p0 p0.length c_p0)), (11, 43, (.int .i64 (i5 : Int)))] (by kernel_rfl) (fun _ => by kernel_rfl) ?_
              obtain ⟨x120, hx_x120, hr3⟩ := bind_some hr3
              obtain ⟨h0_x120, h1_x120, hx_x120⟩ := idx_some hx_x120
              obtain ⟨ha_x120, cs_x120, hn_x120, hr_x120, hc_x120⟩ := ((RSl.mono h_p0 ((hl3.trans hl20).trans hl31))).el _ _ hx_x120
              obtain rfl := hr_x120
              refine WO.indexAddr (e := 28) (sz := 2) rfl (by kernel_rfl) (by kernel_rfl) (by kernel_rfl) rfl ha_x120 rfl h0_x120 h1_x120 ?_
              refine WO.vals [(13, 45, (.pointer (some ⟨bl a_p0, of a_p0 + ((i5 : Int)).toNat * 2, none⟩)))] (by kernel_rfl) (fun _ => by kernel_rfl) ?_
              refine WO.load rfl (by kernel_rfl) (by kernel_rfl) rfl (v := (.string x120.Path)) (fun w' hw' => hc_x120.cell0 rfl ((rd_i hS113.im) w' hw')) ?_
              refine WO.vals [(15, 47, (.bool (sEq x119.Path x120.Path))), (16, 48, (.bool (sEq x119.Path x120.Path)))] (by kernel_rfl) (fun _ => by kernel_rfl) ?_
              have he := Option.some.inj hr3
              subst j115
              refine WO.weaken (fr' := [(0, (.slice a_p0 p0.length c_p0)), (3, (.slice a_s4 s4.length c_s4)), (4, (.int .i64 (i5 : Int))), (5, (.int .i64 s21)), (48, (.bool (sEq x119.Path x120.Path)))]) (WO.meet ⟨I30, rfl, Mem.Le.refl _, hS113⟩) (Sub.cons rfl (Sub.cons rfl (Sub.cons rfl (Sub.cons rfl (Sub.cons rfl Sub.nil)))))
            · replace hr3 := cond_f hc hr3
              refine WO.reslot 36 rfl (show Value.bool (decide (s21 < (s4.length : Int))) = Value.bool false by rw [hc]) ?_
              refine WO.pass rfl (by kernel_rfl) rfl ?_
              refine WO.pass rfl (by kernel_rfl) rfl ?_
              refine WO.pass rfl (by kernel_rfl) rfl ?_
              refine WO.pass rfl (by kernel_rfl) rfl ?_
              refine WO.pass rfl (by kernel_rfl) rfl ?_
              refine WO.pass rfl (by kernel_rfl) rfl ?_
              refine WO.pass rfl (by kernel_rfl) rfl ?_
              refine WO.pass rfl (by kernel_rfl) rfl ?_
              refine WO.pass rfl (by kernel_rfl) rfl ?_
              refine WO.pass rfl (by kernel_rfl) rfl ?_
              refine WO.pass rfl (by kernel_rfl) rfl ?_
              refine WO.vals [(16, 48, (.bool false))] (by kernel_rfl) (fun _ => by kernel_rfl) ?_
              have he := Option.some.inj hr3
              subst j115
              refine WO.weaken (fr' := [(0, (.slice a_p0 p0.length c_p0)), (3, (.slice a_s4 s4.length c_s4)), (4, (.int .i64 (i5 : Int))), (5, (.int .i64 s21)), (48, (.bool false))]) (WO.meet ⟨I30, rfl, Mem.Le.refl _, hS113⟩) (Sub.cons rfl (Sub.cons rfl (Sub.cons rfl (Sub.cons rfl (Sub.cons rfl Sub.nil)))))
          case restj115 =>
            rintro _ w121 ⟨I117, rfl, hl118, hS122⟩
            refine WO.nil ?_
            refine En.next ?_
            refine W.cond (b := j115) rfl rfl (fun hc => ?_) (fun hc => ?_)
            · replace hr2 := cond_t hc hr2
              refine W.seq ?_
              have hS123 := hS122.drew
              refine W.draw (l := [0, 1, 2, 3, 4, 5, 6, 7, 8, 9, 10, 11, 12, 13, 14, 15]) (by kernel_rfl) 12 (KR I117 [C_s4]) qR (.back (by kernel_rfl)) (by kernel_rfl) (KR.cons (hS123.rd (List.Mem.head _)) (KR.nil hS123.im)) ?_
              generalize World.drew _ = w124 at *
              refine WO.vals [(0, 49, (.slice a_s4 s4.length c_s4)), (1, 50, (.int .i64 s21)), (2, 51, (.slice a_s4 s4.length c_s4)), (3, 52, (.int .i64 s21))] (by kernel_rfl) (fun _ => by kernel_rfl) ?_
              obtain ⟨x125, hx_x125, hr2⟩ := bind_some hr2
              obtain ⟨h0_x125, h1_x125, hx_x125⟩ := idx_some hx_x125
              obtain ⟨ha_x125, cs_x125, hn_x125, hr_x125, hc_x125⟩ := ((h_s4.mono ((hl20.trans hl31).trans hl118)).sl).el _ _ hx_x125
              obtain rfl := hr_x125
              refine WO.indexAddr (e := 28) (sz := 2) rfl (by kernel_rfl) (by kernel_rfl) (by kernel_rfl) rfl ha_x125 rfl h0_x125 h1_x125 ?_
              refine WO.vals [(5, 54, (.pointer (some ⟨bl a_s4, of a_s4 + (s21).toNat * 2 + 1, none⟩)))] (by kernel_rfl) (fun _ => by kernel_rfl) ?_
              refine WO.load rfl (by kernel_rfl) (by kernel_rfl) rfl (v := (.int .i64 x125.Mode)) (fun w' hw' => hc_x125.cellk 1 rfl ((rd_c (List.Mem.head _) (hS123.rd (List.Mem.head _))) w' hw')) ?_
              refine WO.vals [(7, 56, (.slice a_p0 p0.length c_p0)), (8, 57, (.int .i64 (i5 : Int)))] (by kernel_rfl) (fun _ => by kernel_rfl) ?_
              obtain ⟨x126, hx_x126, hr2⟩ := bind_some hr2
              obtain ⟨h0_x126, h1_x126, hx_x126⟩ := idx_some hx_x126
              obtain ⟨ha_x126, cs_x126, hn_x126, hr_x126, hc_x126⟩ := ((RSl.mono h_p0 (((hl3.trans hl20).trans hl31).trans hl118))).el _ _ hx_x126
              obtain rfl := hr_x126
              refine WO.indexAddr (e := 28) (sz := 2) rfl (by kernel_rfl) (by kernel_rfl) (by kernel_rfl) rfl ha_x126 rfl h0_x126 h1_x126 ?_
              refine WO.vals [(10, 59, (.pointer (some ⟨bl a_p0, of a_p0 + ((i5 : Int)).toNat * 2 + 1, none⟩)))] (by kernel_rfl) (fun _ => by kernel_rfl) ?_
              refine WO.load rfl (by kernel_rfl) (by kernel_rfl) rfl (v := (.int .i64 x126.Mode)) (fun w' hw' => hc_x126.cellk 1 rfl ((rd_i hS123.im) w' hw')) ?_
              refine WO.tail rfl ?_
              obtain ⟨r132, hx_r127, hr2⟩ := bind_some hr2
              refine WO.call rfl (by kernel_rfl) rfl (f := 18) (args := #[(.int .i64 x125.Mode), (.int .i64 x126.Mode)]) (by kernel_rfl) (registrarref20_Both_ok  hS123 hx_r127) ?_
              rintro _ w128 ⟨I129, rfl, hl130, hS131⟩
              refine ⟨_, rfl, trivial, ?_⟩
              obtain ⟨x133, hx_x133, hr2⟩ := bind_some hr2
              obtain ⟨h0_x133, h1_x133, hx_x133⟩ := idx_some hx_x133
              obtain ⟨ha_x133, cs_x133, hn_x133, hr_x133, hc_x133⟩ := ((h_s4.mono (((hl20.trans hl31).trans hl118).trans hl130)).sl).el _ _ hx_x133
              obtain rfl := hr_x133
              refine WO.indexAddr (e := 28) (sz := 2) rfl (by kernel_rfl) (by kernel_rfl) (by kernel_rfl) rfl ha_x133 rfl h0_x133 h1_x133 ?_
              refine WO.vals [(14, 63, (.pointer (some ⟨bl a_s4, of a_s4 + (s21).toNat * 2 + 1, none⟩)))] (by kernel_rfl) (fun _ => by kernel_rfl) ?_
              refine WO.storeOwn hS131 (OwnSl.mono h_s4 (((hl20.trans hl31).trans hl118).trans hl130)) rfl (by kernel_rfl) rfl hx_x133 (u' := (⟨x133.Path, r132⟩ : api_Need)) 1 rfl rfl (by kernel_rfl) rfl rfl (fun cs hrel => (by obtain rfl := hrel; exact rfl)) (fun _ _ _ => trivial) ?_
              intro w135 C136 hS134 ho137
              refine WO.reslot 3 rfl (show Value.slice a_s4 s4.length c_s4 = Value.slice a_s4 (s4.set (s21).toNat (⟨x133.Path, r132⟩ : api_Need)).length c_s4 by simp only [List.length_set]) ?_
              refine WO.nil ?_
              refine En.next ?_
              refine W.exit ?_
              refine En.nx_exit ?_
              refine En.in_hit ?_
              have he := Option.some.inj hr2
              subst j14
              refine En.weaken (fr' := [(0, (.slice a_p0 p0.length c_p0)), (3, (.slice a_s4 (s4.set (s21).toNat (⟨x133.Path, r132⟩ : api_Need)).length c_s4)), (4, (.int .i64 (i5 : Int)))]) (En.round ⟨I129, a_s4, c_s4, C136, rfl, (((hl20.trans hl31).trans hl118).trans hl130), hS134, ho137⟩) (Sub.cons rfl (Sub.cons rfl (Sub.cons rfl Sub.nil)))
            · replace hr2 := cond_f hc hr2
              refine W.skip ?_
              refine En.next ?_
              refine W.seq ?_
              refine W.region (l := [0]) (by kernel_rfl) ?_
              refine WO.vals [(0, 6, (.slice none 0 0))] (by kernel_rfl) (fun _ => by kernel_rfl) ?_
              refine WO.nil ?_
              refine En.next ?_
              refine W.seq ?_
              refine W.region (l := [0, 1, 2, 3, 4, 5]) (by kernel_rfl) ?_
              refine WO.vals [(0, 64, (.slice none 0 0)), (1, 65, (.slice a_s4 s4.length c_s4)), (2, 66, (.int .i64 s21))] (by kernel_rfl) (fun _ => by kernel_rfl) ?_
              obtain ⟨I138, hl139, hS141, hp140⟩ := OwnSl.pub (h_s4.mono ((hl20.trans hl31).trans hl118)) hS122
              obtain ⟨x142, hx_x142, hr2⟩ := bind_some hr2
              obtain ⟨h0_x142, h1_x142, h2_x142, he_x142⟩ := sub_some hx_x142
              have hl_x142 : (s21 : Int) ≤ (c_s4 : Int) := Int.le_trans h2_x142 (Int.ofNat_le.2 (hp140).le)
              refine WO.slice (e := 28) (sz := 2) rfl (by kernel_rfl) (by kernel_rfl) (by kernel_rfl) rfl (0 : Int) (s21 : Int) h0_x142 (.inl ⟨rfl, rfl⟩) (.inr ⟨_, _, rfl, rfl⟩) h1_x142 hl_x142 ?_
              obtain ⟨a_x142, c_x142, h_x142, ev_x142⟩ := sub_ok (hp140) h0_x142 h1_x142 h2_x142 he_x142
              refine WO.reslot 67 rfl ev_x142 ?_
              have hS144 := hS141.no
              obtain ⟨x145, hx_x145, hr2⟩ := bind_some hr2
              obtain ⟨h0_x145, he_x145⟩ := app_some hx_x145
              refine WO.append (e' := 28) (b := 24) (zs := #[(.string (⟨#[]⟩ : ByteArray)), (.int .i64 0)]) hS144 (OwnSl.nil (T := 28) (rel := R_api_Need) (I := I138)) rfl (by kernel_rfl) rfl (by kernel_rfl) (by kernel_rfl) (by kernel_rfl) rfl rfl rfl rfl h_x142 hS144.im h0_x145 he_x145 (fun _ _ _ => trivial) ?_
              intro a146 c147 w148 C149 hS150 ho151
              refine WO.vals [(5, 6, (.slice a146 x145.length c147))] (by kernel_rfl) (fun _ => by kernel_rfl) ?_
              refine WO.nil ?_
              refine En.next ?_
              refine W.seq ?_
              have hS152 := hS150.drew
              refine W.draw (l := [0, 1, 2, 3, 4, 5, 6, 7, 8, 9, 10, 11, 12, 13, 14, 15, 16, 17, 18, 19, 20]) (by kernel_rfl) 17 (KR I138 []) qR (.back (by kernel_rfl)) (by kernel_rfl) (KR.nil hS152.im) ?_
              generalize World.drew _ = w153 at *
              refine WO.vals [(0, 69, (.slice a146 x145.length c147)), (1, 70, (.slice a_p0 p0.length c_p0)), (2, 71, (.int .i64 (i5 : Int)))] (by kernel_rfl) (fun _ => by kernel_rfl) ?_
              obtain ⟨x154, hx_x154, hr2⟩ := bind_some hr2
              obtain ⟨h0_x154, h1_x154, hx_x154⟩ := idx_some hx_x154
              obtain ⟨ha_x154, cs_x154, hn_x154, hr_x154, hc_x154⟩ := ((RSl.mono h_p0 ((((hl3.trans hl20).trans hl31).trans hl118).trans hl139))).el _ _ hx_x154
              obtain rfl := hr_x154
              refine WO.indexAddr (e := 28) (sz := 2) rfl (by kernel_rfl) (by kernel_rfl) (by kernel_rfl) rfl ha_x154 rfl h0_x154 h1_x154 ?_
              refine WO.vals [(4, 73, (.pointer (some ⟨bl a_p0, of a_p0 + ((i5 : Int)).toNat * 2, none⟩)))] (by kernel_rfl) (fun _ => by kernel_rfl) ?_
              refine WO.load rfl (by kernel_rfl) (by kernel_rfl) rfl (v := (.string x154.Path)) (fun w' hw' => hc_x154.cell0 rfl ((rd_i hS152.im) w' hw')) ?_
              refine WO.vals [(6, 75, (.slice a_p0 p0.length c_p0)), (7, 76, (.int .i64 (i5 : Int)))] (by kernel_rfl) (fun _ => by kernel_rfl) ?_
              obtain ⟨x155, hx_x155, hr2⟩ := bind_some hr2
              obtain ⟨h0_x155, h1_x155, hx_x155⟩ := idx_some hx_x155
              obtain ⟨ha_x155, cs_x155, hn_x155, hr_x155, hc_x155⟩ := ((RSl.mono h_p0 ((((hl3.trans hl20).trans hl31).trans hl118).trans hl139))).el _ _ hx_x155
              obtain rfl := hr_x155
              refine WO.indexAddr (e := 28) (sz := 2) rfl (by kernel_rfl) (by kernel_rfl) (by kernel_rfl) rfl ha_x155 rfl h0_x155 h1_x155 ?_
              refine WO.vals [(9, 78, (.pointer (some ⟨bl a_p0, of a_p0 + ((i5 : Int)).toNat * 2 + 1, none⟩)))] (by kernel_rfl) (fun _ => by kernel_rfl) ?_
              refine WO.load rfl (by kernel_rfl) (by kernel_rfl) rfl (v := (.int .i64 x155.Mode)) (fun w' hw' => hc_x155.cellk 1 rfl ((rd_i hS152.im) w' hw')) ?_
              refine WO.vals [(11, 80, (.slice a_p0 p0.length c_p0)), (12, 81, (.int .i64 (i5 : Int)))] (by kernel_rfl) (fun _ => by kernel_rfl) ?_
              obtain ⟨x156, hx_x156, hr2⟩ := bind_some hr2
              obtain ⟨h0_x156, h1_x156, hx_x156⟩ := idx_some hx_x156
              obtain ⟨ha_x156, cs_x156, hn_x156, hr_x156, hc_x156⟩ := ((RSl.mono h_p0 ((((hl3.trans hl20).trans hl31).trans hl118).trans hl139))).el _ _ hx_x156
              obtain rfl := hr_x156
              refine WO.indexAddr (e := 28) (sz := 2) rfl (by kernel_rfl) (by kernel_rfl) (by kernel_rfl) rfl ha_x156 rfl h0_x156 h1_x156 ?_
              refine WO.vals [(14, 83, (.pointer (some ⟨bl a_p0, of a_p0 + ((i5 : Int)).toNat * 2 + 1, none⟩)))] (by kernel_rfl) (fun _ => by kernel_rfl) ?_
              refine WO.load rfl (by kernel_rfl) (by kernel_rfl) rfl (v := (.int .i64 x156.Mode)) (fun w' hw' => hc_x156.cellk 1 rfl ((rd_i hS152.im) w' hw')) ?_
              obtain ⟨r162, hx_r157, hr2⟩ := bind_some hr2
              refine WO.call rfl (by kernel_rfl) rfl (f := 18) (args := #[(.int .i64 x155.Mode), (.int .i64 x156.Mode)]) (by kernel_rfl) (registrarref20_Both_ok  hS152 hx_r157) ?_
              rintro _ w158 ⟨I159, rfl, hl160, hS161⟩
              refine ⟨_, rfl, (KR.nil (hS161.im.of_le hl160)), ?_⟩
              refine WO.tail rfl ?_
              refine WO.vals [(17, 86, (.agg #[(.string x154.Path), (.int .i64 r162)]))] (by kernel_rfl) (fun _ => by kernel_rfl) ?_
              refine WO.newSlice (rel := R_api_Need) (xs := ([(⟨x154.Path, r162⟩ : api_Need)] : List api_Need)) hS161 rfl (by kernel_rfl) rfl 28 2 [[(.string x154.Path), (.int .i64 r162)]] (by kernel_rfl) rfl ((Elr.cons rfl Elr.nil)) (fun _ _ _ => trivial) ?_
              intro a166 C164 w168 hS167 ho165
              have hS170 := hS167.front1
              obtain ⟨x171, hx_x171, hr2⟩ := bind_some hr2
              obtain ⟨h0_x171, he_x171⟩ := app_some hx_x171
              refine WO.append (e' := 28) (b := 24) (zs := #[(.string (⟨#[]⟩ : ByteArray)), (.int .i64 0)]) hS170 (OwnSl.mono ho151 hl160) rfl (by kernel_rfl) rfl (by kernel_rfl) (by kernel_rfl) (by kernel_rfl) rfl rfl rfl rfl ho165.sl (hS170.rd (List.Mem.tail _ (List.Mem.head _))) h0_x171 he_x171 (fun _ _ _ => trivial) ?_
              intro a172 c173 w174 C175 hS176 ho177
              have hS178 := hS176.front1
              have hS179 := hS178.drop
              refine WO.vals [(20, 6, (.slice a172 x171.length c173))] (by kernel_rfl) (fun _ => by kernel_rfl) ?_
              refine WO.nil ?_
              refine En.next ?_
              refine W.region (l := [0, 1, 2, 3, 4, 5]) (by kernel_rfl) ?_
              refine WO.vals [(0, 89, (.slice a172 x171.length c173)), (1, 90, (.slice a_s4 s4.length c_s4)), (2, 91, (.int .i64 s21))] (by kernel_rfl) (fun _ => by kernel_rfl) ?_
              obtain ⟨x180, hx_x180, hr2⟩ := bind_some hr2
              obtain ⟨h0_x180, h1_x180, h2_x180, he_x180⟩ := sub_some hx_x180
              have hl_x180 : ((s4.length : Int) : Int) ≤ (c_s4 : Int) := Int.le_trans h2_x180 (Int.ofNat_le.2 ((RSl.mono hp140 hl160)).le)
              refine WO.slice (e := 28) (sz := 2) rfl (by kernel_rfl) (by kernel_rfl) (by kernel_rfl) rfl (s21 : Int) ((s4.length : Int) : Int) h0_x180 (.inr ⟨_, _, rfl, rfl⟩) (.inl ⟨rfl, rfl⟩) h1_x180 hl_x180 ?_
              obtain ⟨a_x180, c_x180, h_x180, ev_x180⟩ := sub_ok ((RSl.mono hp140 hl160)) h0_x180 h1_x180 h2_x180 he_x180
              refine WO.reslot 92 rfl ev_x180 ?_
              obtain ⟨x181, hx_x181, hr2⟩ := bind_some hr2
              obtain ⟨h0_x181, he_x181⟩ := app_some hx_x181
              refine WO.append (e' := 28) (b := 24) (zs := #[(.string (⟨#[]⟩ : ByteArray)), (.int .i64 0)]) hS179 ho177 rfl (by kernel_rfl) rfl (by kernel_rfl) (by kernel_rfl) (by kernel_rfl) rfl rfl rfl rfl h_x180 hS179.im h0_x181 he_x181 (fun _ _ _ => trivial) ?_
              intro a182 c183 w184 C185 hS186 ho187
              refine WO.vals [(5, 3, (.slice a182 x181.length c183))] (by kernel_rfl) (fun _ => by kernel_rfl) ?_
              refine WO.nil ?_
              refine En.in_normal ?_
              have he := Option.some.inj hr2
              subst j14
              refine En.weaken (fr' := [(0, (.slice a_p0 p0.length c_p0)), (3, (.slice a182 x181.length c183)), (4, (.int .i64 (i5 : Int)))]) (En.round ⟨I159, a182, c183, C185, rfl, ((((hl20.trans hl31).trans hl118).trans hl139).trans hl160), hS186, ho187⟩) (Sub.cons rfl (Sub.cons rfl (Sub.cons rfl Sub.nil)))
    case restj14 =>
      rintro _ w188 ⟨I16, a_j14, c_j14, C_j14, rfl, hl17, hS189, h_j14⟩
      refine En.next ?_
      refine W.region (l := [0, 1, 2]) (by kernel_rfl) ?_
      refine WO.vals [(0, 11, (.int .i64 (i5 : Int)))] (by kernel_rfl) (fun _ => by kernel_rfl) ?_
      refine WO.incr (j := i5) rfl (by kernel_rfl) rfl (by omega) ?_
      refine WO.vals [(2, 4, (.int .i64 ((i5 + 1 : Nat) : Int)))] (by kernel_rfl) (fun _ => by kernel_rfl) ?_
      refine WO.nil ?_
      have he := Option.some.inj hr1
      subst x11
      refine En.weaken (fr' := [(0, (.slice a_p0 p0.length c_p0)), (3, (.slice a_j14 j14.length c_j14)), (4, (.int .i64 ((i5 + 1 : Nat) : Int)))]) (En.round ⟨I16, a_j14, c_j14, C_j14, rfl, (hl3.trans hl17), hS189, h_j14⟩) (Sub.cons rfl (Sub.cons rfl (Sub.cons rfl Sub.nil)))
  case lastt1 =>
    rintro _ w190 ⟨I2, a_s4, c_s4, C_s4, rfl, hl3, hS191, h_s4⟩
    refine W.seq ?_
    refine W.seq ?_
    refine W.region (l := [0, 1, 2, 3]) (by kernel_rfl) ?_
    refine WO.vals [(0, 7, (.int .i64 (p0.length : Int))), (1, 8, (.slice a_p0 p0.length c_p0)), (2, 9, (.int .i64 (p0.length : Int))), (3, 10, (.bool (decide ((p0.length : Int) < (p0.length : Int)))))] (by kernel_rfl) (fun _ => by kernel_rfl) ?_
    refine WO.nil ?_
    refine En.next ?_
    refine W.cond (b := (decide ((p0.length : Int) < (p0.length : Int)))) rfl rfl (fun hc => ?_) (fun hc => ?_)
    · exact absurd hc (by first | (simp; done) | (simp; omega))
    clear hc
    refine W.exit ?_
    refine En.nx_exit ?_
    refine En.rd_exit ?_
    refine En.in_hit ?_
    refine En.next ?_
    refine W.seq ?_
    refine W.region (l := [0, 1]) (by kernel_rfl) ?_
    refine WO.vals [(0, 94, (.slice a_s4 s4.length c_s4))] (by kernel_rfl) (fun _ => by kernel_rfl) ?_
    obtain ⟨I192, hl193, hS195, hp194⟩ := OwnSl.pub h_s4 hS191
    refine WO.vals [(1, 2, (.slice a_s4 s4.length c_s4))] (by kernel_rfl) (fun _ => by kernel_rfl) ?_
    refine WO.nil ?_
    refine En.next ?_
    refine W.ret ?_
    have he := Option.some.inj hr
    subst r
    exact En.ret1 rfl (.slice a_s4 s4.length c_s4) rfl ⟨I192, a_s4, c_s4, rfl, (hl3.trans hl193), hS195, hp194⟩
def registrarref20_Same (p0 : List api_Need) (p1 : List api_Need) : Option Bool := (bif ((p0.length : Int) != (p1.length : Int)) then some false else (forN (fun (i4 : Nat) => fun (_s : Unit) => (idx p0 (i4 : Int)).bind (fun (x13 : api_Need) => (idx p1 (i4 : Int)).bind (fun (x14 : api_Need) => (bif (!(sEq x13.Path x14.Path && (x13.Mode == x14.Mode))) then some (.inr false) else some (.inl ()))))) p0.length 0 ()).bind (fun (t : Unit ⊕ (Bool)) => match t with | .inl _ => some true | .inr s16 => some s16))
set_option maxHeartbeats 1000000 in
theorem registrarref20_Same_ok {E w : World} {I : Mem} {Os : List Mem} {p0 : List api_Need} {p1 : List api_Need} {a_p0 : Option Addr} {c_p0 : Nat} {a_p1 : Option Addr} {c_p1 : Nat} (h_p0 : RSl 2 R_api_Need I a_p0 c_p0 p0) (h_p1 : RSl 2 R_api_Need I a_p1 c_p1 p1) (hS : St E w I Os) {r : Bool} (hr : registrarref20_Same p0 p1 = some r) :
    Calls P 7 #[(.slice a_p0 p0.length c_p0), (.slice a_p1 p1.length c_p1)] w (fun e w' => ∃ (I' : Mem), e = .returned (.bool r) ∧ I.Le I' ∧ St E w' I' Os) := by
  refine calls_W (args := [(.slice a_p0 p0.length c_p0), (.slice a_p1 p1.length c_p1)]) (fn := Try.f7) rfl rfl rfl ?_
  unfold registrarref20_Same at hr
  refine W.seq ?_
  refine W.region (l := [0]) (by kernel_rfl) ?_
  refine WO.vals [(0, 4, (.bool false))] (by kernel_rfl) (fun _ => by kernel_rfl) ?_
  refine WO.nil ?_
  refine En.next ?_
  refine W.seq ?_
  refine W.seq ?_
  refine W.region (l := [0, 1, 2, 3, 4]) (by kernel_rfl) ?_
  refine WO.vals [(0, 6, (.slice a_p0 p0.length c_p0)), (1, 7, (.int .i64 (p0.length : Int))), (2, 8, (.slice a_p1 p1.length c_p1)), (3, 9, (.int .i64 (p1.length : Int))), (4, 10, (.bool ((p0.length : Int) != (p1.length : Int))))] (by kernel_rfl) (fun _ => by kernel_rfl) ?_
  refine WO.nil ?_
  refine En.next ?_
  refine W.cond (b := ((p0.length : Int) != (p1.length : Int))) rfl rfl (fun hc => ?_) (fun hc => ?_)
  · replace hr := cond_t hc hr
    refine W.seq ?_
    refine W.region (l := [0]) (by kernel_rfl) ?_
    refine WO.vals [(0, 4, (.bool false))] (by kernel_rfl) (fun _ => by kernel_rfl) ?_
    refine WO.nil ?_
    refine En.next ?_
    refine W.ret ?_
    refine En.nx_ret ?_
    have he := Option.some.inj hr
    subst r
    exact En.ret1 rfl (.bool false) rfl ⟨I, rfl, Mem.Le.refl _, hS⟩
  · replace hr := cond_f hc hr
    refine W.skip ?_
    refine En.next ?_
    refine W.seq ?_
    refine W.seq ?_
    refine W.region (l := [0]) (by kernel_rfl) ?_
    refine WO.vals [(0, 5, (.int .i64 0))] (by kernel_rfl) (fun _ => by kernel_rfl) ?_
    refine WO.nil ?_
    refine En.next ?_
    refine W.block ?_
    obtain ⟨t1, hloop5, hr⟩ := bind_some hr
    have hlt9 := (h_p0).len_lt
    refine W.weaken (fr' := [(0, (.slice a_p0 p0.length c_p0)), (1, (.slice a_p1 p1.length c_p1)), (5, (.int .i64 ((0 : Nat) : Int)))]) (W.forN (m := p0.length) hloop5 (fun (i4 : Nat) => fun (_s : Unit) fr w => ∃ (I2 : Mem), fr = [(0, (.slice a_p0 p0.length c_p0)), (1, (.slice a_p1 p1.length c_p1)), (5, (.int .i64 (i4 : Int)))] ∧ I.Le I2 ∧ St E w I2 Os) ⟨I, rfl, Mem.Le.refl _, hS⟩ ?roundt1 ?lastt1) (Sub.cons rfl (Sub.cons rfl (Sub.cons rfl Sub.nil)))
    case roundt1 =>
      rintro i4 _ _ w6 hi10 ⟨I2, rfl, hl3, hS7⟩ x8 hr1 hext1
      refine W.seq ?_
      refine W.seq ?_
      refine W.region (l := [0, 1, 2, 3]) (by kernel_rfl) ?_
      refine WO.vals [(0, 11, (.int .i64 (i4 : Int))), (1, 12, (.slice a_p0 p0.length c_p0)), (2, 13, (.int .i64 (p0.length : Int))), (3, 14, (.bool (decide ((i4 : Int) < (p0.length : Int)))))] (by kernel_rfl) (fun _ => by kernel_rfl) ?_
      refine WO.nil ?_
      refine En.next ?_
      refine W.cond (b := (decide ((i4 : Int) < (p0.length : Int)))) rfl rfl (fun hc => ?_) (fun hc => ?_)
      rotate_left
      · exact absurd hc (by first | (simp; done) | (simp; omega))
      clear hc
      refine W.skip ?_
      refine En.next ?_
      refine W.seq ?_
      refine W.block ?_
      refine W.seq ?_
      have hS11 := hS7.drew
      refine W.draw (l := [0, 1, 2, 3, 4, 5, 6, 7, 8]) (by kernel_rfl) 8 (KR I2 []) qR (.back (by kernel_rfl)) (by kernel_rfl) (KR.nil hS11.im) ?_
      generalize World.drew _ = w12 at *
      refine WO.vals [(0, 17, (.slice a_p0 p0.length c_p0)), (1, 18, (.int .i64 (i4 : Int)))] (by kernel_rfl) (fun _ => by kernel_rfl) ?_
      obtain ⟨x13, hx_x13, hr1⟩ := bind_some hr1
      obtain ⟨h0_x13, h1_x13, hx_x13⟩ := idx_some hx_x13
      obtain ⟨ha_x13, cs_x13, hn_x13, hr_x13, hc_x13⟩ := ((RSl.mono h_p0 hl3)).el _ _ hx_x13
      obtain rfl := hr_x13
      refine WO.indexAddr (e := 28) (sz := 2) rfl (by kernel_rfl) (by kernel_rfl) (by kernel_rfl) rfl ha_x13 rfl h0_x13 h1_x13 ?_
      refine WO.loadN rfl (by kernel_rfl) (by kernel_rfl) rfl [(.string x13.Path), (.int .i64 x13.Mode)] (by kernel_rfl) (fun w' hw' => hc_x13.cells (k := 0) rfl rfl ((rd_i hS11.im) w' hw')) ?_
      refine WO.vals [(4, 21, (.slice a_p1 p1.length c_p1)), (5, 22, (.int .i64 (i4 : Int)))] (by kernel_rfl) (fun _ => by kernel_rfl) ?_
      obtain ⟨x14, hx_x14, hr1⟩ := bind_some hr1
      obtain ⟨h0_x14, h1_x14, hx_x14⟩ := idx_some hx_x14
      obtain ⟨ha_x14, cs_x14, hn_x14, hr_x14, hc_x14⟩ := ((RSl.mono h_p1 hl3)).el _ _ hx_x14
      obtain rfl := hr_x14
      refine WO.indexAddr (e := 28) (sz := 2) rfl (by kernel_rfl) (by kernel_rfl) (by kernel_rfl) rfl ha_x14 rfl h0_x14 h1_x14 ?_
      refine WO.loadN rfl (by kernel_rfl) (by kernel_rfl) rfl [(.string x14.Path), (.int .i64 x14.Mode)] (by kernel_rfl) (fun w' hw' => hc_x14.cells (k := 0) rfl rfl ((rd_i hS11.im) w' hw')) ?_
      refine WO.tail rfl ?_
      refine WO.eqStruct rfl (by kernel_rfl) rfl rfl (by kernel_rfl) 50 rfl (b := (sEq x13.Path x14.Path && ((x13.Mode == x14.Mode) && true))) (by kernel_rfl) (!(sEq x13.Path x14.Path && (x13.Mode == x14.Mode))) (.inr ⟨rfl, by simp only [Bool.and_true]⟩) ?_
      refine WO.nil ?_
      refine En.next ?_
      refine W.cond (b := (!(sEq x13.Path x14.Path && (x13.Mode == x14.Mode)))) rfl rfl (fun hc => ?_) (fun hc => ?_)
      · replace hr1 := cond_t hc hr1
        refine W.seq ?_
        refine W.region (l := [0]) (by kernel_rfl) ?_
        refine WO.vals [(0, 4, (.bool false))] (by kernel_rfl) (fun _ => by kernel_rfl) ?_
        refine WO.nil ?_
        refine En.next ?_
        refine W.ret ?_
        refine En.in_ret ?_
        refine En.nx_ret ?_
        refine En.rd_ret ?_
        have ht := hext1 _ (Option.some.inj hr1).symm
        subst t1
        refine En.in_ret ?_
        refine En.nx_ret ?_
        have he := Option.some.inj hr
        subst r
        exact En.ret1 rfl (.bool false) rfl ⟨I2, rfl, hl3, hS11⟩
      · replace hr1 := cond_f hc hr1
        refine W.skip ?_
        refine En.in_normal ?_
        refine En.next ?_
        refine W.region (l := [0, 1, 2]) (by kernel_rfl) ?_
        refine WO.vals [(0, 15, (.int .i64 (i4 : Int)))] (by kernel_rfl) (fun _ => by kernel_rfl) ?_
        refine WO.incr (j := i4) rfl (by kernel_rfl) rfl (by omega) ?_
        refine WO.vals [(2, 5, (.int .i64 ((i4 + 1 : Nat) : Int)))] (by kernel_rfl) (fun _ => by kernel_rfl) ?_
        refine WO.nil ?_
        refine En.weaken (fr' := [(0, (.slice a_p0 p0.length c_p0)), (1, (.slice a_p1 p1.length c_p1)), (5, (.int .i64 ((i4 + 1 : Nat) : Int)))]) (En.round ⟨(), (Option.some.inj hr1).symm, I2, rfl, hl3, hS11⟩) (Sub.cons rfl (Sub.cons rfl (Sub.cons rfl Sub.nil)))
    case lastt1 =>
      rintro _ _ w17 ⟨I2, rfl, hl3, hS18⟩ he
      cases he
      refine W.seq ?_
      refine W.seq ?_
      refine W.region (l := [0, 1, 2, 3]) (by kernel_rfl) ?_
      refine WO.vals [(0, 11, (.int .i64 (p0.length : Int))), (1, 12, (.slice a_p0 p0.length c_p0)), (2, 13, (.int .i64 (p0.length : Int))), (3, 14, (.bool (decide ((p0.length : Int) < (p0.length : Int)))))] (by kernel_rfl) (fun _ => by kernel_rfl) ?_
      refine WO.nil ?_
      refine En.next ?_
      refine W.cond (b := (decide ((p0.length : Int) < (p0.length : Int)))) rfl rfl (fun hc => ?_) (fun hc => ?_)
      · exact absurd hc (by first | (simp; done) | (simp; omega))
      clear hc
      refine W.exit ?_
      refine En.nx_exit ?_
      refine En.rd_exit ?_
      refine En.in_hit ?_
      refine En.next ?_
      refine W.seq ?_
      refine W.region (l := [0]) (by kernel_rfl) ?_
      refine WO.vals [(0, 4, (.bool true))] (by kernel_rfl) (fun _ => by kernel_rfl) ?_
      refine WO.nil ?_
      refine En.next ?_
      refine W.ret ?_
      have he := Option.some.inj hr
      subst r
      exact En.ret1 rfl (.bool true) rfl ⟨I2, rfl, hl3, hS18⟩
end Go.Proofs.Ytfabocipcjnfnaa
