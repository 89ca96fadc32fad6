/- What functions of the program come to, each by a plain one. Conditions: none. -/
import Derived.Test.YtdmefifamlpbiaaF3
set_option maxRecDepth 100000
namespace Go.Proofs.Ytdmefifamlpbiaa
open Go.Gv
noncomputable def slices_DeleteFunc_mdl_one (p0 : List mdl_one) (p1 : mdl_one → Option Bool) : Option (List mdl_one) := (slices_IndexFunc_mdl_one p0 p1).bind (fun (r8 : Int) => (bif (r8 == (-1)) then some p0 else (loopO (fun (s : Int × Int × (List mdl_one)) => match s with | (s13, s14, s15) => (bif (decide (s14 < (s15.length : Int))) then (idx s15 s14).bind (fun (x20 : mdl_one) => (p1 x20).bind (fun (r32 : Bool) => ((bif (!r32) then (idx s15 s13).bind (fun (x37 : mdl_one) => some ((w64 (s13 + 1)), (s15.set (s13).toNat x20))) else some (s13, s15))).bind (fun ((s43, s44) : Int × (List mdl_one)) => some (.inl (s43, (w64 (s14 + 1)), s44))))) else some (.inr (s13, s15)))) (r8, (w64 (r8 + 1)), p0)).bind (fun ((s51, s52) : Int × (List mdl_one)) => (sub s52 s51 (s52.length : Int)).bind (fun (x53 : List mdl_one) => (sub (s52.take (s51).toNat ++ List.replicate (s52.length - (s51).toNat) z_mdl_one) 0 s51).bind (fun (x58 : List mdl_one) => some x58)))))
set_option maxHeartbeats 1000000 in
theorem slices_DeleteFunc_mdl_one_ok {E w : World} {I : Mem} {Os : List Mem} {p0 : List mdl_one} {p1 : mdl_one → Option Bool} {a_p0 : Option Addr} {c_p0 : Nat} {C_p0 : Mem} {g_p1 : FuncId} {k_p1 : List Value} (h_p0 : OwnSl 70 2 R_mdl_one I C_p0 a_p0 c_p0 p0) (h_p1 : ∀ {F : List Mem} {I' : Mem} {w : World} {u0 : mdl_one}, I.Le I' → St E w I' (F ++ Os) → ∀ {r : Bool}, p1 u0 = some r → Calls P g_p1 (([(.agg (cs_mdl_one u0).toArray)] : List Value) ++ k_p1).toArray w (fun e w' => ∃ (I'' : Mem), e = .returned (.bool r) ∧ I'.Le I'' ∧ St E w' I'' (F ++ Os))) (hcall_p1 : Callable P g_p1) (hS : St E w I ((C_p0) :: Os)) {r : (List mdl_one)} (hr : slices_DeleteFunc_mdl_one p0 p1 = some r) :
    Calls P 63 #[(.slice a_p0 p0.length c_p0), (.func (.func g_p1) #[] k_p1.toArray)] w (fun e w' => ∃ (I' : Mem) (ra0 : Option Addr) (rc0 : Nat) (rC0 : Mem), e = .returned (.slice ra0 r.length rc0) ∧ I.Le I' ∧ St E w' I' (rC0 :: Os) ∧ OwnSl 70 2 R_mdl_one I' rC0 ra0 rc0 r) := by
  refine calls_W (args := [(.slice a_p0 p0.length c_p0), (.func (.func g_p1) #[] k_p1.toArray)]) (fn := Try.f63) rfl rfl rfl ?_
  unfold slices_DeleteFunc_mdl_one at hr
  refine W.seq ?_
  refine W.region (l := [0]) (by kernel_rfl) ?_
  refine WO.vals [(0, 4, (.slice none 0 0))] (by kernel_rfl) (fun _ => by kernel_rfl) ?_
  refine WO.nil ?_
  refine En.next ?_
  refine W.seq ?_
  refine W.region (l := [0, 1, 2, 3]) (by kernel_rfl) ?_
  refine WO.vals [(0, 8, (.slice a_p0 p0.length c_p0)), (1, 9, (.func (.func g_p1) #[] k_p1.toArray))] (by kernel_rfl) (fun _ => by kernel_rfl) ?_
  have hS1 := hS.publish
  have hp2 := (h_p0).publish hS
  obtain ⟨r8, hx_r3, hr⟩ := bind_some hr
  refine WO.call rfl (by kernel_rfl) rfl (f := 60) (args := #[(.slice a_p0 p0.length c_p0), (.func (.func g_p1) #[] k_p1.toArray)]) (by kernel_rfl) (slices_IndexFunc_mdl_one_ok hp2 (fun {F Ic wc} {_} hlc hSc  {rc} hrc => h_p1 ((Mem.le_with I C_p0).trans hlc) hSc  hrc) hcall_p1 hS1 hx_r3) ?_
  rintro _ w4 ⟨I5, rfl, hl6, hS7⟩
  have hS9 := St.back hS hl6 hS7
  refine ⟨_, rfl, trivial, ?_⟩
  refine WO.vals [(3, 5, (.int .i64 r8))] (by kernel_rfl) (fun _ => by kernel_rfl) ?_
  refine WO.nil ?_
  refine En.next ?_
  refine W.seq ?_
  refine W.seq ?_
  refine W.region (l := [0, 1]) (by kernel_rfl) ?_
  refine WO.vals [(0, 11, (.int .i64 r8)), (1, 12, (.bool (r8 == (-1))))] (by kernel_rfl) (fun _ => by kernel_rfl) ?_
  refine WO.nil ?_
  refine En.next ?_
  refine W.cond (b := (r8 == (-1))) rfl rfl (fun hc => ?_) (fun hc => ?_)
  · replace hr := cond_t hc hr
    refine W.seq ?_
    refine W.region (l := [0, 1]) (by kernel_rfl) ?_
    refine WO.vals [(0, 13, (.slice a_p0 p0.length c_p0)), (1, 4, (.slice a_p0 p0.length c_p0))] (by kernel_rfl) (fun _ => by kernel_rfl) ?_
    refine WO.nil ?_
    refine En.next ?_
    refine W.ret ?_
    refine En.nx_ret ?_
    have he := Option.some.inj hr
    subst r
    exact En.ret1 rfl (.slice a_p0 p0.length c_p0) rfl ⟨I, a_p0, c_p0, C_p0, rfl, Mem.Le.refl _, hS9, h_p0⟩
  · replace hr := cond_f hc hr
    refine W.skip ?_
    refine En.next ?_
    refine W.seq ?_
    refine W.seq ?_
    refine W.region (l := [0, 1, 2]) (by kernel_rfl) ?_
    refine WO.vals [(0, 14, (.int .i64 r8)), (1, 15, (.int .i64 (w64 (r8 + 1)))), (2, 6, (.int .i64 (w64 (r8 + 1))))] (by kernel_rfl) (fun _ => by kernel_rfl) ?_
    refine WO.nil ?_
    refine En.next ?_
    refine W.block ?_
    obtain ⟨t10, hloop16, hr⟩ := bind_some hr
    refine W.weaken (fr' := [(0, (.slice a_p0 p0.length c_p0)), (1, (.func (.func g_p1) #[] k_p1.toArray)), (5, (.int .i64 r8)), (6, (.int .i64 (w64 (r8 + 1))))]) (W.loopO hloop16 (fun (s : Int × Int × (List mdl_one)) fr w => match s with | (s13, s14, s15) => ∃ (I11 : Mem), ∃ (C_s15 : Mem), fr = [(0, (.slice a_p0 s15.length c_p0)), (1, (.func (.func g_p1) #[] k_p1.toArray)), (5, (.int .i64 s13)), (6, (.int .i64 s14))] ∧ I.Le I11 ∧ St E w I11 ((C_s15) :: Os) ∧ OwnSl 70 2 R_mdl_one I11 C_s15 a_p0 c_p0 s15) ⟨I, C_p0, rfl, Mem.Le.refl _, hS9, h_p0⟩ ?_) (Sub.cons rfl (Sub.cons rfl (Sub.cons rfl (Sub.cons rfl Sub.nil))))
    rintro ⟨s13, s14, s15⟩ _ w17 ⟨I11, C_s15, rfl, hl12, hS18, h_s15⟩ x19 hr1 hext10
    refine W.seq ?_
    refine W.seq ?_
    refine W.region (l := [0, 1, 2, 3]) (by kernel_rfl) ?_
    refine WO.vals [(0, 16, (.int .i64 s14)), (1, 17, (.slice a_p0 s15.length c_p0)), (2, 18, (.int .i64 (s15.length : Int))), (3, 19, (.bool (decide (s14 < (s15.length : Int)))))] (by kernel_rfl) (fun _ => by kernel_rfl) ?_
    refine WO.nil ?_
    refine En.next ?_
    refine W.cond (b := (decide (s14 < (s15.length : Int)))) rfl rfl (fun hc => ?_) (fun hc => ?_)
    · replace hr1 := cond_t hc hr1
      refine W.skip ?_
      refine En.next ?_
      refine W.seq ?_
      refine W.block ?_
      refine W.seq ?_
      refine W.region (l := [0, 1, 2, 3, 4, 5]) (by kernel_rfl) ?_
      refine WO.vals [(0, 22, (.slice a_p0 s15.length c_p0)), (1, 23, (.int .i64 s14))] (by kernel_rfl) (fun _ => by kernel_rfl) ?_
      obtain ⟨x20, hx_x20, hr1⟩ := bind_some hr1
      obtain ⟨h0_x20, h1_x20, hx_x20⟩ := idx_some hx_x20
      obtain ⟨ha_x20, cs_x20, hn_x20, hr_x20, hc_x20⟩ := (h_s15.sl).el _ _ hx_x20
      obtain rfl := hr_x20
      refine WO.indexAddr (e := 70) (sz := 2) rfl (by kernel_rfl) (by kernel_rfl) (by kernel_rfl) rfl ha_x20 rfl h0_x20 h1_x20 ?_
      refine WO.loadN rfl (by kernel_rfl) (by kernel_rfl) rfl ((cs_mdl_one x20)) (by kernel_rfl) (fun w' hw' => hc_x20.cells (k := 0) (by kernel_rfl) rfl ((rd_f (hS18.rd (List.Mem.head _))) w' hw')) ?_
      refine WO.new hS18 rfl (by kernel_rfl) rfl (.cells (cs_mdl_one z_mdl_one).toArray 70 (0, 0)) (fun b => .pointer (some ⟨b, 0, none⟩)) (by kernel_rfl) (fun _ _ _ => trivial) ?_
      intro b21 w24 hS23
      refine WO.storeBox hS23 rfl (by kernel_rfl) rfl 0 rfl rfl (by kernel_rfl) (by kernel_rfl) (by kernel_rfl) ((cs_mdl_one x20).toArray) (by kernel_rfl) (fun _ _ => trivial) ?_
      intro w26 hS25
      refine WO.nil ?_
      refine En.next ?_
      refine W.seq ?_
      refine W.region (l := [0, 1, 2, 3]) (by kernel_rfl) ?_
      refine WO.vals [(0, 26, (.func (.func g_p1) #[] k_p1.toArray))] (by kernel_rfl) (fun _ => by kernel_rfl) ?_
      refine WO.loadN rfl (by kernel_rfl) (by kernel_rfl) rfl ((cs_mdl_one x20)) (by kernel_rfl) (fun w' hw' => cells_one ((rd_f (hS25.rd (List.Mem.head _))) w' hw') (by kernel_rfl)) ?_
      obtain ⟨r32, hx_r27, hr1⟩ := bind_some hr1
      refine WO.callv rfl (by kernel_rfl) rfl (g := g_p1) (kk := k_p1) (args := [(.agg (cs_mdl_one x20).toArray)]) rfl (by kernel_rfl) hcall_p1 (h_p1 (F := [Gv.one b21 (.cells (cs_mdl_one x20).toArray 70 (0, 0)), C_s15]) hl12 hS25  hx_r27) ?_
      rintro _ w28 ⟨I29, rfl, hl30, hS31⟩
      refine ⟨_, rfl, trivial, ?_⟩
      refine WO.vals [(3, 29, (.bool (!r32)))] (by kernel_rfl) (fun _ => by kernel_rfl) ?_
      refine WO.nil ?_
      refine En.next ?_
      obtain ⟨j33, hr2, hr1⟩ := bind_some hr1
      refine W.join (J := (fun fr w => ∃ (s43 : Int), ∃ (s44 : List mdl_one), ∃ (I35 : Mem), ∃ (C_s44 : Mem), (s43, s44) = j33 ∧ fr = [(0, (.slice a_p0 s44.length c_p0)), (1, (.func (.func g_p1) #[] k_p1.toArray)), (5, (.int .i64 s43)), (6, (.int .i64 s14))] ∧ I29.Le I35 ∧ St E w I35 ((C_s44) :: Os) ∧ OwnSl 70 2 R_mdl_one I35 C_s44 a_p0 c_p0 s44)) ?restj33 ?waysj33
      case waysj33 =>
        refine W.cond (b := (!r32)) rfl rfl (fun hc => ?_) (fun hc => ?_)
        · replace hr2 := cond_t hc hr2
          refine W.seq ?_
          refine W.region (l := [0, 1, 2, 3, 4]) (by kernel_rfl) ?_
          refine WO.vals [(0, 30, (.slice a_p0 s15.length c_p0)), (1, 31, (.int .i64 s13))] (by kernel_rfl) (fun _ => by kernel_rfl) ?_
          refine WO.loadN rfl (by kernel_rfl) (by kernel_rfl) rfl ((cs_mdl_one x20)) (by kernel_rfl) (fun w' hw' => cells_one ((rd_f (hS31.rd (List.Mem.head _))) w' hw') (by kernel_rfl)) ?_
          obtain ⟨x37, hx_x37, hr2⟩ := bind_some hr2
          obtain ⟨h0_x37, h1_x37, hx_x37⟩ := idx_some hx_x37
          obtain ⟨ha_x37, cs_x37, hn_x37, hr_x37, hc_x37⟩ := ((h_s15.mono hl30).sl).el _ _ hx_x37
          obtain rfl := hr_x37
          refine WO.indexAddr (e := 70) (sz := 2) rfl (by kernel_rfl) (by kernel_rfl) (by kernel_rfl) rfl ha_x37 rfl h0_x37 h1_x37 ?_
          have hS38 := hS31.front1
          refine WO.storeOwn hS38 (OwnSl.mono h_s15 hl30) rfl (by kernel_rfl) rfl hx_x37 (u' := x20) 0 rfl rfl (by kernel_rfl) rfl rfl (fun cs hrel => (by obtain rfl := hrel; exact rfl)) (fun _ _ _ => trivial) ?_
          intro w40 C41 hS39 ho42
          refine WO.reslot 0 rfl (show Value.slice a_p0 s15.length c_p0 = Value.slice a_p0 (s15.set (s13).toNat x20).length c_p0 by simp only [List.length_set]) ?_
          refine WO.nil ?_
          refine En.next ?_
          refine W.region (l := [0, 1, 2]) (by kernel_rfl) ?_
          refine WO.vals [(0, 34, (.int .i64 s13)), (1, 35, (.int .i64 (w64 (s13 + 1)))), (2, 5, (.int .i64 (w64 (s13 + 1))))] (by kernel_rfl) (fun _ => by kernel_rfl) ?_
          refine WO.nil ?_
          have hS45 := hS39.front1
          have hS46 := hS45.drop
          refine En.weaken (fr' := [(0, (.slice a_p0 (s15.set (s13).toNat x20).length c_p0)), (1, (.func (.func g_p1) #[] k_p1.toArray)), (5, (.int .i64 (w64 (s13 + 1)))), (6, (.int .i64 s14))]) (En.round ⟨(w64 (s13 + 1)), (s15.set (s13).toNat x20), I29, C41, Option.some.inj hr2, rfl, Mem.Le.refl _, hS46, ho42⟩) (Sub.cons rfl (Sub.cons rfl (Sub.cons rfl (Sub.cons rfl Sub.nil))))
        · replace hr2 := cond_f hc hr2
          refine W.skip ?_
          have hS47 := hS31.drop
          refine En.weaken (fr' := [(0, (.slice a_p0 s15.length c_p0)), (1, (.func (.func g_p1) #[] k_p1.toArray)), (5, (.int .i64 s13)), (6, (.int .i64 s14))]) (En.round ⟨s13, s15, I29, C_s15, Option.some.inj hr2, rfl, Mem.Le.refl _, hS47, (OwnSl.mono h_s15 hl30)⟩) (Sub.cons rfl (Sub.cons rfl (Sub.cons rfl (Sub.cons rfl Sub.nil))))
      case restj33 =>
        rintro _ w48 ⟨s43, s44, I35, C_s44, rfl, rfl, hl36, hS49, h_s44⟩
        refine En.in_normal ?_
        refine En.next ?_
        refine W.region (l := [0, 1, 2]) (by kernel_rfl) ?_
        refine WO.vals [(0, 20, (.int .i64 s14)), (1, 21, (.int .i64 (w64 (s14 + 1)))), (2, 6, (.int .i64 (w64 (s14 + 1))))] (by kernel_rfl) (fun _ => by kernel_rfl) ?_
        refine WO.nil ?_
        refine En.weaken (fr' := [(0, (.slice a_p0 s44.length c_p0)), (1, (.func (.func g_p1) #[] k_p1.toArray)), (5, (.int .i64 s43)), (6, (.int .i64 (w64 (s14 + 1))))]) (En.round ⟨(s43, (w64 (s14 + 1)), s44), (Option.some.inj hr1).symm, I35, C_s44, rfl, ((hl12.trans hl30).trans hl36), hS49, h_s44⟩) (Sub.cons rfl (Sub.cons rfl (Sub.cons rfl (Sub.cons rfl Sub.nil))))
    · replace hr1 := cond_f hc hr1
      refine W.exit ?_
      refine En.nx_exit ?_
      refine En.rd_exit ?_
      have ht := hext10 _ (Option.some.inj hr1).symm
      subst t10
      refine En.in_hit ?_
      refine En.next ?_
      refine W.seq ?_
      refine W.region (l := [0, 1, 2, 3]) (by kernel_rfl) ?_
      refine WO.vals [(0, 36, (.slice a_p0 s15.length c_p0)), (1, 37, (.int .i64 s13))] (by kernel_rfl) (fun _ => by kernel_rfl) ?_
      obtain ⟨x60, hx_x60, hr⟩ := bind_some hr
      obtain ⟨h0_x60, h1_x60, h2_x60, he_x60⟩ := sub_some hx_x60
      have hl_x60 : ((s15.length : Int) : Int) ≤ (c_p0 : Int) := Int.le_trans h2_x60 (Int.ofNat_le.2 (h_s15).sl.le)
      refine WO.slice (e := 70) (sz := 2) rfl (by kernel_rfl) (by kernel_rfl) (by kernel_rfl) rfl (s13 : Int) ((s15.length : Int) : Int) h0_x60 (.inr ⟨_, _, rfl, rfl⟩) (.inl ⟨rfl, rfl⟩) h1_x60 hl_x60 ?_
      refine WO.reslot 38 rfl (show _ = Value.slice (subA a_p0 c_p0 (s13).toNat 2) (s15.length - (s13).toNat) (c_p0 - (s13).toNat) from rfl) ?_
      have hlo_C61 : (s13).toNat ≤ s15.length := by first | omega | (simp only [List.length_set]; omega)
      refine WO.clear hS18 h_s15 (t := 66) (e := 70) (by kernel_rfl) (zs := (cs_mdl_one z_mdl_one)) (by kernel_rfl) (z0 := z_mdl_one) rfl (by kernel_rfl) (by kernel_rfl) (by kernel_rfl) rfl (by kernel_rfl) rfl (lo := (s13).toNat) hlo_C61 rfl (fun _ _ _ => trivial) ?_
      intro w63 C61 hS62 ho64
      refine WO.reslot 0 rfl (show Value.slice a_p0 s15.length c_p0 = Value.slice a_p0 (s15.take (s13).toNat ++ List.replicate (s15.length - (s13).toNat) z_mdl_one).length c_p0 by congr 1; simp only [List.length_append, List.length_take, List.length_replicate]; omega) ?_
      refine WO.reslot 17 rfl (show Value.slice a_p0 s15.length c_p0 = Value.slice a_p0 (s15.take (s13).toNat ++ List.replicate (s15.length - (s13).toNat) z_mdl_one).length c_p0 by congr 1; simp only [List.length_append, List.length_take, List.length_replicate]; omega) ?_
      refine WO.reslot 36 rfl (show Value.slice a_p0 s15.length c_p0 = Value.slice a_p0 (s15.take (s13).toNat ++ List.replicate (s15.length - (s13).toNat) z_mdl_one).length c_p0 by congr 1; simp only [List.length_append, List.length_take, List.length_replicate]; omega) ?_
      refine WO.nil ?_
      refine En.next ?_
      refine W.seq ?_
      refine W.region (l := [0, 1, 2, 3]) (by kernel_rfl) ?_
      refine WO.vals [(0, 39, (.slice a_p0 (s15.take (s13).toNat ++ List.replicate (s15.length - (s13).toNat) z_mdl_one).length c_p0)), (1, 40, (.int .i64 s13))] (by kernel_rfl) (fun _ => by kernel_rfl) ?_
      obtain ⟨x65, hx_x65, hr⟩ := bind_some hr
      obtain ⟨h0_x65, h1_x65, h2_x65, he_x65⟩ := sub_some hx_x65
      have hl_x65 : (s13 : Int) ≤ (c_p0 : Int) := Int.le_trans h2_x65 (Int.ofNat_le.2 (ho64).sl.le)
      refine WO.slice (e := 70) (sz := 2) rfl (by kernel_rfl) (by kernel_rfl) (by kernel_rfl) rfl (0 : Int) (s13 : Int) h0_x65 (.inl ⟨rfl, rfl⟩) (.inr ⟨_, _, rfl, rfl⟩) h1_x65 hl_x65 ?_
      obtain ⟨ho66, ev_x65⟩ := OwnSl.pre ho64 (Int.le_trans h0_x65 h1_x65) h2_x65 he_x65
      refine WO.reslot 41 rfl ev_x65 ?_
      refine WO.vals [(3, 4, (.slice a_p0 x65.length c_p0))] (by kernel_rfl) (fun _ => by kernel_rfl) ?_
      refine WO.nil ?_
      refine En.next ?_
      refine W.ret ?_
      have he := Option.some.inj hr
      subst r
      exact En.ret1 rfl (.slice a_p0 x65.length c_p0) rfl ⟨I11, a_p0, c_p0, C61, rfl, hl12, hS62, ho66⟩
def mdl_without_1 (p0 : mdl_one) (q1 : Int) : Option Bool := some (p0.who == q1)
set_option maxHeartbeats 1000000 in
theorem mdl_without_1_ok {E w : World} {I : Mem} {Os : List Mem} {p0 : mdl_one} {q1 : Int} {kb1 : Nat} (hm1 : (Gv.one kb1 (.cells #[(.int .i64 q1)] 3 (0, 0))) ∈ Os) (hS : St E w I Os) {r : Bool} (hr : mdl_without_1 p0 q1 = some r) :
    Calls P 64 #[(.agg (cs_mdl_one p0).toArray), (.pointer (some ⟨kb1, 0, none⟩))] w (fun e w' => ∃ (I' : Mem), e = .returned (.bool r) ∧ I.Le I' ∧ St E w' I' Os) := by
  refine calls_W (args := [(.agg (cs_mdl_one p0).toArray), (.pointer (some ⟨kb1, 0, none⟩))]) (fn := Try.f64) rfl rfl rfl ?_
  unfold mdl_without_1 at hr
  refine W.seq ?_
  refine W.region (l := [0, 1]) (by kernel_rfl) ?_
  refine WO.new hS rfl (by kernel_rfl) rfl (.cells (cs_mdl_one p0).toArray 70 (0, 0)) (fun b => .pointer (some ⟨b, 0, none⟩)) (by kernel_rfl) (fun _ _ _ => trivial) ?_
  intro b1 w4 hS3
  refine WO.vals [(1, 3, (.bool false))] (by kernel_rfl) (fun _ => by kernel_rfl) ?_
  refine WO.nil ?_
  refine En.next ?_
  refine W.seq ?_
  refine W.region (l := [0, 1, 2, 3, 4]) (by kernel_rfl) ?_
  refine WO.vals [(0, 4, (.pointer (some ⟨b1, 0, none⟩)))] (by kernel_rfl) (fun _ => by kernel_rfl) ?_
  refine WO.load rfl (by kernel_rfl) (by kernel_rfl) rfl (v := (.int .i64 p0.who)) (fun w' hw' => cell_one ((rd_f (hS3.rd (List.Mem.head _))) w' hw') (by kernel_rfl)) ?_
  refine WO.load rfl (by kernel_rfl) (by kernel_rfl) rfl (v := (.int .i64 q1)) (fun w' hw' => cell_one ((rd_f (hS3.rd (List.Mem.tail _ hm1))) w' hw') (by kernel_rfl)) ?_
  refine WO.vals [(3, 7, (.bool (p0.who == q1))), (4, 3, (.bool (p0.who == q1)))] (by kernel_rfl) (fun _ => by kernel_rfl) ?_
  refine WO.nil ?_
  refine En.next ?_
  refine W.ret ?_
  have hS5 := hS3.drop
  have he := Option.some.inj hr
  subst r
  exact En.ret1 rfl (.bool (p0.who == q1)) rfl ⟨I, rfl, Mem.Le.refl _, hS5⟩
noncomputable def mdl_without (p0 : List mdl_one) (p1 : Int) : Option (List mdl_one) := (slices_Clone_mdl_one p0).bind (fun (r10 : List mdl_one) => (slices_DeleteFunc_mdl_one r10 (fun (u0 : mdl_one) => mdl_without_1 u0 p1)).bind (fun (r16 : List mdl_one) => some r16))
set_option maxHeartbeats 1000000 in
theorem mdl_without_ok {E w : World} {I : Mem} {Os : List Mem} {p0 : List mdl_one} {p1 : Int} {a_p0 : Option Addr} {c_p0 : Nat} (h_p0 : RSl 2 R_mdl_one I a_p0 c_p0 p0) (hS : St E w I Os) {r : (List mdl_one)} (hr : mdl_without p0 p1 = some r) :
    Calls P 38 #[(.slice a_p0 p0.length c_p0), (.int .i64 p1)] w (fun e w' => ∃ (I' : Mem) (ra0 : Option Addr) (rc0 : Nat), e = .returned (.slice ra0 r.length rc0) ∧ I.Le I' ∧ St E w' I' Os ∧ RSl 2 R_mdl_one I' ra0 rc0 r) := by
  refine calls_W (args := [(.slice a_p0 p0.length c_p0), (.int .i64 p1)]) (fn := Try.f38) rfl rfl rfl ?_
  unfold mdl_without at hr
  refine W.seq ?_
  refine W.region (l := [0, 1]) (by kernel_rfl) ?_
  refine WO.new hS rfl (by kernel_rfl) rfl (.cells #[(.int .i64 p1)] 3 (0, 0)) (fun b => .pointer (some ⟨b, 0, none⟩)) (by kernel_rfl) (fun _ _ _ => trivial) ?_
  intro b1 w4 hS3
  refine WO.vals [(1, 4, (.slice none 0 0))] (by kernel_rfl) (fun _ => by kernel_rfl) ?_
  refine WO.nil ?_
  refine En.next ?_
  refine W.seq ?_
  refine W.region (l := [0, 1, 2, 3, 4]) (by kernel_rfl) ?_
  refine WO.vals [(0, 5, (.slice a_p0 p0.length c_p0))] (by kernel_rfl) (fun _ => by kernel_rfl) ?_
  obtain ⟨r10, hx_r5, hr⟩ := bind_some hr
  refine WO.call rfl (by kernel_rfl) rfl (f := 54) (args := #[(.slice a_p0 p0.length c_p0)]) (by kernel_rfl) (slices_Clone_mdl_one_ok h_p0 hS3 hx_r5) ?_
  rintro _ w6 ⟨I7, a_r10, c_r10, C_r10, rfl, hl8, hS9, h_r10⟩
  refine ⟨_, rfl, trivial, ?_⟩
  refine WO.vals [(2, 7, (.func (.func 64) #[] #[(.pointer (some ⟨b1, 0, none⟩))]))] (by kernel_rfl) (fun _ => by kernel_rfl) ?_
  obtain ⟨r16, hx_r11, hr⟩ := bind_some hr
  refine WO.call rfl (by kernel_rfl) rfl (f := 63) (args := #[(.slice a_r10 r10.length c_r10), (.func (.func 64) #[] #[(.pointer (some ⟨b1, 0, none⟩))])]) (by kernel_rfl) (slices_DeleteFunc_mdl_one_ok h_r10 (fun {F Ic wc} {_} hlc hSc  {rc} hrc => mdl_without_1_ok  (List.mem_append_right _ (List.Mem.head _)) hSc hrc) (fun _ _ => by kernel_rfl) hS9 hx_r11) ?_
  rintro _ w12 ⟨I13, a_r16, c_r16, C_r16, rfl, hl14, hS15, h_r16⟩
  refine ⟨_, rfl, trivial, ?_⟩
  obtain ⟨I17, hl18, hS20, hp19⟩ := OwnSl.pub h_r16 hS15
  refine WO.vals [(4, 4, (.slice a_r16 r16.length c_r16))] (by kernel_rfl) (fun _ => by kernel_rfl) ?_
  refine WO.nil ?_
  refine En.next ?_
  refine W.ret ?_
  have hS21 := hS20.drop
  have he := Option.some.inj hr
  subst r
  exact En.ret1 rfl (.slice a_r16 r16.length c_r16) rfl ⟨I17, a_r16, c_r16, rfl, ((hl8.trans hl14).trans hl18), hS21, hp19⟩
noncomputable def mdl_Locks_serve (p0 : mdl_Locks) (p1 : ByteArray) (p2 : mdl_place) : Option mdl_Locks := (loopO (fun (s8 : mdl_place) => ((bif (decide ((s8.queue.length : Int) > 0)) then (idx s8.queue 0).bind (fun (x21 : mdl_one) => (mdl_place_goes s8 x21.mode).bind (fun (r27 : Bool) => some r27)) else some false)).bind (fun (j17 : Bool) => (bif j17 then ((idx s8.queue 0).bind (fun (x36 : mdl_one) => (slices_Clone_mdl_one s8.held).bind (fun (r49 : List mdl_one) => (app 16 r49 ([x36] : List mdl_one)).bind (fun (x50 : List mdl_one) => some { s8 with held := x50 })))).bind (fun (j30 : mdl_place) => (sub j30.queue 1 (j30.queue.length : Int)).bind (fun (x105 : List mdl_one) => some (.inl { j30 with queue := x105 }))) else some (.inr s8)))) p2).bind (fun (s113 : mdl_place) => (mdl_Locks_set p0 p1 s113).bind (fun (r121 : mdl_Locks) => some r121))
set_option maxHeartbeats 1000000 in
theorem mdl_Locks_serve_ok {E w : World} {I : Mem} {Os : List Mem} {p0 : mdl_Locks} {p1 : ByteArray} {p2 : mdl_place} {b_p0 : Nat} {w_p0 : W_mdl_Locks} {w_p2 : W_mdl_place} (h_p0 : ok_mdl_Locks I p0 w_p0) (h_p2 : ok_mdl_place I p2 w_p2) (hS : St E w I ((Gv.one b_p0 (.cells (cs_mdl_Locks p0 w_p0).toArray 56 (0, 0))) :: (w_p0.at_.C) :: Os)) {r : mdl_Locks} (hr : mdl_Locks_serve p0 p1 p2 = some r) :
    Calls P 39 #[(.pointer (some ⟨b_p0, 0, none⟩)), (.string p1), (.agg (cs_mdl_place p2 w_p2).toArray)] w (fun e w' => ∃ (I' : Mem) (w_rp0 : W_mdl_Locks), e = .returned (.tuple #[]) ∧ I.Le I' ∧ St E w' I' ((Gv.one b_p0 (.cells (cs_mdl_Locks r w_rp0).toArray 56 (0, 0))) :: w_rp0.at_.C :: Os) ∧ ok_mdl_Locks I' r w_rp0) := by
  refine calls_W (args := [(.pointer (some ⟨b_p0, 0, none⟩)), (.string p1), (.agg (cs_mdl_place p2 w_p2).toArray)]) (fn := Try.f39) rfl rfl rfl ?_
  unfold mdl_Locks_serve at hr
  refine W.seq ?_
  refine W.region (l := [0]) (by kernel_rfl) ?_
  refine WO.new hS rfl (by kernel_rfl) rfl (.cells (cs_mdl_place p2 w_p2).toArray 68 (0, 0)) (fun b => .pointer (some ⟨b, 0, none⟩)) (by kernel_rfl) (fun _ _ _ => trivial) ?_
  intro b1 w4 hS3
  refine WO.nil ?_
  refine En.next ?_
  refine W.seq ?_
  refine W.block ?_
  obtain ⟨t5, hloop9, hr⟩ := bind_some hr
  have hS10 := hS3.front2
  have hS11 := hS10.front2
  refine W.weaken (fr' := [(0, (.pointer (some ⟨b_p0, 0, none⟩))), (1, (.string p1)), (5, (.pointer (some ⟨b1, 0, none⟩)))]) (W.loopO hloop9 (fun (s8 : mdl_place) fr w => ∃ (I6 : Mem), ∃ (w_s8 : W_mdl_place), fr = [(0, (.pointer (some ⟨b_p0, 0, none⟩))), (1, (.string p1)), (5, (.pointer (some ⟨b1, 0, none⟩)))] ∧ I.Le I6 ∧ St E w I6 ((Gv.one b_p0 (.cells (cs_mdl_Locks p0 w_p0).toArray 56 (0, 0))) :: (w_p0.at_.C) :: (Gv.one b1 (.cells (cs_mdl_place s8 w_s8).toArray 68 (0, 0))) :: Os) ∧ ok_mdl_place I6 s8 w_s8) ⟨I, w_p2, rfl, Mem.Le.refl _, hS11, h_p2⟩ ?_) (Sub.cons rfl (Sub.cons rfl (Sub.cons rfl Sub.nil)))
  rintro s8 _ w12 ⟨I6, w_s8, rfl, hl7, hS13, h_s8⟩ x14 hr1 hext5
  refine W.seq ?_
  refine W.seq ?_
  have hS15 := hS13.drew
  refine W.draw (l := [0, 1, 2, 3, 4, 5, 6, 7, 8, 9, 10, 11, 12]) (by kernel_rfl) 13 (KR I6 [Gv.one b1 (.cells (cs_mdl_place s8 w_s8).toArray 68 (0, 0))]) qR (.back (by kernel_rfl)) (by kernel_rfl) (KR.cons (hS15.rd (List.Mem.tail _ (List.Mem.tail _ (List.Mem.head _)))) (KR.nil hS15.im)) ?_
  generalize World.drew _ = w16 at *
  refine WO.vals [(0, 6, (.pointer (some ⟨b1, 1, none⟩)))] (by kernel_rfl) (fun _ => by kernel_rfl) ?_
  refine WO.load rfl (by kernel_rfl) (by kernel_rfl) rfl (v := (.slice w_s8.queue.a s8.queue.length w_s8.queue.c)) (fun w' hw' => cell_one ((rd_c (List.Mem.head _) (hS15.rd (List.Mem.tail _ (List.Mem.tail _ (List.Mem.head _))))) w' hw') (by kernel_rfl)) ?_
  refine WO.vals [(2, 8, (.int .i64 (s8.queue.length : Int))), (3, 9, (.bool (decide ((s8.queue.length : Int) > 0)))), (4, 10, (.bool (decide ((s8.queue.length : Int) > 0))))] (by kernel_rfl) (fun _ => by kernel_rfl) ?_
  obtain ⟨j17, hr2, hr1⟩ := bind_some hr1
  refine WO.join (l1 := [5, 6, 7, 8, 9, 10, 11, 12]) (l2 := []) (J := (fun fr w => ∃ (I19 : Mem), fr = [(0, (.pointer (some ⟨b_p0, 0, none⟩))), (1, (.string p1)), (5, (.pointer (some ⟨b1, 0, none⟩))), (18, (.bool j17))] ∧ I6.Le I19 ∧ St E w I19 ((Gv.one b_p0 (.cells (cs_mdl_Locks p0 w_p0).toArray 56 (0, 0))) :: (w_p0.at_.C) :: (Gv.one b1 (.cells (cs_mdl_place s8 w_s8).toArray 68 (0, 0))) :: Os))) ?restj17 ?waysj17
  case waysj17 =>
    refine WO.caseb (decide ((s8.queue.length : Int) > 0)) (fun hc => ?_) (fun hc => ?_)
    · replace hr2 := cond_t hc hr2
      refine WO.reslot 10 rfl (show Value.bool (decide ((s8.queue.length : Int) > 0)) = Value.bool true by rw [hc]) ?_
      refine WO.loadN rfl (by kernel_rfl) (by kernel_rfl) rfl ((cs_mdl_place s8 w_s8)) (by kernel_rfl) (fun w' hw' => cells_one ((rd_c (List.Mem.head _) (hS15.rd (List.Mem.tail _ (List.Mem.tail _ (List.Mem.head _))))) w' hw') (by kernel_rfl)) ?_
      refine WO.vals [(6, 12, (.pointer (some ⟨b1, 1, none⟩)))] (by kernel_rfl) (fun _ => by kernel_rfl) ?_
      refine WO.load rfl (by kernel_rfl) (by kernel_rfl) rfl (v := (.slice w_s8.queue.a s8.queue.length w_s8.queue.c)) (fun w' hw' => cell_one ((rd_c (List.Mem.head _) (hS15.rd (List.Mem.tail _ (List.Mem.tail _ (List.Mem.head _))))) w' hw') (by kernel_rfl)) ?_
      obtain ⟨x21, hx_x21, hr2⟩ := bind_some hr2
      obtain ⟨h0_x21, h1_x21, hx_x21⟩ := idx_some hx_x21
      obtain ⟨ha_x21, cs_x21, hn_x21, hr_x21, hc_x21⟩ := (h_s8.queue).el _ _ hx_x21
      obtain rfl := hr_x21
      refine WO.indexAddr (e := 70) (sz := 2) rfl (by kernel_rfl) (by kernel_rfl) (by kernel_rfl) rfl ha_x21 rfl h0_x21 h1_x21 ?_
      refine WO.vals [(9, 15, (.pointer (some ⟨bl w_s8.queue.a, of w_s8.queue.a + (0 : Int).toNat * 2 + 1, none⟩)))] (by kernel_rfl) (fun _ => by kernel_rfl) ?_
      refine WO.load rfl (by kernel_rfl) (by kernel_rfl) rfl (v := (.int .i64 x21.mode)) (fun w' hw' => hc_x21.cellk 1 (by kernel_rfl) ((rd_i hS15.im) w' hw')) ?_
      obtain ⟨r27, hx_r22, hr2⟩ := bind_some hr2
      refine WO.call rfl (by kernel_rfl) rfl (f := 53) (args := #[(.agg (cs_mdl_place s8 w_s8).toArray), (.int .i64 x21.mode)]) (by kernel_rfl) (mdl_place_goes_ok h_s8 hS15 hx_r22) ?_
      rintro _ w23 ⟨I24, rfl, hl25, hS26⟩
      refine ⟨_, rfl, (KR.cons (hS26.rd (List.Mem.tail _ (List.Mem.tail _ (List.Mem.head _)))) (KR.nil (hS26.im.of_le hl25))), ?_⟩
      refine WO.vals [(12, 18, (.bool r27))] (by kernel_rfl) (fun _ => by kernel_rfl) ?_
      have he := Option.some.inj hr2
      subst j17
      refine WO.weaken (fr' := [(0, (.pointer (some ⟨b_p0, 0, none⟩))), (1, (.string p1)), (5, (.pointer (some ⟨b1, 0, none⟩))), (18, (.bool r27))]) (WO.meet ⟨I24, rfl, hl25, hS26⟩) (Sub.cons rfl (Sub.cons rfl (Sub.cons rfl (Sub.cons rfl Sub.nil))))
    · replace hr2 := cond_f hc hr2
      refine WO.reslot 10 rfl (show Value.bool (decide ((s8.queue.length : Int) > 0)) = Value.bool false by rw [hc]) ?_
      refine WO.pass rfl (by kernel_rfl) rfl ?_
      refine WO.pass rfl (by kernel_rfl) rfl ?_
      refine WO.pass rfl (by kernel_rfl) rfl ?_
      refine WO.pass rfl (by kernel_rfl) rfl ?_
      refine WO.pass rfl (by kernel_rfl) rfl ?_
      refine WO.pass rfl (by kernel_rfl) rfl ?_
      refine WO.pass rfl (by kernel_rfl) rfl ?_
      refine WO.vals [(12, 18, (.bool false))] (by kernel_rfl) (fun _ => by kernel_rfl) ?_
      have he := Option.some.inj hr2
      subst j17
      refine WO.weaken (fr' := [(0, (.pointer (some ⟨b_p0, 0, none⟩))), (1, (.string p1)), (5, (.pointer (some ⟨b1, 0, none⟩))), (18, (.bool false))]) (WO.meet ⟨I6, rfl, Mem.Le.refl _, hS15⟩) (Sub.cons rfl (Sub.cons rfl (Sub.cons rfl (Sub.cons rfl Sub.nil))))
  case restj17 =>
    rintro _ w28 ⟨I19, rfl, hl20, hS29⟩
    refine WO.nil ?_
    refine En.next ?_
    refine W.cond (b := j17) rfl rfl (fun hc => ?_) (fun hc => ?_)
    · replace hr1 := cond_t hc hr1
      refine W.skip ?_
      refine En.next ?_
      refine W.block ?_
      refine W.seq ?_
      obtain ⟨j30, hr2, hr1⟩ := bind_some hr1
      refine W.join (J := (fun fr w => ∃ (I32 : Mem), ∃ (w_j30 : W_mdl_place), fr = [(0, (.pointer (some ⟨b_p0, 0, none⟩))), (1, (.string p1)), (5, (.pointer (some ⟨b1, 0, none⟩)))] ∧ I19.Le I32 ∧ St E w I32 ((Gv.one b_p0 (.cells (cs_mdl_Locks p0 w_p0).toArray 56 (0, 0))) :: (w_p0.at_.C) :: (Gv.one b1 (.cells (cs_mdl_place j30 w_j30).toArray 68 (0, 0))) :: Os) ∧ ok_mdl_place I32 j30 w_j30)) ?restj30 ?waysj30
      case waysj30 =>
        have hS34 := hS29.drew
        refine W.draws (.split 7 2 (.leaf [0, 1, 3, 4, 5, 6, 7, 2, 8, 9, 10]) (.leaf [0, 1, 3, 4, 5, 6, 2, 7, 8, 9, 10])) 8 (KR I19 [Gv.one b1 (.cells (cs_mdl_place s8 w_s8).toArray 68 (0, 0))]) qR (.back (by kernel_rfl)) (by kernel_rfl) (KR.cons (hS34.rd (List.Mem.tail _ (List.Mem.tail _ (List.Mem.head _)))) (KR.nil hS34.im)) ?_
        generalize World.drew _ = w35 at *
        refine ⟨?_, ?_⟩
        · skip
          show WO _ _ _ _ _ _ _ [0, 1, 3, 4, 5, 6, 7, 2, 8, 9, 10] _ _
          refine WO.vals [(0, 19, (.pointer (some ⟨b1, 0, none⟩)))] (by kernel_rfl) (fun _ => by kernel_rfl) ?_
          refine WO.load rfl (by kernel_rfl) (by kernel_rfl) rfl (v := (.slice w_s8.held.a s8.held.length w_s8.held.c)) (fun w' hw' => cell_one ((rd_c (List.Mem.head _) (hS34.rd (List.Mem.tail _ (List.Mem.tail _ (List.Mem.head _))))) w' hw') (by kernel_rfl)) ?_
          refine WO.vals [(3, 22, (.pointer (some ⟨b1, 1, none⟩)))] (by kernel_rfl) (fun _ => by kernel_rfl) ?_
          refine WO.load rfl (by kernel_rfl) (by kernel_rfl) rfl (v := (.slice w_s8.queue.a s8.queue.length w_s8.queue.c)) (fun w' hw' => cell_one ((rd_c (List.Mem.head _) (hS34.rd (List.Mem.tail _ (List.Mem.tail _ (List.Mem.head _))))) w' hw') (by kernel_rfl)) ?_
          obtain ⟨x36, hx_x36, hr2⟩ := bind_some hr2
          obtain ⟨h0_x36, h1_x36, hx_x36⟩ := idx_some hx_x36
          obtain ⟨ha_x36, cs_x36, hn_x36, hr_x36, hc_x36⟩ := ((RSl.mono h_s8.queue hl20)).el _ _ hx_x36
          obtain rfl := hr_x36
          refine WO.indexAddr (e := 70) (sz := 2) rfl (by kernel_rfl) (by kernel_rfl) (by kernel_rfl) rfl ha_x36 rfl h0_x36 h1_x36 ?_
          refine WO.loadN rfl (by kernel_rfl) (by kernel_rfl) rfl ((cs_mdl_one x36)) (by kernel_rfl) (fun w' hw' => hc_x36.cells (k := 0) (by kernel_rfl) rfl ((rd_i hS34.im) w' hw')) ?_
          refine WO.newSlice (rel := R_mdl_one) (xs := ([x36] : List mdl_one)) hS34 rfl (by kernel_rfl) rfl 70 2 [(cs_mdl_one x36)] (by kernel_rfl) rfl ((Elr.cons rfl Elr.nil)) (fun C38 w42 hS41 => (KR.cons (hS41.rd (List.Mem.tail _ (List.Mem.tail _ (List.Mem.tail _ (List.Mem.head _))))) (KR.nil hS41.im))) ?_
          intro a40 C38 w42 hS41 ho39
          obtain ⟨r49, hx_r44, hr2⟩ := bind_some hr2
          refine WO.call rfl (by kernel_rfl) rfl (f := 54) (args := #[(.slice w_s8.held.a s8.held.length w_s8.held.c)]) (by kernel_rfl) (slices_Clone_mdl_one_ok (RSl.mono h_s8.held hl20) hS41 hx_r44) ?_
          rintro _ w45 ⟨I46, a_r49, c_r49, C_r49, rfl, hl47, hS48, h_r49⟩
          refine ⟨_, rfl, (KR.cons (hS48.rd (List.Mem.tail _ (List.Mem.tail _ (List.Mem.tail _ (List.Mem.tail _ (List.Mem.head _)))))) (KR.nil (hS48.im.of_le hl47))), ?_⟩
          refine WO.tail rfl ?_
          obtain ⟨x50, hx_x50, hr2⟩ := bind_some hr2
          obtain ⟨h0_x50, he_x50⟩ := app_some hx_x50
          refine WO.append (e' := 70) (b := 16) (zs := (cs_mdl_one z_mdl_one).toArray) hS48 h_r49 rfl (by kernel_rfl) rfl (by kernel_rfl) (by kernel_rfl) (by kernel_rfl) rfl rfl rfl rfl (ho39.mono hl47).sl (hS48.rd (List.Mem.tail _ (List.Mem.head _))) h0_x50 he_x50 (fun _ _ _ => trivial) ?_
          intro a51 c52 w53 C54 hS55 ho56
          have hS57 := hS55.front1
          have hS58 := hS57.drop
          refine WO.vals [(9, 28, (.pointer (some ⟨b1, 0, none⟩)))] (by kernel_rfl) (fun _ => by kernel_rfl) ?_
          obtain ⟨I59, hl60, hS62, hp61⟩ := OwnSl.pub ho56 hS58
          have hS63 := hS62.front2
          refine WO.storeBox hS63 rfl (by kernel_rfl) rfl 0 rfl rfl (by kernel_rfl) (by kernel_rfl) (by kernel_rfl) ((cs_mdl_place ({ s8 with held := x50 }) ({ w_s8 with held := ⟨a51, c52⟩ })).toArray) (by kernel_rfl) (fun _ _ => trivial) ?_
          intro w65 hS64
          refine WO.nil ?_
          have hk66 : ok_mdl_place I59 ({ s8 with held := x50 }) ({ w_s8 with held := ⟨a51, c52⟩ }) := ⟨hp61, (RSl.mono h_s8.queue ((hl20.trans hl47).trans hl60))⟩
          have hS67 := hS64.front2
          have hS68 := hS67.front2
          have he := Option.some.inj hr2
          subst j30
          refine En.weaken (fr' := [(0, (.pointer (some ⟨b_p0, 0, none⟩))), (1, (.string p1)), (5, (.pointer (some ⟨b1, 0, none⟩)))]) (En.round ⟨I59, ({ w_s8 with held := ⟨a51, c52⟩ }), rfl, (hl47.trans hl60), hS68, hk66⟩) (Sub.cons rfl (Sub.cons rfl (Sub.cons rfl Sub.nil)))
        · skip
          show WO _ _ _ _ _ _ _ [0, 1, 3, 4, 5, 6, 2, 7, 8, 9, 10] _ _
          refine WO.vals [(0, 19, (.pointer (some ⟨b1, 0, none⟩)))] (by kernel_rfl) (fun _ => by kernel_rfl) ?_
          refine WO.load rfl (by kernel_rfl) (by kernel_rfl) rfl (v := (.slice w_s8.held.a s8.held.length w_s8.held.c)) (fun w' hw' => cell_one ((rd_c (List.Mem.head _) (hS34.rd (List.Mem.tail _ (List.Mem.tail _ (List.Mem.head _))))) w' hw') (by kernel_rfl)) ?_
          refine WO.vals [(3, 22, (.pointer (some ⟨b1, 1, none⟩)))] (by kernel_rfl) (fun _ => by kernel_rfl) ?_
          refine WO.load rfl (by kernel_rfl) (by kernel_rfl) rfl (v := (.slice w_s8.queue.a s8.queue.length w_s8.queue.c)) (fun w' hw' => cell_one ((rd_c (List.Mem.head _) (hS34.rd (List.Mem.tail _ (List.Mem.tail _ (List.Mem.head _))))) w' hw') (by kernel_rfl)) ?_
          obtain ⟨x69, hx_x69, hr2⟩ := bind_some hr2
          obtain ⟨h0_x69, h1_x69, hx_x69⟩ := idx_some hx_x69
          obtain ⟨ha_x69, cs_x69, hn_x69, hr_x69, hc_x69⟩ := ((RSl.mono h_s8.queue hl20)).el _ _ hx_x69
          obtain rfl := hr_x69
          refine WO.indexAddr (e := 70) (sz := 2) rfl (by kernel_rfl) (by kernel_rfl) (by kernel_rfl) rfl ha_x69 rfl h0_x69 h1_x69 ?_
          refine WO.loadN rfl (by kernel_rfl) (by kernel_rfl) rfl ((cs_mdl_one x69)) (by kernel_rfl) (fun w' hw' => hc_x69.cells (k := 0) (by kernel_rfl) rfl ((rd_i hS34.im) w' hw')) ?_
          obtain ⟨r75, hx_r70, hr2⟩ := bind_some hr2
          refine WO.call rfl (by kernel_rfl) rfl (f := 54) (args := #[(.slice w_s8.held.a s8.held.length w_s8.held.c)]) (by kernel_rfl) (slices_Clone_mdl_one_ok (RSl.mono h_s8.held hl20) hS34 hx_r70) ?_
          rintro _ w71 ⟨I72, a_r75, c_r75, C_r75, rfl, hl73, hS74, h_r75⟩
          refine ⟨_, rfl, (KR.cons (hS74.rd (List.Mem.tail _ (List.Mem.tail _ (List.Mem.tail _ (List.Mem.head _))))) (KR.nil (hS74.im.of_le hl73))), ?_⟩
          refine WO.newSlice (rel := R_mdl_one) (xs := ([x69] : List mdl_one)) hS74 rfl (by kernel_rfl) rfl 70 2 [(cs_mdl_one x69)] (by kernel_rfl) rfl ((Elr.cons rfl Elr.nil)) (fun C77 w81 hS80 => (KR.cons (hS80.rd (List.Mem.tail _ (List.Mem.tail _ (List.Mem.tail _ (List.Mem.tail _ (List.Mem.head _)))))) (KR.nil (hS80.im.of_le hl73)))) ?_
          intro a79 C77 w81 hS80 ho78
          refine WO.tail rfl ?_
          have hS83 := hS80.front1
          obtain ⟨x84, hx_x84, hr2⟩ := bind_some hr2
          obtain ⟨h0_x84, he_x84⟩ := app_some hx_x84
          refine WO.append (e' := 70) (b := 16) (zs := (cs_mdl_one z_mdl_one).toArray) hS83 h_r75 rfl (by kernel_rfl) rfl (by kernel_rfl) (by kernel_rfl) (by kernel_rfl) rfl rfl rfl rfl ho78.sl (hS83.rd (List.Mem.tail _ (List.Mem.head _))) h0_x84 he_x84 (fun _ _ _ => trivial) ?_
          intro a85 c86 w87 C88 hS89 ho90
          have hS91 := hS89.front1
          have hS92 := hS91.drop
          refine WO.vals [(9, 28, (.pointer (some ⟨b1, 0, none⟩)))] (by kernel_rfl) (fun _ => by kernel_rfl) ?_
          obtain ⟨I93, hl94, hS96, hp95⟩ := OwnSl.pub ho90 hS92
          have hS97 := hS96.front2
          refine WO.storeBox hS97 rfl (by kernel_rfl) rfl 0 rfl rfl (by kernel_rfl) (by kernel_rfl) (by kernel_rfl) ((cs_mdl_place ({ s8 with held := x84 }) ({ w_s8 with held := ⟨a85, c86⟩ })).toArray) (by kernel_rfl) (fun _ _ => trivial) ?_
          intro w99 hS98
          refine WO.nil ?_
          have hk100 : ok_mdl_place I93 ({ s8 with held := x84 }) ({ w_s8 with held := ⟨a85, c86⟩ }) := ⟨hp95, (RSl.mono h_s8.queue ((hl20.trans hl73).trans hl94))⟩
          have hS101 := hS98.front2
          have hS102 := hS101.front2
          have he := Option.some.inj hr2
          subst j30
          refine En.weaken (fr' := [(0, (.pointer (some ⟨b_p0, 0, none⟩))), (1, (.string p1)), (5, (.pointer (some ⟨b1, 0, none⟩)))]) (En.round ⟨I93, ({ w_s8 with held := ⟨a85, c86⟩ }), rfl, (hl73.trans hl94), hS102, hk100⟩) (Sub.cons rfl (Sub.cons rfl (Sub.cons rfl Sub.nil)))
      case restj30 =>
        rintro _ w103 ⟨I32, w_j30, rfl, hl33, hS104, h_j30⟩
        refine En.next ?_
        refine W.region (l := [0, 1, 2, 3, 4]) (by kernel_rfl) ?_
        refine WO.vals [(0, 29, (.pointer (some ⟨b1, 1, none⟩)))] (by kernel_rfl) (fun _ => by kernel_rfl) ?_
        refine WO.load rfl (by kernel_rfl) (by kernel_rfl) rfl (v := (.slice w_j30.queue.a j30.queue.length w_j30.queue.c)) (fun w' hw' => cell_one ((rd_f (hS104.rd (List.Mem.tail _ (List.Mem.tail _ (List.Mem.head _))))) w' hw') (by kernel_rfl)) ?_
        obtain ⟨x105, hx_x105, hr1⟩ := bind_some hr1
        obtain ⟨h0_x105, h1_x105, h2_x105, he_x105⟩ := sub_some hx_x105
        have hl_x105 : ((j30.queue.length : Int) : Int) ≤ (w_j30.queue.c : Int) := Int.le_trans h2_x105 (Int.ofNat_le.2 (h_j30.queue).le)
        refine WO.slice (e := 70) (sz := 2) rfl (by kernel_rfl) (by kernel_rfl) (by kernel_rfl) rfl (1 : Int) ((j30.queue.length : Int) : Int) h0_x105 (.inr ⟨_, _, rfl, rfl⟩) (.inl ⟨rfl, rfl⟩) h1_x105 hl_x105 ?_
        obtain ⟨a_x105, c_x105, h_x105, ev_x105⟩ := sub_ok (h_j30.queue) h0_x105 h1_x105 h2_x105 he_x105
        refine WO.reslot 31 rfl ev_x105 ?_
        refine WO.vals [(3, 32, (.pointer (some ⟨b1, 1, none⟩)))] (by kernel_rfl) (fun _ => by kernel_rfl) ?_
        have hS106 := hS104.front2
        refine WO.storeBox hS106 rfl (by kernel_rfl) rfl 1 rfl rfl (by kernel_rfl) (by kernel_rfl) (by kernel_rfl) ((cs_mdl_place ({ j30 with queue := x105 }) ({ w_j30 with queue := ⟨a_x105, c_x105⟩ })).toArray) (by kernel_rfl) (fun _ _ => trivial) ?_
        intro w108 hS107
        refine WO.nil ?_
        refine En.in_normal ?_
        have hk109 : ok_mdl_place I32 ({ j30 with queue := x105 }) ({ w_j30 with queue := ⟨a_x105, c_x105⟩ }) := ⟨h_j30.held, h_x105⟩
        have hS110 := hS107.front2
        have hS111 := hS110.front2
        refine En.weaken (fr' := [(0, (.pointer (some ⟨b_p0, 0, none⟩))), (1, (.string p1)), (5, (.pointer (some ⟨b1, 0, none⟩)))]) (En.round ⟨{ j30 with queue := x105 }, (Option.some.inj hr1).symm, I32, ({ w_j30 with queue := ⟨a_x105, c_x105⟩ }), rfl, ((hl7.trans hl20).trans hl33), hS111, hk109⟩) (Sub.cons rfl (Sub.cons rfl (Sub.cons rfl Sub.nil)))
    · replace hr1 := cond_f hc hr1
      refine W.exit ?_
      refine En.nx_exit ?_
      refine En.rd_exit ?_
      have ht := hext5 _ (Option.some.inj hr1).symm
      subst t5
      refine En.in_hit ?_
      refine En.next ?_
      refine W.region (l := [0, 1, 2, 3]) (by kernel_rfl) ?_
      refine WO.vals [(0, 33, (.pointer (some ⟨b_p0, 0, none⟩))), (1, 34, (.string p1))] (by kernel_rfl) (fun _ => by kernel_rfl) ?_
      refine WO.loadN rfl (by kernel_rfl) (by kernel_rfl) rfl ((cs_mdl_place s8 w_s8)) (by kernel_rfl) (fun w' hw' => cells_one ((rd_f (hS29.rd (List.Mem.tail _ (List.Mem.tail _ (List.Mem.head _))))) w' hw') (by kernel_rfl)) ?_
      have hS124 := hS29.front1
      have hS125 := hS124.front1
      obtain ⟨r131, hx_r126, hr⟩ := bind_some hr
      refine WO.call rfl (by kernel_rfl) rfl (f := 55) (args := #[(.pointer (some ⟨b_p0, 0, none⟩)), (.string p1), (.agg (cs_mdl_place s8 w_s8).toArray)]) (by kernel_rfl) (mdl_Locks_set_ok (h_p0.mono (hl7.trans hl20)) (h_s8.mono hl20) hS125 hx_r126) ?_
      rintro _ w127 ⟨I128, w_r131, rfl, hl129, hS130, h_r131⟩
      refine ⟨_, rfl, trivial, ?_⟩
      refine WO.nil ?_
      refine En.toRet ?_
      have hS132 := hS130.front2
      have hS133 := hS132.drop
      have he := Option.some.inj hr
      subst r
      exact En.ret0 rfl ⟨I128, w_r131, rfl, ((hl7.trans hl20).trans hl129), hS133, h_r131⟩
noncomputable def mdl_Locks_Free (p0 : mdl_Locks) (p1 : Int) (p2 : ByteArray) : Option (Int × mdl_Locks) := (mdl_Locks_check p0 p1).bind (fun (r8 : Int) => (bif (r8 != 0) then some (r8, p0) else (some ((mget sEq p0.at_ p2).getD z_mdl_place)).bind (fun (x9 : mdl_place) => (mdl_find x9.held p1).bind (fun (r21 : Int) => (bif (decide (r21 < 0)) then some (4, p0) else (mdl_without x9.held p1).bind (fun (r28 : List mdl_one) => (mdl_Locks_serve p0 p2 ({ x9 with held := r28 })).bind (fun (r39 : mdl_Locks) => some (0, r39))))))))
set_option maxHeartbeats 1000000 in
theorem mdl_Locks_Free_ok {E w : World} {I : Mem} {Os : List Mem} {p0 : mdl_Locks} {p1 : Int} {p2 : ByteArray} {b_p0 : Nat} {w_p0 : W_mdl_Locks} (h_p0 : ok_mdl_Locks I p0 w_p0) (hS : St E w I ((Gv.one b_p0 (.cells (cs_mdl_Locks p0 w_p0).toArray 56 (0, 0))) :: (w_p0.at_.C) :: Os)) {r : Int × mdl_Locks} (hr : mdl_Locks_Free p0 p1 p2 = some r) :
    Calls P 25 #[(.pointer (some ⟨b_p0, 0, none⟩)), (.int .i64 p1), (.string p2)] w (fun e w' => ∃ (I' : Mem) (w_rp0 : W_mdl_Locks), e = .returned (.int .i64 r.1) ∧ I.Le I' ∧ St E w' I' ((Gv.one b_p0 (.cells (cs_mdl_Locks r.2 w_rp0).toArray 56 (0, 0))) :: w_rp0.at_.C :: Os) ∧ ok_mdl_Locks I' r.2 w_rp0) := by
  refine calls_W (args := [(.pointer (some ⟨b_p0, 0, none⟩)), (.int .i64 p1), (.string p2)]) (fn := Try.f25) rfl rfl rfl ?_
  unfold mdl_Locks_Free at hr
  refine W.seq ?_
  refine W.region (l := [0]) (by kernel_rfl) ?_
  refine WO.vals [(0, 6, (.int .i64 0))] (by kernel_rfl) (fun _ => by kernel_rfl) ?_
  refine WO.nil ?_
  refine En.next ?_
  refine W.seq ?_
  refine W.seq ?_
  refine W.region (l := [0, 1, 2, 3]) (by kernel_rfl) ?_
  refine WO.vals [(0, 9, (.pointer (some ⟨b_p0, 0, none⟩))), (1, 10, (.int .i64 p1))] (by kernel_rfl) (fun _ => by kernel_rfl) ?_
  have hS1 := hS.front1
  have hS2 := hS1.front1
  obtain ⟨r8, hx_r3, hr⟩ := bind_some hr
  refine WO.call rfl (by kernel_rfl) rfl (f := 37) (args := #[(.pointer (some ⟨b_p0, 0, none⟩)), (.int .i64 p1)]) (by kernel_rfl) (mdl_Locks_check_ok h_p0 hS2 hx_r3) ?_
  rintro _ w4 ⟨I5, rfl, hl6, hS7⟩
  refine ⟨_, rfl, trivial, ?_⟩
  refine WO.vals [(3, 7, (.int .i64 r8))] (by kernel_rfl) (fun _ => by kernel_rfl) ?_
  refine WO.nil ?_
  refine En.next ?_
  refine W.seq ?_
  refine W.region (l := [0, 1]) (by kernel_rfl) ?_
  refine WO.vals [(0, 12, (.int .i64 r8)), (1, 13, (.bool (r8 != 0)))] (by kernel_rfl) (fun _ => by kernel_rfl) ?_
  refine WO.nil ?_
  refine En.next ?_
  refine W.cond (b := (r8 != 0)) rfl rfl (fun hc => ?_) (fun hc => ?_)
  · replace hr := cond_t hc hr
    refine W.seq ?_
    refine W.region (l := [0, 1]) (by kernel_rfl) ?_
    refine WO.vals [(0, 14, (.int .i64 r8)), (1, 6, (.int .i64 r8))] (by kernel_rfl) (fun _ => by kernel_rfl) ?_
    refine WO.nil ?_
    refine En.next ?_
    refine W.ret ?_
    refine En.nx_ret ?_
    have he := Option.some.inj hr
    subst r
    exact En.ret1 rfl (.int .i64 r8) rfl ⟨I5, w_p0, rfl, hl6, hS7, (h_p0.mono hl6)⟩
  · replace hr := cond_f hc hr
    refine W.skip ?_
    refine En.next ?_
    refine W.seq ?_
    refine W.region (l := [0, 1, 2, 3, 4, 5, 6, 7]) (by kernel_rfl) ?_
    refine WO.vals [(0, 15, (.pointer (some ⟨b_p0, 0, none⟩))), (1, 16, (.pointer (some ⟨b_p0, 0, none⟩))), (2, 17, (.pointer (some ⟨b_p0, 0, none⟩)))] (by kernel_rfl) (fun _ => by kernel_rfl) ?_
    refine WO.load rfl (by kernel_rfl) (by kernel_rfl) rfl (v := (.map (some w_p0.at_.m))) (fun w' hw' => cell_one ((rd_f (hS7.rd (List.Mem.head _))) w' hw') (by kernel_rfl)) ?_
    refine WO.vals [(4, 19, (.string p2))] (by kernel_rfl) (fun _ => by kernel_rfl) ?_
    obtain ⟨x9, hx_x9, hr⟩ := bind_some hr
    obtain ⟨v_x9, hv_x9, hq_x9⟩ := OwnMap.lookup (OwnMap.mono h_p0.at_ hl6) (t := 54) (kt := 9) (et := 68) (by kernel_rfl) (keyLaw_str (kt := 9) (by kernel_rfl)) p2 (zv := (.agg (cs_mdl_place z_mdl_place zw_mdl_place).toArray)) (z0 := z_mdl_place) (by kernel_rfl) ⟨(cs_mdl_place z_mdl_place zw_mdl_place), rfl, ⟨zw_mdl_place, rfl, zok_mdl_place⟩⟩
    rw [Option.some.inj hx_x9] at hv_x9
    obtain ⟨_, rfl, hv_x9⟩ := hv_x9
    obtain ⟨w_x9, rfl, h_x9⟩ := hv_x9
    refine WO.lookup rfl (by kernel_rfl) rfl rfl hq_x9 ((rd_f (hS7.rd (List.Mem.tail _ (List.Mem.head _))))) (.agg (cs_mdl_place x9 w_x9).toArray) rfl ?_
    refine WO.new hS7 rfl (by kernel_rfl) rfl (.cells (cs_mdl_place z_mdl_place zw_mdl_place).toArray 68 (0, 0)) (fun b => .pointer (some ⟨b, 0, none⟩)) (by kernel_rfl) (fun _ _ _ => trivial) ?_
    intro b10 w13 hS12
    refine WO.storeBox hS12 rfl (by kernel_rfl) rfl 0 rfl rfl (by kernel_rfl) (by kernel_rfl) (by kernel_rfl) ((cs_mdl_place x9 w_x9).toArray) (by kernel_rfl) (fun _ _ => trivial) ?_
    intro w15 hS14
    refine WO.nil ?_
    refine En.next ?_
    refine W.seq ?_
    refine W.seq ?_
    refine W.region (l := [0, 1, 2, 3, 4]) (by kernel_rfl) ?_
    refine WO.vals [(0, 21, (.pointer (some ⟨b10, 0, none⟩)))] (by kernel_rfl) (fun _ => by kernel_rfl) ?_
    refine WO.load rfl (by kernel_rfl) (by kernel_rfl) rfl (v := (.slice w_x9.held.a x9.held.length w_x9.held.c)) (fun w' hw' => cell_one ((rd_f (hS14.rd (List.Mem.head _))) w' hw') (by kernel_rfl)) ?_
    refine WO.vals [(2, 23, (.int .i64 p1))] (by kernel_rfl) (fun _ => by kernel_rfl) ?_
    obtain ⟨r21, hx_r16, hr⟩ := bind_some hr
    refine WO.call rfl (by kernel_rfl) rfl (f := 32) (args := #[(.slice w_x9.held.a x9.held.length w_x9.held.c), (.int .i64 p1)]) (by kernel_rfl) (mdl_find_ok h_x9.held hS14 hx_r16) ?_
    rintro _ w17 ⟨I18, rfl, hl19, hS20⟩
    refine ⟨_, rfl, trivial, ?_⟩
    refine WO.vals [(4, 25, (.bool (decide (r21 < 0))))] (by kernel_rfl) (fun _ => by kernel_rfl) ?_
    refine WO.nil ?_
    refine En.next ?_
    refine W.cond (b := (decide (r21 < 0))) rfl rfl (fun hc => ?_) (fun hc => ?_)
    · replace hr := cond_t hc hr
      refine W.seq ?_
      refine W.region (l := [0]) (by kernel_rfl) ?_
      refine WO.vals [(0, 6, (.int .i64 4))] (by kernel_rfl) (fun _ => by kernel_rfl) ?_
      refine WO.nil ?_
      refine En.next ?_
      refine W.ret ?_
      refine En.nx_ret ?_
      have hS22 := hS20.drop
      have he := Option.some.inj hr
      subst r
      exact En.ret1 rfl (.int .i64 4) rfl ⟨I18, w_p0, rfl, (hl6.trans hl19), hS22, (h_p0.mono (hl6.trans hl19))⟩
    · replace hr := cond_f hc hr
      refine W.skip ?_
      refine En.next ?_
      refine W.seq ?_
      refine W.region (l := [0, 1, 2, 3, 4, 5]) (by kernel_rfl) ?_
      refine WO.vals [(0, 26, (.pointer (some ⟨b10, 0, none⟩)))] (by kernel_rfl) (fun _ => by kernel_rfl) ?_
      refine WO.load rfl (by kernel_rfl) (by kernel_rfl) rfl (v := (.slice w_x9.held.a x9.held.length w_x9.held.c)) (fun w' hw' => cell_one ((rd_f (hS20.rd (List.Mem.head _))) w' hw') (by kernel_rfl)) ?_
      refine WO.vals [(2, 28, (.int .i64 p1))] (by kernel_rfl) (fun _ => by kernel_rfl) ?_
      obtain ⟨r28, hx_r23, hr⟩ := bind_some hr
      refine WO.call rfl (by kernel_rfl) rfl (f := 38) (args := #[(.slice w_x9.held.a x9.held.length w_x9.held.c), (.int .i64 p1)]) (by kernel_rfl) (mdl_without_ok (RSl.mono h_x9.held hl19) hS20 hx_r23) ?_
      rintro _ w24 ⟨I25, a_r28, c_r28, rfl, hl26, hS27, h_r28⟩
      refine ⟨_, rfl, trivial, ?_⟩
      refine WO.vals [(4, 30, (.pointer (some ⟨b10, 0, none⟩)))] (by kernel_rfl) (fun _ => by kernel_rfl) ?_
      refine WO.storeBox hS27 rfl (by kernel_rfl) rfl 0 rfl rfl (by kernel_rfl) (by kernel_rfl) (by kernel_rfl) ((cs_mdl_place ({ x9 with held := r28 }) ({ w_x9 with held := ⟨a_r28, c_r28⟩ })).toArray) (by kernel_rfl) (fun _ _ => trivial) ?_
      intro w30 hS29
      refine WO.nil ?_
      refine En.next ?_
      refine W.seq ?_
      refine W.region (l := [0, 1, 2, 3]) (by kernel_rfl) ?_
      refine WO.vals [(0, 31, (.pointer (some ⟨b_p0, 0, none⟩))), (1, 32, (.string p2))] (by kernel_rfl) (fun _ => by kernel_rfl) ?_
      refine WO.loadN rfl (by kernel_rfl) (by kernel_rfl) rfl ((cs_mdl_place ({ x9 with held := r28 }) ({ w_x9 with held := ⟨a_r28, c_r28⟩ }))) (by kernel_rfl) (fun w' hw' => cells_one ((rd_f (hS29.rd (List.Mem.head _))) w' hw') (by kernel_rfl)) ?_
      have hS31 := hS29.front2
      have hS32 := hS31.front2
      have hk33 : ok_mdl_place I25 ({ x9 with held := r28 }) ({ w_x9 with held := ⟨a_r28, c_r28⟩ }) := ⟨h_r28, (RSl.mono h_x9.queue (hl19.trans hl26))⟩
      obtain ⟨r39, hx_r34, hr⟩ := bind_some hr
      refine WO.call rfl (by kernel_rfl) rfl (f := 39) (args := #[(.pointer (some ⟨b_p0, 0, none⟩)), (.string p2), (.agg (cs_mdl_place ({ x9 with held := r28 }) ({ w_x9 with held := ⟨a_r28, c_r28⟩ })).toArray)]) (by kernel_rfl) (mdl_Locks_serve_ok (h_p0.mono ((hl6.trans hl19).trans hl26)) hk33 hS32 hx_r34) ?_
      rintro _ w35 ⟨I36, w_r39, rfl, hl37, hS38, h_r39⟩
      refine ⟨_, rfl, trivial, ?_⟩
      refine WO.nil ?_
      refine En.next ?_
      refine W.seq ?_
      refine W.region (l := [0]) (by kernel_rfl) ?_
      refine WO.vals [(0, 6, (.int .i64 0))] (by kernel_rfl) (fun _ => by kernel_rfl) ?_
      refine WO.nil ?_
      refine En.next ?_
      refine W.ret ?_
      have hS40 := hS38.front2
      have hS41 := hS40.drop
      have he := Option.some.inj hr
      subst r
      exact En.ret1 rfl (.int .i64 0) rfl ⟨I36, w_r39, rfl, (((hl6.trans hl19).trans hl26).trans hl37), hS41, h_r39⟩
def registrarref21_Locks_drop (p0 : registrarref21_Locks) (p1 : Int) (p2 : ByteArray) (p3 : Bool) : Option ((List ByteArray) × registrarref21_Locks) := (forE (fun (i6 : Nat) => fun (s : (List registrarref21_One) × (List ByteArray)) => match s with | (s4, s5) => (idx p0.L (i6 : Int)).bind (fun (x20 : registrarref21_One) => ((bif ((x20.Who == p1) && (p3 || (x20.Held && (sEq x20.Path p2)))) then (app 16 s5 ([x20.Path] : List ByteArray)).bind (fun (x53 : List ByteArray) => some (s4, x53)) else (app 40 s4 ([x20] : List registrarref21_One)).bind (fun (x77 : List registrarref21_One) => some (x77, s5)))).bind (fun ((s62, s63) : (List registrarref21_One) × (List ByteArray)) => some (s62, s63)))) p0.L.length 0 (([] : List registrarref21_One), ([] : List ByteArray))).bind (fun ((s4, s5) : (List registrarref21_One) × (List ByteArray)) => some (s5, (⟨s4⟩ : registrarref21_Locks)))
set_option maxHeartbeats 1000000 in
theorem registrarref21_Locks_drop_ok {E w : World} {I : Mem} {Os : List Mem} {p0 : registrarref21_Locks} {p1 : Int} {p2 : ByteArray} {p3 : Bool} {b_p0 : Nat} {w_p0 : W_registrarref21_Locks} (h_p0 : ok_registrarref21_Locks I p0 w_p0) (hS : St E w I ((Gv.one b_p0 (.cells (cs_registrarref21_Locks p0 w_p0).toArray 51 (0, 0))) :: (w_p0.L.C) :: Os)) {r : (List ByteArray) × registrarref21_Locks} (hr : registrarref21_Locks_drop p0 p1 p2 p3 = some r) :
    Calls P 66 #[(.pointer (some ⟨b_p0, 0, none⟩)), (.int .i64 p1), (.string p2), (.bool p3)] w (fun e w' => ∃ (I' : Mem) (ra0 : Option Addr) (rc0 : Nat) (w_rp0 : W_registrarref21_Locks), e = .returned (.slice ra0 r.1.length rc0) ∧ I.Le I' ∧ St E w' I' ((Gv.one b_p0 (.cells (cs_registrarref21_Locks r.2 w_rp0).toArray 51 (0, 0))) :: w_rp0.L.C :: Os) ∧ RSl 1 RStr I' ra0 rc0 r.1 ∧ ok_registrarref21_Locks I' r.2 w_rp0) := by
  refine calls_W (args := [(.pointer (some ⟨b_p0, 0, none⟩)), (.int .i64 p1), (.string p2), (.bool p3)]) (fn := Try.f66) rfl rfl rfl ?_
  unfold registrarref21_Locks_drop at hr
  refine W.seq ?_
  refine W.region (l := [0]) (by kernel_rfl) ?_
  refine WO.vals [(0, 8, (.slice none 0 0))] (by kernel_rfl) (fun _ => by kernel_rfl) ?_
  refine WO.nil ?_
  refine En.next ?_
  refine W.seq ?_
  refine W.region (l := [0]) (by kernel_rfl) ?_
  refine WO.vals [(0, 9, (.slice none 0 0))] (by kernel_rfl) (fun _ => by kernel_rfl) ?_
  refine WO.nil ?_
  refine En.next ?_
  refine W.seq ?_
  refine W.region (l := [0]) (by kernel_rfl) ?_
  refine WO.vals [(0, 10, (.slice none 0 0))] (by kernel_rfl) (fun _ => by kernel_rfl) ?_
  refine WO.nil ?_
  refine En.next ?_
  refine W.seq ?_
  refine W.seq ?_
  refine W.region (l := [0]) (by kernel_rfl) ?_
  refine WO.vals [(0, 11, (.int .i64 0))] (by kernel_rfl) (fun _ => by kernel_rfl) ?_
  refine WO.nil ?_
  refine En.next ?_
  refine W.block ?_
  obtain ⟨⟨s4, s5⟩, hloop7, hr⟩ := bind_some hr
  have hS9 := hS.no
  have hS11 := hS9.no
  have hS12 := hS11.front1
  have hS13 := hS12.front3
  have hS14 := hS13.front3
  have hlt18 := (h_p0.L.sl).len_lt
  refine W.weaken (fr' := [(0, (.pointer (some ⟨b_p0, 0, none⟩))), (1, (.int .i64 p1)), (2, (.string p2)), (3, (.bool p3)), (9, (.slice none ([] : List registrarref21_One).length 0)), (10, (.slice none ([] : List ByteArray).length 0)), (11, (.int .i64 ((0 : Nat) : Int)))]) (W.forE (m := p0.L.length) hloop7 (fun (i6 : Nat) => fun (s : (List registrarref21_One) × (List ByteArray)) fr w => match s with | (s4, s5) => ∃ (I2 : Mem), ∃ (a_s4 : Option Addr), ∃ (c_s4 : Nat), ∃ (C_s4 : Mem), ∃ (a_s5 : Option Addr), ∃ (c_s5 : Nat), ∃ (C_s5 : Mem), fr = [(0, (.pointer (some ⟨b_p0, 0, none⟩))), (1, (.int .i64 p1)), (2, (.string p2)), (3, (.bool p3)), (9, (.slice a_s4 s4.length c_s4)), (10, (.slice a_s5 s5.length c_s5)), (11, (.int .i64 (i6 : Int)))] ∧ I.Le I2 ∧ St E w I2 ((Gv.one b_p0 (.cells (cs_registrarref21_Locks p0 w_p0).toArray 51 (0, 0))) :: (w_p0.L.C) :: (C_s4) :: (C_s5) :: Os) ∧ OwnSl 98 4 R_registrarref21_One I2 C_s4 a_s4 c_s4 s4 ∧ OwnSl 9 1 RStr I2 C_s5 a_s5 c_s5 s5) ⟨I, none, 0, Mem.no, none, 0, Mem.no, rfl, Mem.Le.refl _, hS14, OwnSl.nil, OwnSl.nil⟩ ?roundt1 ?lastt1) (Sub.cons rfl (Sub.cons rfl (Sub.cons rfl (Sub.cons rfl (Sub.cons rfl (Sub.cons rfl (Sub.cons rfl Sub.nil)))))))
  case roundt1 =>
    rintro i6 ⟨s4, s5⟩ _ w15 hi19 ⟨I2, a_s4, c_s4, C_s4, a_s5, c_s5, C_s5, rfl, hl3, hS16, h_s4, h_s5⟩ x17 hr1
    refine W.seq ?_
    refine W.seq ?_
    refine W.region (l := [0, 1, 2, 3, 4, 5, 6]) (by kernel_rfl) ?_
    refine WO.vals [(0, 13, (.int .i64 (i6 : Int))), (1, 14, (.pointer (some ⟨b_p0, 0, none⟩))), (2, 15, (.pointer (some ⟨b_p0, 0, none⟩))), (3, 16, (.pointer (some ⟨b_p0, 0, none⟩)))] (by kernel_rfl) (fun _ => by kernel_rfl) ?_
    refine WO.load rfl (by kernel_rfl) (by kernel_rfl) rfl (v := (.slice w_p0.L.a p0.L.length w_p0.L.c)) (fun w' hw' => cell_one ((rd_f (hS16.rd (List.Mem.head _))) w' hw') (by kernel_rfl)) ?_
    refine WO.vals [(5, 18, (.int .i64 (p0.L.length : Int))), (6, 19, (.bool (decide ((i6 : Int) < (p0.L.length : Int)))))] (by kernel_rfl) (fun _ => by kernel_rfl) ?_
    refine WO.nil ?_
    refine En.next ?_
    refine W.cond (b := (decide ((i6 : Int) < (p0.L.length : Int)))) rfl rfl (fun hc => ?_) (fun hc => ?_)
    rotate_left
    · exact absurd hc (by first | (simp; done) | (simp; omega))
    clear hc
    refine W.skip ?_
    refine En.next ?_
    refine W.seq ?_
    refine W.block ?_
    refine W.seq ?_
    refine W.region (l := [0, 1, 2, 3, 4, 5, 6, 7, 8]) (by kernel_rfl) ?_
    refine WO.vals [(0, 22, (.pointer (some ⟨b_p0, 0, none⟩))), (1, 23, (.pointer (some ⟨b_p0, 0, none⟩))), (2, 24, (.pointer (some ⟨b_p0, 0, none⟩)))] (by kernel_rfl) (fun _ => by kernel_rfl) ?_
    refine WO.load rfl (by kernel_rfl) (by kernel_rfl) rfl (v := (.slice w_p0.L.a p0.L.length w_p0.L.c)) (fun w' hw' => cell_one ((rd_f (hS16.rd (List.Mem.head _))) w' hw') (by kernel_rfl)) ?_
    refine WO.vals [(4, 26, (.int .i64 (i6 : Int)))] (by kernel_rfl) (fun _ => by kernel_rfl) ?_
    obtain ⟨x20, hx_x20, hr1⟩ := bind_some hr1
    obtain ⟨h0_x20, h1_x20, hx_x20⟩ := idx_some hx_x20
    obtain ⟨ha_x20, cs_x20, hn_x20, hr_x20, hc_x20⟩ := ((h_p0.L.mono hl3).sl).el _ _ hx_x20
    obtain rfl := hr_x20
    refine WO.indexAddr (e := 98) (sz := 4) rfl (by kernel_rfl) (by kernel_rfl) (by kernel_rfl) rfl ha_x20 rfl h0_x20 h1_x20 ?_
    refine WO.loadN rfl (by kernel_rfl) (by kernel_rfl) rfl ((cs_registrarref21_One x20)) (by kernel_rfl) (fun w' hw' => hc_x20.cells (k := 0) (by kernel_rfl) rfl ((rd_f (hS16.rd (List.Mem.tail _ (List.Mem.head _)))) w' hw')) ?_
    refine WO.new hS16 rfl (by kernel_rfl) rfl (.cells (cs_registrarref21_One z_registrarref21_One).toArray 98 (0, 0)) (fun b => .pointer (some ⟨b, 0, none⟩)) (by kernel_rfl) (fun _ _ _ => trivial) ?_
    intro b21 w24 hS23
    refine WO.storeBox hS23 rfl (by kernel_rfl) rfl 0 rfl rfl (by kernel_rfl) (by kernel_rfl) (by kernel_rfl) ((cs_registrarref21_One x20).toArray) (by kernel_rfl) (fun _ _ => trivial) ?_
    intro w26 hS25
    refine WO.nil ?_
    refine En.next ?_
    refine W.seq ?_
    refine W.region (l := [0, 1, 2, 3, 4, 5, 6, 7, 8, 9, 10, 11, 12, 13, 14, 15, 16]) (by kernel_rfl) ?_
    refine WO.vals [(0, 29, (.pointer (some ⟨b21, 0, none⟩)))] (by kernel_rfl) (fun _ => by kernel_rfl) ?_
    refine WO.load rfl (by kernel_rfl) (by kernel_rfl) rfl (v := (.int .i64 x20.Who)) (fun w' hw' => cell_one ((rd_f (hS25.rd (List.Mem.head _))) w' hw') (by kernel_rfl)) ?_
    refine WO.vals [(2, 31, (.int .i64 p1)), (3, 32, (.bool (x20.Who == p1))), (4, 33, (.bool (x20.Who == p1)))] (by kernel_rfl) (fun _ => by kernel_rfl) ?_
    refine WO.join (l1 := [5, 6, 7, 8, 9, 10, 11, 12, 13, 14, 15, 16]) (l2 := []) (J := fun frx wx => frx = [(45, (.bool ((x20.Who == p1) && (p3 || (x20.Held && (sEq x20.Path p2)))))), (0, (.pointer (some ⟨b_p0, 0, none⟩))), (1, (.int .i64 p1)), (2, (.string p2)), (3, (.bool p3)), (9, (.slice a_s4 s4.length c_s4)), (10, (.slice a_s5 s5.length c_s5)), (11, (.int .i64 (i6 : Int))), (12, (.pointer (some ⟨b21, 0, none⟩)))] ∧ w26 = wx) ?restm33 ?waysm33
    case waysm33 =>
      refine WO.caseb (x20.Who == p1) (fun hc => ?_) (fun hc => ?_)
      · skip
        refine WO.reslot 33 rfl (show Value.bool (x20.Who == p1) = Value.bool true by rw [hc]) ?_
        refine WO.vals [(5, 34, (.bool p3)), (6, 35, (.bool p3))] (by kernel_rfl) (fun _ => by kernel_rfl) ?_
        refine WO.join (l1 := [7, 8, 9, 10, 11, 12, 13, 14, 15]) (l2 := [16]) (J := fun frx wx => frx = [(44, (.bool (p3 || (x20.Held && (sEq x20.Path p2))))), (0, (.pointer (some ⟨b_p0, 0, none⟩))), (1, (.int .i64 p1)), (2, (.string p2)), (3, (.bool p3)), (9, (.slice a_s4 s4.length c_s4)), (10, (.slice a_s5 s5.length c_s5)), (11, (.int .i64 (i6 : Int))), (12, (.pointer (some ⟨b21, 0, none⟩))), (33, (.bool true))] ∧ w26 = wx) ?restm37 ?waysm37
        case waysm37 =>
          refine WO.caseb p3 (fun hc => ?_) (fun hc => ?_)
          · skip
            refine WO.reslot 35 rfl (show Value.bool p3 = Value.bool true by rw [hc]) ?_
            refine WO.pass rfl (by kernel_rfl) rfl ?_
            refine WO.pass rfl (by kernel_rfl) rfl ?_
            refine WO.pass rfl (by kernel_rfl) rfl ?_
            refine WO.pass rfl (by kernel_rfl) rfl ?_
            refine WO.pass rfl (by kernel_rfl) rfl ?_
            refine WO.pass rfl (by kernel_rfl) rfl ?_
            refine WO.pass rfl (by kernel_rfl) rfl ?_
            refine WO.pass rfl (by kernel_rfl) rfl ?_
            refine WO.vals [(15, 44, (.bool true))] (by kernel_rfl) (fun _ => by kernel_rfl) ?_
            refine WO.weaken (fr' := [(44, (.bool (p3 || (x20.Held && (sEq x20.Path p2))))), (0, (.pointer (some ⟨b_p0, 0, none⟩))), (1, (.int .i64 p1)), (2, (.string p2)), (3, (.bool p3)), (9, (.slice a_s4 s4.length c_s4)), (10, (.slice a_s5 s5.length c_s5)), (11, (.int .i64 (i6 : Int))), (12, (.pointer (some ⟨b21, 0, none⟩))), (33, (.bool true))]) (WO.meet ⟨rfl, rfl⟩) (Sub.cons (by rw [hc]; rfl) (Sub.cons rfl (Sub.cons rfl (Sub.cons rfl (Sub.cons rfl (Sub.cons rfl (Sub.cons rfl (Sub.cons rfl (Sub.cons rfl (Sub.cons rfl Sub.nil))))))))))
          · skip
            refine WO.reslot 35 rfl (show Value.bool p3 = Value.bool false by rw [hc]) ?_
            refine WO.vals [(7, 36, (.pointer (some ⟨b21, 3, none⟩)))] (by kernel_rfl) (fun _ => by kernel_rfl) ?_
            refine WO.load rfl (by kernel_rfl) (by kernel_rfl) rfl (v := (.bool x20.Held)) (fun w' hw' => cell_one ((rd_f (hS25.rd (List.Mem.head _))) w' hw') (by kernel_rfl)) ?_
            refine WO.vals [(9, 38, (.bool x20.Held))] (by kernel_rfl) (fun _ => by kernel_rfl) ?_
            refine WO.join (l1 := [10, 11, 12, 13, 14]) (l2 := [15]) (J := fun frx wx => frx = [(43, (.bool (x20.Held && (sEq x20.Path p2)))), (0, (.pointer (some ⟨b_p0, 0, none⟩))), (1, (.int .i64 p1)), (2, (.string p2)), (3, (.bool p3)), (9, (.slice a_s4 s4.length c_s4)), (10, (.slice a_s5 s5.length c_s5)), (11, (.int .i64 (i6 : Int))), (12, (.pointer (some ⟨b21, 0, none⟩))), (33, (.bool true)), (35, (.bool false))] ∧ w26 = wx) ?restm39 ?waysm39
            case waysm39 =>
              refine WO.caseb x20.Held (fun hc => ?_) (fun hc => ?_)
              · skip
                refine WO.reslot 38 rfl (show Value.bool x20.Held = Value.bool true by rw [hc]) ?_
                refine WO.vals [(10, 39, (.pointer (some ⟨b21, 2, none⟩)))] (by kernel_rfl) (fun _ => by kernel_rfl) ?_
                refine WO.load rfl (by kernel_rfl) (by kernel_rfl) rfl (v := (.string x20.Path)) (fun w' hw' => cell_one ((rd_f (hS25.rd (List.Mem.head _))) w' hw') (by kernel_rfl)) ?_
                refine WO.vals [(12, 41, (.string p2)), (13, 42, (.bool (sEq x20.Path p2))), (14, 43, (.bool (sEq x20.Path p2)))] (by kernel_rfl) (fun _ => by kernel_rfl) ?_
                refine WO.weaken (fr' := [(43, (.bool (x20.Held && (sEq x20.Path p2)))), (0, (.pointer (some ⟨b_p0, 0, none⟩))), (1, (.int .i64 p1)), (2, (.string p2)), (3, (.bool p3)), (9, (.slice a_s4 s4.length c_s4)), (10, (.slice a_s5 s5.length c_s5)), (11, (.int .i64 (i6 : Int))), (12, (.pointer (some ⟨b21, 0, none⟩))), (33, (.bool true)), (35, (.bool false))]) (WO.meet ⟨rfl, rfl⟩) (Sub.cons (by rw [hc]; rfl) (Sub.cons rfl (Sub.cons rfl (Sub.cons rfl (Sub.cons rfl (Sub.cons rfl (Sub.cons rfl (Sub.cons rfl (Sub.cons rfl (Sub.cons rfl (Sub.cons rfl Sub.nil)))))))))))
              · skip
                refine WO.reslot 38 rfl (show Value.bool x20.Held = Value.bool false by rw [hc]) ?_
                refine WO.pass rfl (by kernel_rfl) rfl ?_
                refine WO.pass rfl (by kernel_rfl) rfl ?_
                refine WO.pass rfl (by kernel_rfl) rfl ?_
                refine WO.pass rfl (by kernel_rfl) rfl ?_
                refine WO.vals [(14, 43, (.bool false))] (by kernel_rfl) (fun _ => by kernel_rfl) ?_
                refine WO.weaken (fr' := [(43, (.bool (x20.Held && (sEq x20.Path p2)))), (0, (.pointer (some ⟨b_p0, 0, none⟩))), (1, (.int .i64 p1)), (2, (.string p2)), (3, (.bool p3)), (9, (.slice a_s4 s4.length c_s4)), (10, (.slice a_s5 s5.length c_s5)), (11, (.int .i64 (i6 : Int))), (12, (.pointer (some ⟨b21, 0, none⟩))), (33, (.bool true)), (35, (.bool false))]) (WO.meet ⟨rfl, rfl⟩) (Sub.cons (by rw [hc]; rfl) (Sub.cons rfl (Sub.cons rfl (Sub.cons rfl (Sub.cons rfl (Sub.cons rfl (Sub.cons rfl (Sub.cons rfl (Sub.cons rfl (Sub.cons rfl (Sub.cons rfl Sub.nil)))))))))))
            case restm39 =>
              rintro _ _ ⟨rfl, rfl⟩
              refine WO.vals [(15, 44, (.bool (x20.Held && (sEq x20.Path p2))))] (by kernel_rfl) (fun _ => by kernel_rfl) ?_
              refine WO.weaken (fr' := [(44, (.bool (p3 || (x20.Held && (sEq x20.Path p2))))), (0, (.pointer (some ⟨b_p0, 0, none⟩))), (1, (.int .i64 p1)), (2, (.string p2)), (3, (.bool p3)), (9, (.slice a_s4 s4.length c_s4)), (10, (.slice a_s5 s5.length c_s5)), (11, (.int .i64 (i6 : Int))), (12, (.pointer (some ⟨b21, 0, none⟩))), (33, (.bool true))]) (WO.meet ⟨rfl, rfl⟩) (Sub.cons (by rw [hc]; rfl) (Sub.cons rfl (Sub.cons rfl (Sub.cons rfl (Sub.cons rfl (Sub.cons rfl (Sub.cons rfl (Sub.cons rfl (Sub.cons rfl (Sub.cons rfl Sub.nil))))))))))
        case restm37 =>
          rintro _ _ ⟨rfl, rfl⟩
          refine WO.vals [(16, 45, (.bool (p3 || (x20.Held && (sEq x20.Path p2)))))] (by kernel_rfl) (fun _ => by kernel_rfl) ?_
          refine WO.weaken (fr' := [(45, (.bool ((x20.Who == p1) && (p3 || (x20.Held && (sEq x20.Path p2)))))), (0, (.pointer (some ⟨b_p0, 0, none⟩))), (1, (.int .i64 p1)), (2, (.string p2)), (3, (.bool p3)), (9, (.slice a_s4 s4.length c_s4)), (10, (.slice a_s5 s5.length c_s5)), (11, (.int .i64 (i6 : Int))), (12, (.pointer (some ⟨b21, 0, none⟩)))]) (WO.meet ⟨rfl, rfl⟩) (Sub.cons (by rw [hc]; rfl) (Sub.cons rfl (Sub.cons rfl (Sub.cons rfl (Sub.cons rfl (Sub.cons rfl (Sub.cons rfl (Sub.cons rfl (Sub.cons rfl Sub.nil)))))))))
      · skip
        refine WO.reslot 33 rfl (show Value.bool (x20.Who == p1) = Value.bool false by rw [hc]) ?_
        refine WO.pass rfl (by kernel_rfl) rfl ?_
        refine WO.pass rfl (by kernel_rfl) rfl ?_
        refine WO.pass rfl (by kernel_rfl) rfl ?_
        refine WO.pass rfl (by kernel_rfl) rfl ?_
        refine WO.pass rfl (by kernel_rfl) rfl ?_
        refine WO.pass rfl (by kernel_rfl) rfl ?_
        refine WO.pass rfl (by kernel_rfl) rfl ?_
        refine WO.pass rfl (by kernel_rfl) rfl ?_
        refine WO.pass rfl (by kernel_rfl) rfl ?_
        refine WO.pass rfl (by kernel_rfl) rfl ?_
        refine WO.pass rfl (by kernel_rfl) rfl ?_
        refine WO.vals [(16, 45, (.bool false))] (by kernel_rfl) (fun _ => by kernel_rfl) ?_
        refine WO.weaken (fr' := [(45, (.bool ((x20.Who == p1) && (p3 || (x20.Held && (sEq x20.Path p2)))))), (0, (.pointer (some ⟨b_p0, 0, none⟩))), (1, (.int .i64 p1)), (2, (.string p2)), (3, (.bool p3)), (9, (.slice a_s4 s4.length c_s4)), (10, (.slice a_s5 s5.length c_s5)), (11, (.int .i64 (i6 : Int))), (12, (.pointer (some ⟨b21, 0, none⟩)))]) (WO.meet ⟨rfl, rfl⟩) (Sub.cons (by rw [hc]; rfl) (Sub.cons rfl (Sub.cons rfl (Sub.cons rfl (Sub.cons rfl (Sub.cons rfl (Sub.cons rfl (Sub.cons rfl (Sub.cons rfl Sub.nil)))))))))
    case restm33 =>
      rintro _ _ ⟨rfl, rfl⟩
      refine WO.nil ?_
      refine En.next ?_
      obtain ⟨j41, hr2, hr1⟩ := bind_some hr1
      refine W.join (J := (fun fr w => ∃ (s62 : List registrarref21_One), ∃ (s63 : List ByteArray), ∃ (I43 : Mem), ∃ (a_s62 : Option Addr), ∃ (c_s62 : Nat), ∃ (C_s62 : Mem), ∃ (a_s63 : Option Addr), ∃ (c_s63 : Nat), ∃ (C_s63 : Mem), (s62, s63) = j41 ∧ fr = [(0, (.pointer (some ⟨b_p0, 0, none⟩))), (1, (.int .i64 p1)), (2, (.string p2)), (3, (.bool p3)), (9, (.slice a_s62 s62.length c_s62)), (10, (.slice a_s63 s63.length c_s63)), (11, (.int .i64 (i6 : Int)))] ∧ I2.Le I43 ∧ St E w I43 ((Gv.one b_p0 (.cells (cs_registrarref21_Locks p0 w_p0).toArray 51 (0, 0))) :: (w_p0.L.C) :: (C_s62) :: (C_s63) :: Os) ∧ OwnSl 98 4 R_registrarref21_One I43 C_s62 a_s62 c_s62 s62 ∧ OwnSl 9 1 RStr I43 C_s63 a_s63 c_s63 s63)) ?restj41 ?waysj41
      case waysj41 =>
        refine W.cond (b := ((x20.Who == p1) && (p3 || (x20.Held && (sEq x20.Path p2))))) rfl rfl (fun hc => ?_) (fun hc => ?_)
        · replace hr2 := cond_t hc hr2
          refine W.region (l := [0, 1, 2, 3, 4, 5]) (by kernel_rfl) ?_
          refine WO.vals [(0, 46, (.slice a_s5 s5.length c_s5)), (1, 47, (.pointer (some ⟨b21, 2, none⟩)))] (by kernel_rfl) (fun _ => by kernel_rfl) ?_
          refine WO.load rfl (by kernel_rfl) (by kernel_rfl) rfl (v := (.string x20.Path)) (fun w' hw' => cell_one ((rd_f (hS25.rd (List.Mem.head _))) w' hw') (by kernel_rfl)) ?_
          refine WO.newSlice (rel := RStr) (xs := ([x20.Path] : List ByteArray)) hS25 rfl (by kernel_rfl) rfl 9 1 [[(.string x20.Path)]] (by kernel_rfl) rfl ((Elr.cons rfl Elr.nil)) (fun _ _ _ => trivial) ?_
          intro a48 C46 w50 hS49 ho47
          have hS52 := hS49.front5
          obtain ⟨x53, hx_x53, hr2⟩ := bind_some hr2
          obtain ⟨h0_x53, he_x53⟩ := app_some hx_x53
          refine WO.append (e' := 9) (b := 16) (zs := #[(.string (⟨#[]⟩ : ByteArray))]) hS52 h_s5 rfl (by kernel_rfl) rfl (by kernel_rfl) (by kernel_rfl) (by kernel_rfl) rfl rfl rfl rfl ho47.sl (hS52.rd (List.Mem.tail _ (List.Mem.head _))) h0_x53 he_x53 (fun _ _ _ => trivial) ?_
          intro a54 c55 w56 C57 hS58 ho59
          have hS60 := hS58.front1
          have hS61 := hS60.drop
          refine WO.vals [(5, 10, (.slice a54 x53.length c55))] (by kernel_rfl) (fun _ => by kernel_rfl) ?_
          refine WO.nil ?_
          have hS64 := hS61.front1
          have hS65 := hS64.drop
          have hS66 := hS65.front3
          have hS67 := hS66.front3
          have hS68 := hS67.front3
          refine En.weaken (fr' := [(0, (.pointer (some ⟨b_p0, 0, none⟩))), (1, (.int .i64 p1)), (2, (.string p2)), (3, (.bool p3)), (9, (.slice a_s4 s4.length c_s4)), (10, (.slice a54 x53.length c55)), (11, (.int .i64 (i6 : Int)))]) (En.round ⟨s4, x53, I2, a_s4, c_s4, C_s4, a54, c55, C57, Option.some.inj hr2, rfl, Mem.Le.refl _, hS68, h_s4, ho59⟩) (Sub.cons rfl (Sub.cons rfl (Sub.cons rfl (Sub.cons rfl (Sub.cons rfl (Sub.cons rfl (Sub.cons rfl Sub.nil)))))))
        · replace hr2 := cond_f hc hr2
          refine W.region (l := [0, 1, 2, 3, 4]) (by kernel_rfl) ?_
          refine WO.vals [(0, 51, (.slice a_s4 s4.length c_s4))] (by kernel_rfl) (fun _ => by kernel_rfl) ?_
          refine WO.loadN rfl (by kernel_rfl) (by kernel_rfl) rfl ((cs_registrarref21_One x20)) (by kernel_rfl) (fun w' hw' => cells_one ((rd_f (hS25.rd (List.Mem.head _))) w' hw') (by kernel_rfl)) ?_
          refine WO.newSlice (rel := R_registrarref21_One) (xs := ([x20] : List registrarref21_One)) hS25 rfl (by kernel_rfl) rfl 98 4 [(cs_registrarref21_One x20)] (by kernel_rfl) rfl ((Elr.cons rfl Elr.nil)) (fun _ _ _ => trivial) ?_
          intro a72 C70 w74 hS73 ho71
          have hS76 := hS73.front4
          obtain ⟨x77, hx_x77, hr2⟩ := bind_some hr2
          obtain ⟨h0_x77, he_x77⟩ := app_some hx_x77
          refine WO.append (e' := 98) (b := 40) (zs := (cs_registrarref21_One z_registrarref21_One).toArray) hS76 h_s4 rfl (by kernel_rfl) rfl (by kernel_rfl) (by kernel_rfl) (by kernel_rfl) rfl rfl rfl rfl ho71.sl (hS76.rd (List.Mem.tail _ (List.Mem.head _))) h0_x77 he_x77 (fun _ _ _ => trivial) ?_
          intro a78 c79 w80 C81 hS82 ho83
          have hS84 := hS82.front1
          have hS85 := hS84.drop
          refine WO.vals [(4, 9, (.slice a78 x77.length c79))] (by kernel_rfl) (fun _ => by kernel_rfl) ?_
          refine WO.nil ?_
          have hS86 := hS85.front1
          have hS87 := hS86.drop
          have hS88 := hS87.front3
          have hS89 := hS88.front1
          have hS90 := hS89.front3
          have hS91 := hS90.front3
          refine En.weaken (fr' := [(0, (.pointer (some ⟨b_p0, 0, none⟩))), (1, (.int .i64 p1)), (2, (.string p2)), (3, (.bool p3)), (9, (.slice a78 x77.length c79)), (10, (.slice a_s5 s5.length c_s5)), (11, (.int .i64 (i6 : Int)))]) (En.round ⟨x77, s5, I2, a78, c79, C81, a_s5, c_s5, C_s5, Option.some.inj hr2, rfl, Mem.Le.refl _, hS91, ho83, h_s5⟩) (Sub.cons rfl (Sub.cons rfl (Sub.cons rfl (Sub.cons rfl (Sub.cons rfl (Sub.cons rfl (Sub.cons rfl Sub.nil)))))))
      case restj41 =>
        rintro _ w92 ⟨s62, s63, I43, a_s62, c_s62, C_s62, a_s63, c_s63, C_s63, rfl, rfl, hl44, hS93, h_s62, h_s63⟩
        refine En.in_normal ?_
        refine En.next ?_
        refine W.region (l := [0, 1, 2]) (by kernel_rfl) ?_
        refine WO.vals [(0, 20, (.int .i64 (i6 : Int)))] (by kernel_rfl) (fun _ => by kernel_rfl) ?_
        refine WO.incr (j := i6) rfl (by kernel_rfl) rfl (by first | omega | (dsimp only at *; omega)) ?_
        refine WO.vals [(2, 11, (.int .i64 ((i6 + 1 : Nat) : Int)))] (by kernel_rfl) (fun _ => by kernel_rfl) ?_
        refine WO.nil ?_
        have he := Option.some.inj hr1
        subst x17
        refine En.weaken (fr' := [(0, (.pointer (some ⟨b_p0, 0, none⟩))), (1, (.int .i64 p1)), (2, (.string p2)), (3, (.bool p3)), (9, (.slice a_s62 s62.length c_s62)), (10, (.slice a_s63 s63.length c_s63)), (11, (.int .i64 ((i6 + 1 : Nat) : Int)))]) (En.round ⟨I43, a_s62, c_s62, C_s62, a_s63, c_s63, C_s63, rfl, (hl3.trans hl44), hS93, h_s62, h_s63⟩) (Sub.cons rfl (Sub.cons rfl (Sub.cons rfl (Sub.cons rfl (Sub.cons rfl (Sub.cons rfl (Sub.cons rfl Sub.nil)))))))
  case lastt1 =>
    rintro _ w94 ⟨I2, a_s4, c_s4, C_s4, a_s5, c_s5, C_s5, rfl, hl3, hS95, h_s4, h_s5⟩
    refine W.seq ?_
    refine W.seq ?_
    refine W.region (l := [0, 1, 2, 3, 4, 5, 6]) (by kernel_rfl) ?_
    refine WO.vals [(0, 13, (.int .i64 (p0.L.length : Int))), (1, 14, (.pointer (some ⟨b_p0, 0, none⟩))), (2, 15, (.pointer (some ⟨b_p0, 0, none⟩))), (3, 16, (.pointer (some ⟨b_p0, 0, none⟩)))] (by kernel_rfl) (fun _ => by kernel_rfl) ?_
    refine WO.load rfl (by kernel_rfl) (by kernel_rfl) rfl (v := (.slice w_p0.L.a p0.L.length w_p0.L.c)) (fun w' hw' => cell_one ((rd_f (hS95.rd (List.Mem.head _))) w' hw') (by kernel_rfl)) ?_
    refine WO.vals [(5, 18, (.int .i64 (p0.L.length : Int))), (6, 19, (.bool (decide ((p0.L.length : Int) < (p0.L.length : Int)))))] (by kernel_rfl) (fun _ => by kernel_rfl) ?_
    refine WO.nil ?_
    refine En.next ?_
    refine W.cond (b := (decide ((p0.L.length : Int) < (p0.L.length : Int)))) rfl rfl (fun hc => ?_) (fun hc => ?_)
    · exact absurd hc (by first | (simp; done) | (simp; omega))
    clear hc
    refine W.exit ?_
    refine En.nx_exit ?_
    refine En.rd_exit ?_
    refine En.in_hit ?_
    refine En.next ?_
    refine W.seq ?_
    refine W.region (l := [0, 1, 2, 3, 4]) (by kernel_rfl) ?_
    refine WO.vals [(0, 55, (.pointer (some ⟨b_p0, 0, none⟩))), (1, 56, (.slice a_s4 s4.length c_s4)), (2, 57, (.pointer (some ⟨b_p0, 0, none⟩))), (3, 58, (.pointer (some ⟨b_p0, 0, none⟩)))] (by kernel_rfl) (fun _ => by kernel_rfl) ?_
    refine WO.storeBox hS95 rfl (by kernel_rfl) rfl 0 rfl rfl (by kernel_rfl) (by kernel_rfl) (by kernel_rfl) ((cs_registrarref21_Locks (⟨s4⟩ : registrarref21_Locks) (⟨⟨a_s4, c_s4, C_s4⟩⟩ : W_registrarref21_Locks)).toArray) (by kernel_rfl) (fun _ _ => trivial) ?_
    intro w97 hS96
    have hS98 := hS96.front1
    have hS99 := hS98.drop
    refine WO.nil ?_
    refine En.next ?_
    refine W.seq ?_
    refine W.region (l := [0, 1]) (by kernel_rfl) ?_
    refine WO.vals [(0, 59, (.slice a_s5 s5.length c_s5))] (by kernel_rfl) (fun _ => by kernel_rfl) ?_
    have hS100 := hS99.front2
    obtain ⟨I101, hl102, hS104, hp103⟩ := OwnSl.pub h_s5 hS100
    refine WO.vals [(1, 8, (.slice a_s5 s5.length c_s5))] (by kernel_rfl) (fun _ => by kernel_rfl) ?_
    refine WO.nil ?_
    refine En.next ?_
    refine W.ret ?_
    have hk105 : ok_registrarref21_Locks I101 (⟨s4⟩ : registrarref21_Locks) (⟨⟨a_s4, c_s4, C_s4⟩⟩ : W_registrarref21_Locks) := ⟨(OwnSl.mono h_s4 hl102)⟩
    have he := Option.some.inj hr
    subst r
    exact En.ret1 rfl (.slice a_s5 s5.length c_s5) rfl ⟨I101, a_s5, c_s5, (⟨⟨a_s4, c_s4, C_s4⟩⟩ : W_registrarref21_Locks), rfl, (hl3.trans hl102), hS104, hp103, hk105⟩
noncomputable def registrarref21_Locks_serve (p0 : registrarref21_Locks) (p1 : ByteArray) : Option registrarref21_Locks := (loopO (fun (s : Int × registrarref21_Locks) => match s with | (s4, s5) => (bif (decide (s4 < (s5.L.length : Int))) then ((idx s5.L s4).bind (fun (x14 : registrarref21_One) => (bif ((!sEq x14.Path p1) || x14.Held) then some (.inl s5) else (registrarref21_Locks_blocked s5 p1 x14.Mode).bind (fun (r32 : Bool) => (bif r32 then some (.inr s5) else (idx s5.L s4).bind (fun (x39 : registrarref21_One) => some (.inl (⟨(s5.L.set (s4).toNat ({ x39 with Held := true }))⟩ : registrarref21_Locks)))))))).bind (fun (t : registrarref21_Locks ⊕ registrarref21_Locks) => match t with | (.inl s23) => some (.inl ((w64 (s4 + 1)), s23)) | (.inr s34) => some (.inr (.inl s34))) else some (.inr (.inr s5)))) (0, p0)).bind (fun (t : registrarref21_Locks ⊕ registrarref21_Locks) => match t with | (.inl s36) => some s36 | (.inr s53) => some s53)
set_option maxHeartbeats 1000000 in
theorem registrarref21_Locks_serve_ok {E w : World} {I : Mem} {Os : List Mem} {p0 : registrarref21_Locks} {p1 : ByteArray} {b_p0 : Nat} {w_p0 : W_registrarref21_Locks} (h_p0 : ok_registrarref21_Locks I p0 w_p0) (hS : St E w I ((Gv.one b_p0 (.cells (cs_registrarref21_Locks p0 w_p0).toArray 51 (0, 0))) :: (w_p0.L.C) :: Os)) {r : registrarref21_Locks} (hr : registrarref21_Locks_serve p0 p1 = some r) :
    Calls P 67 #[(.pointer (some ⟨b_p0, 0, none⟩)), (.string p1)] w (fun e w' => ∃ (I' : Mem) (w_rp0 : W_registrarref21_Locks), e = .returned (.tuple #[]) ∧ I.Le I' ∧ St E w' I' ((Gv.one b_p0 (.cells (cs_registrarref21_Locks r w_rp0).toArray 51 (0, 0))) :: w_rp0.L.C :: Os) ∧ ok_registrarref21_Locks I' r w_rp0) := by
  refine calls_W (args := [(.pointer (some ⟨b_p0, 0, none⟩)), (.string p1)]) (fn := Try.f67) rfl rfl rfl ?_
  unfold registrarref21_Locks_serve at hr
  refine W.seq ?_
  refine W.region (l := [0]) (by kernel_rfl) ?_
  refine WO.vals [(0, 4, (.int .i64 0))] (by kernel_rfl) (fun _ => by kernel_rfl) ?_
  refine WO.nil ?_
  refine En.next ?_
  refine W.block ?_
  obtain ⟨t1, hloop6, hr⟩ := bind_some hr
  refine W.weaken (fr' := [(0, (.pointer (some ⟨b_p0, 0, none⟩))), (1, (.string p1)), (4, (.int .i64 0))]) (W.loopO hloop6 (fun (s : Int × registrarref21_Locks) fr w => match s with | (s4, s5) => ∃ (I2 : Mem), ∃ (w_s5 : W_registrarref21_Locks), fr = [(0, (.pointer (some ⟨b_p0, 0, none⟩))), (1, (.string p1)), (4, (.int .i64 s4))] ∧ I.Le I2 ∧ St E w I2 ((Gv.one b_p0 (.cells (cs_registrarref21_Locks s5 w_s5).toArray 51 (0, 0))) :: (w_s5.L.C) :: Os) ∧ ok_registrarref21_Locks I2 s5 w_s5) ⟨I, w_p0, rfl, Mem.Le.refl _, hS, h_p0⟩ ?_) (Sub.cons rfl (Sub.cons rfl (Sub.cons rfl Sub.nil)))
  rintro ⟨s4, s5⟩ _ w7 ⟨I2, w_s5, rfl, hl3, hS8, h_s5⟩ x9 hr1 hext1
  refine W.seq ?_
  refine W.seq ?_
  refine W.region (l := [0, 1, 2, 3, 4, 5, 6]) (by kernel_rfl) ?_
  refine WO.vals [(0, 6, (.int .i64 s4)), (1, 7, (.pointer (some ⟨b_p0, 0, none⟩))), (2, 8, (.pointer (some ⟨b_p0, 0, none⟩))), (3, 9, (.pointer (some ⟨b_p0, 0, none⟩)))] (by kernel_rfl) (fun _ => by kernel_rfl) ?_
  refine WO.load rfl (by kernel_rfl) (by kernel_rfl) rfl (v := (.slice w_s5.L.a s5.L.length w_s5.L.c)) (fun w' hw' => cell_one ((rd_f (hS8.rd (List.Mem.head _))) w' hw') (by kernel_rfl)) ?_
  refine WO.vals [(5, 11, (.int .i64 (s5.L.length : Int))), (6, 12, (.bool (decide (s4 < (s5.L.length : Int)))))] (by kernel_rfl) (fun _ => by kernel_rfl) ?_
  refine WO.nil ?_
  refine En.next ?_
  refine W.cond (b := (decide (s4 < (s5.L.length : Int)))) rfl rfl (fun hc => ?_) (fun hc => ?_)
  · replace hr1 := cond_t hc hr1
    refine W.skip ?_
    refine En.next ?_
    refine W.seq ?_
    obtain ⟨j10, hr2, hr1⟩ := bind_some hr1
    refine W.join (J := (fun fr w => ∃ (s23 : registrarref21_Locks), ∃ (I12 : Mem), ∃ (w_s23 : W_registrarref21_Locks), (.inl s23) = j10 ∧ fr = [(0, (.pointer (some ⟨b_p0, 0, none⟩))), (1, (.string p1)), (4, (.int .i64 s4))] ∧ I2.Le I12 ∧ St E w I12 ((Gv.one b_p0 (.cells (cs_registrarref21_Locks s23 w_s23).toArray 51 (0, 0))) :: (w_s23.L.C) :: Os) ∧ ok_registrarref21_Locks I12 s23 w_s23)) ?restj10 ?waysj10
    case waysj10 =>
      refine W.block ?_
      refine W.seq ?_
      refine W.region (l := [0, 1, 2, 3, 4, 5, 6, 7, 8]) (by kernel_rfl) ?_
      refine WO.vals [(0, 15, (.pointer (some ⟨b_p0, 0, none⟩))), (1, 16, (.pointer (some ⟨b_p0, 0, none⟩))), (2, 17, (.pointer (some ⟨b_p0, 0, none⟩)))] (by kernel_rfl) (fun _ => by kernel_rfl) ?_
      refine WO.load rfl (by kernel_rfl) (by kernel_rfl) rfl (v := (.slice w_s5.L.a s5.L.length w_s5.L.c)) (fun w' hw' => cell_one ((rd_f (hS8.rd (List.Mem.head _))) w' hw') (by kernel_rfl)) ?_
      refine WO.vals [(4, 19, (.int .i64 s4))] (by kernel_rfl) (fun _ => by kernel_rfl) ?_
      obtain ⟨x14, hx_x14, hr2⟩ := bind_some hr2
      obtain ⟨h0_x14, h1_x14, hx_x14⟩ := idx_some hx_x14
      obtain ⟨ha_x14, cs_x14, hn_x14, hr_x14, hc_x14⟩ := (h_s5.L.sl).el _ _ hx_x14
      obtain rfl := hr_x14
      refine WO.indexAddr (e := 98) (sz := 4) rfl (by kernel_rfl) (by kernel_rfl) (by kernel_rfl) rfl ha_x14 rfl h0_x14 h1_x14 ?_
      refine WO.loadN rfl (by kernel_rfl) (by kernel_rfl) rfl ((cs_registrarref21_One x14)) (by kernel_rfl) (fun w' hw' => hc_x14.cells (k := 0) (by kernel_rfl) rfl ((rd_f (hS8.rd (List.Mem.tail _ (List.Mem.head _)))) w' hw')) ?_
      refine WO.new hS8 rfl (by kernel_rfl) rfl (.cells (cs_registrarref21_One z_registrarref21_One).toArray 98 (0, 0)) (fun b => .pointer (some ⟨b, 0, none⟩)) (by kernel_rfl) (fun _ _ _ => trivial) ?_
      intro b15 w18 hS17
      refine WO.storeBox hS17 rfl (by kernel_rfl) rfl 0 rfl rfl (by kernel_rfl) (by kernel_rfl) (by kernel_rfl) ((cs_registrarref21_One x14).toArray) (by kernel_rfl) (fun _ _ => trivial) ?_
      intro w20 hS19
      refine WO.nil ?_
      refine En.next ?_
      refine W.seq ?_
      refine W.seq ?_
      refine W.region (l := [0, 1, 2, 3, 4, 5, 6, 7]) (by kernel_rfl) ?_
      refine WO.vals [(0, 22, (.pointer (some ⟨b15, 2, none⟩)))] (by kernel_rfl) (fun _ => by kernel_rfl) ?_
      refine WO.load rfl (by kernel_rfl) (by kernel_rfl) rfl (v := (.string x14.Path)) (fun w' hw' => cell_one ((rd_f (hS19.rd (List.Mem.head _))) w' hw') (by kernel_rfl)) ?_
      refine WO.vals [(2, 24, (.string p1)), (3, 25, (.bool (!sEq x14.Path p1))), (4, 26, (.bool (!sEq x14.Path p1)))] (by kernel_rfl) (fun _ => by kernel_rfl) ?_
      refine WO.join (l1 := [5, 6, 7]) (l2 := []) (J := fun frx wx => frx = [(29, (.bool ((!sEq x14.Path p1) || x14.Held))), (0, (.pointer (some ⟨b_p0, 0, none⟩))), (1, (.string p1)), (4, (.int .i64 s4)), (5, (.pointer (some ⟨b15, 0, none⟩)))] ∧ w20 = wx) ?restm21 ?waysm21
      case waysm21 =>
        refine WO.caseb (!sEq x14.Path p1) (fun hc => ?_) (fun hc => ?_)
        · skip
          refine WO.reslot 26 rfl (show Value.bool (!sEq x14.Path p1) = Value.bool true by rw [hc]) ?_
          refine WO.pass rfl (by kernel_rfl) rfl ?_
          refine WO.pass rfl (by kernel_rfl) rfl ?_
          refine WO.vals [(7, 29, (.bool true))] (by kernel_rfl) (fun _ => by kernel_rfl) ?_
          refine WO.weaken (fr' := [(29, (.bool ((!sEq x14.Path p1) || x14.Held))), (0, (.pointer (some ⟨b_p0, 0, none⟩))), (1, (.string p1)), (4, (.int .i64 s4)), (5, (.pointer (some ⟨b15, 0, none⟩)))]) (WO.meet ⟨rfl, rfl⟩) (Sub.cons (by rw [hc]; rfl) (Sub.cons rfl (Sub.cons rfl (Sub.cons rfl (Sub.cons rfl Sub.nil)))))
        · skip
          refine WO.reslot 26 rfl (show Value.bool (!sEq x14.Path p1) = Value.bool false by rw [hc]) ?_
          refine WO.vals [(5, 27, (.pointer (some ⟨b15, 3, none⟩)))] (by kernel_rfl) (fun _ => by kernel_rfl) ?_
          refine WO.load rfl (by kernel_rfl) (by kernel_rfl) rfl (v := (.bool x14.Held)) (fun w' hw' => cell_one ((rd_f (hS19.rd (List.Mem.head _))) w' hw') (by kernel_rfl)) ?_
          refine WO.vals [(7, 29, (.bool x14.Held))] (by kernel_rfl) (fun _ => by kernel_rfl) ?_
          refine WO.weaken (fr' := [(29, (.bool ((!sEq x14.Path p1) || x14.Held))), (0, (.pointer (some ⟨b_p0, 0, none⟩))), (1, (.string p1)), (4, (.int .i64 s4)), (5, (.pointer (some ⟨b15, 0, none⟩)))]) (WO.meet ⟨rfl, rfl⟩) (Sub.cons (by rw [hc]; rfl) (Sub.cons rfl (Sub.cons rfl (Sub.cons rfl (Sub.cons rfl Sub.nil)))))
      case restm21 =>
        rintro _ _ ⟨rfl, rfl⟩
        refine WO.nil ?_
        refine En.next ?_
        refine W.cond (b := ((!sEq x14.Path p1) || x14.Held)) rfl rfl (fun hc => ?_) (fun hc => ?_)
        · replace hr2 := cond_t hc hr2
          refine W.exit ?_
          refine En.nx_exit ?_
          refine En.in_hit ?_
          have hS24 := hS19.drop
          refine En.weaken (fr' := [(0, (.pointer (some ⟨b_p0, 0, none⟩))), (1, (.string p1)), (4, (.int .i64 s4))]) (En.round ⟨s5, I2, w_s5, Option.some.inj hr2, rfl, Mem.Le.refl _, hS24, h_s5⟩) (Sub.cons rfl (Sub.cons rfl (Sub.cons rfl Sub.nil)))
        · replace hr2 := cond_f hc hr2
          refine W.skip ?_
          refine En.next ?_
          refine W.seq ?_
          refine W.seq ?_
          refine W.region (l := [0, 1, 2, 3, 4]) (by kernel_rfl) ?_
          refine WO.vals [(0, 30, (.pointer (some ⟨b_p0, 0, none⟩))), (1, 31, (.string p1)), (2, 32, (.pointer (some ⟨b15, 1, none⟩)))] (by kernel_rfl) (fun _ => by kernel_rfl) ?_
          refine WO.load rfl (by kernel_rfl) (by kernel_rfl) rfl (v := (.int .i64 x14.Mode)) (fun w' hw' => cell_one ((rd_f (hS19.rd (List.Mem.head _))) w' hw') (by kernel_rfl)) ?_
          have hS25 := hS19.front2
          have hS26 := hS25.front2
          obtain ⟨r32, hx_r27, hr2⟩ := bind_some hr2
          refine WO.call rfl (by kernel_rfl) rfl (f := 65) (args := #[(.pointer (some ⟨b_p0, 0, none⟩)), (.string p1), (.int .i64 x14.Mode)]) (by kernel_rfl) (registrarref21_Locks_blocked_ok h_s5 hS26 hx_r27) ?_
          rintro _ w28 ⟨I29, rfl, hl30, hS31⟩
          refine ⟨_, rfl, trivial, ?_⟩
          refine WO.nil ?_
          refine En.next ?_
          refine W.cond (b := r32) rfl rfl (fun hc => ?_) (fun hc => ?_)
          · replace hr2 := cond_t hc hr2
            refine W.ret ?_
            refine En.nx_ret ?_
            refine En.in_ret ?_
            refine En.rd_ret ?_
            have ht := Option.some.inj hr2
            subst j10
            refine En.nx_ret ?_
            refine En.rd_ret ?_
            have ht := hext1 _ (Option.some.inj hr1).symm
            subst t1
            refine En.in_ret ?_
            have hS37 := hS31.front2
            have hS38 := hS37.drop
            have he := Option.some.inj hr
            subst r
            exact En.ret0 rfl ⟨I29, w_s5, rfl, (hl3.trans hl30), hS38, (h_s5.mono hl30)⟩
          · replace hr2 := cond_f hc hr2
            refine W.skip ?_
            refine En.next ?_
            refine W.region (l := [0, 1, 2, 3, 4, 5, 6, 7]) (by kernel_rfl) ?_
            refine WO.vals [(0, 35, (.pointer (some ⟨b_p0, 0, none⟩))), (1, 36, (.pointer (some ⟨b_p0, 0, none⟩))), (2, 37, (.pointer (some ⟨b_p0, 0, none⟩)))] (by kernel_rfl) (fun _ => by kernel_rfl) ?_
            refine WO.load rfl (by kernel_rfl) (by kernel_rfl) rfl (v := (.slice w_s5.L.a s5.L.length w_s5.L.c)) (fun w' hw' => cell_one ((rd_f (hS31.rd (List.Mem.head _))) w' hw') (by kernel_rfl)) ?_
            refine WO.vals [(4, 39, (.int .i64 s4))] (by kernel_rfl) (fun _ => by kernel_rfl) ?_
            obtain ⟨x39, hx_x39, hr2⟩ := bind_some hr2
            obtain ⟨h0_x39, h1_x39, hx_x39⟩ := idx_some hx_x39
            obtain ⟨ha_x39, cs_x39, hn_x39, hr_x39, hc_x39⟩ := ((h_s5.L.mono hl30).sl).el _ _ hx_x39
            obtain rfl := hr_x39
            refine WO.indexAddr (e := 98) (sz := 4) rfl (by kernel_rfl) (by kernel_rfl) (by kernel_rfl) rfl ha_x39 rfl h0_x39 h1_x39 ?_
            refine WO.vals [(6, 41, (.pointer (some ⟨bl w_s5.L.a, of w_s5.L.a + (s4).toNat * 4 + 3, none⟩)))] (by kernel_rfl) (fun _ => by kernel_rfl) ?_
            have hS40 := hS31.front1
            refine WO.storeOwn hS40 (OwnSl.mono h_s5.L hl30) rfl (by kernel_rfl) rfl hx_x39 (u' := { x39 with Held := true }) 3 rfl rfl (by kernel_rfl) rfl rfl (fun cs hrel => (by obtain rfl := hrel; exact rfl)) (fun _ _ _ => trivial) ?_
            intro w42 C43 hS41 ho44
            refine WO.reslot 38 rfl (show Value.slice w_s5.L.a s5.L.length w_s5.L.c = Value.slice w_s5.L.a (s5.L.set (s4).toNat ({ x39 with Held := true })).length w_s5.L.c by simp only [List.length_set]) ?_
            have hS45 : St E w42 I29 ((C43) :: (Gv.one b_p0 (.cells (cs_registrarref21_Locks (⟨(s5.L.set (s4).toNat ({ x39 with Held := true }))⟩ : registrarref21_Locks) (⟨⟨w_s5.L.a, w_s5.L.c, C43⟩⟩ : W_registrarref21_Locks)).toArray 51 (0, 0))) :: (Gv.one b15 (.cells (cs_registrarref21_One x14).toArray 98 (0, 0))) :: Os) := by have hq := hS41; simp only [cs_registrarref21_Locks, List.length_set] at hq ⊢; exact hq
            refine WO.nil ?_
            refine En.in_normal ?_
            have hk46 : ok_registrarref21_Locks I29 (⟨(s5.L.set (s4).toNat ({ x39 with Held := true }))⟩ : registrarref21_Locks) (⟨⟨w_s5.L.a, w_s5.L.c, C43⟩⟩ : W_registrarref21_Locks) := ⟨ho44⟩
            have hS47 := hS45.front2
            have hS48 := hS47.drop
            have hS49 := hS48.front1
            refine En.weaken (fr' := [(0, (.pointer (some ⟨b_p0, 0, none⟩))), (1, (.string p1)), (4, (.int .i64 s4))]) (En.round ⟨(⟨(s5.L.set (s4).toNat ({ x39 with Held := true }))⟩ : registrarref21_Locks), I29, (⟨⟨w_s5.L.a, w_s5.L.c, C43⟩⟩ : W_registrarref21_Locks), Option.some.inj hr2, rfl, hl30, hS49, hk46⟩) (Sub.cons rfl (Sub.cons rfl (Sub.cons rfl Sub.nil)))
    case restj10 =>
      rintro _ w50 ⟨s23, I12, w_s23, rfl, rfl, hl13, hS51, h_s23⟩
      refine En.next ?_
      refine W.region (l := [0, 1, 2]) (by kernel_rfl) ?_
      refine WO.vals [(0, 13, (.int .i64 s4)), (1, 14, (.int .i64 (w64 (s4 + 1)))), (2, 4, (.int .i64 (w64 (s4 + 1))))] (by kernel_rfl) (fun _ => by kernel_rfl) ?_
      refine WO.nil ?_
      refine En.weaken (fr' := [(0, (.pointer (some ⟨b_p0, 0, none⟩))), (1, (.string p1)), (4, (.int .i64 (w64 (s4 + 1))))]) (En.round ⟨((w64 (s4 + 1)), s23), (Option.some.inj hr1).symm, I12, w_s23, rfl, (hl3.trans hl13), hS51, h_s23⟩) (Sub.cons rfl (Sub.cons rfl (Sub.cons rfl Sub.nil)))
  · replace hr1 := cond_f hc hr1
    refine W.exit ?_
    refine En.nx_exit ?_
    refine En.rd_exit ?_
    have ht := hext1 _ (Option.some.inj hr1).symm
    subst t1
    refine En.in_hit ?_
    refine En.toRet ?_
    have he := Option.some.inj hr
    subst r
    exact En.ret0 rfl ⟨I2, w_s5, rfl, hl3, hS8, h_s5⟩
noncomputable def registrarref21_Locks_Free (p0 : registrarref21_Locks) (p1 : Int) (p2 : ByteArray) : Option (Int × registrarref21_Locks) := (bif ((decide (p1 < 1)) || (decide (p1 > 8))) then some (2, p0) else (registrarref21_Locks_drop p0 p1 p2 false).bind (fun ((r10, r11) : (List ByteArray) × registrarref21_Locks) => (bif ((r10.length : Int) == 0) then some (4, r11) else (registrarref21_Locks_serve r11 p2).bind (fun (r19 : registrarref21_Locks) => some (0, r19)))))
set_option maxHeartbeats 1000000 in
theorem registrarref21_Locks_Free_ok {E w : World} {I : Mem} {Os : List Mem} {p0 : registrarref21_Locks} {p1 : Int} {p2 : ByteArray} {b_p0 : Nat} {w_p0 : W_registrarref21_Locks} (h_p0 : ok_registrarref21_Locks I p0 w_p0) (hS : St E w I ((Gv.one b_p0 (.cells (cs_registrarref21_Locks p0 w_p0).toArray 51 (0, 0))) :: (w_p0.L.C) :: Os)) {r : Int × registrarref21_Locks} (hr : registrarref21_Locks_Free p0 p1 p2 = some r) :
    Calls P 41 #[(.pointer (some ⟨b_p0, 0, none⟩)), (.int .i64 p1), (.string p2)] w (fun e w' => ∃ (I' : Mem) (w_rp0 : W_registrarref21_Locks), e = .returned (.int .i64 r.1) ∧ I.Le I' ∧ St E w' I' ((Gv.one b_p0 (.cells (cs_registrarref21_Locks r.2 w_rp0).toArray 51 (0, 0))) :: w_rp0.L.C :: Os) ∧ ok_registrarref21_Locks I' r.2 w_rp0) := by
  refine calls_W (args := [(.pointer (some ⟨b_p0, 0, none⟩)), (.int .i64 p1), (.string p2)]) (fn := Try.f41) rfl rfl rfl ?_
  unfold registrarref21_Locks_Free at hr
  refine W.seq ?_
  refine W.region (l := [0]) (by kernel_rfl) ?_
  refine WO.vals [(0, 6, (.int .i64 0))] (by kernel_rfl) (fun _ => by kernel_rfl) ?_
  refine WO.nil ?_
  refine En.next ?_
  refine W.seq ?_
  refine W.seq ?_
  refine W.region (l := [0, 1, 2, 3, 4, 5]) (by kernel_rfl) ?_
  refine WO.vals [(0, 7, (.int .i64 p1)), (1, 8, (.bool (decide (p1 < 1)))), (2, 9, (.bool (decide (p1 < 1))))] (by kernel_rfl) (fun _ => by kernel_rfl) ?_
  refine WO.join (l1 := [3, 4, 5]) (l2 := []) (J := fun frx wx => frx = [(12, (.bool ((decide (p1 < 1)) || (decide (p1 > 8))))), (0, (.pointer (some ⟨b_p0, 0, none⟩))), (1, (.int .i64 p1)), (2, (.string p2))] ∧ w = wx) ?restm1 ?waysm1
  case waysm1 =>
    refine WO.caseb (decide (p1 < 1)) (fun hc => ?_) (fun hc => ?_)
    · skip
      refine WO.reslot 9 rfl (show Value.bool (decide (p1 < 1)) = Value.bool true by rw [hc]) ?_
      refine WO.pass rfl (by kernel_rfl) rfl ?_
      refine WO.pass rfl (by kernel_rfl) rfl ?_
      refine WO.vals [(5, 12, (.bool true))] (by kernel_rfl) (fun _ => by kernel_rfl) ?_
      refine WO.weaken (fr' := [(12, (.bool ((decide (p1 < 1)) || (decide (p1 > 8))))), (0, (.pointer (some ⟨b_p0, 0, none⟩))), (1, (.int .i64 p1)), (2, (.string p2))]) (WO.meet ⟨rfl, rfl⟩) (Sub.cons (by rw [hc]; rfl) (Sub.cons rfl (Sub.cons rfl (Sub.cons rfl Sub.nil))))
    · skip
      refine WO.reslot 9 rfl (show Value.bool (decide (p1 < 1)) = Value.bool false by rw [hc]) ?_
      refine WO.vals [(3, 10, (.int .i64 p1)), (4, 11, (.bool (decide (p1 > 8)))), (5, 12, (.bool (decide (p1 > 8))))] (by kernel_rfl) (fun _ => by kernel_rfl) ?_
      refine WO.weaken (fr' := [(12, (.bool ((decide (p1 < 1)) || (decide (p1 > 8))))), (0, (.pointer (some ⟨b_p0, 0, none⟩))), (1, (.int .i64 p1)), (2, (.string p2))]) (WO.meet ⟨rfl, rfl⟩) (Sub.cons (by rw [hc]; rfl) (Sub.cons rfl (Sub.cons rfl (Sub.cons rfl Sub.nil))))
  case restm1 =>
    rintro _ _ ⟨rfl, rfl⟩
    refine WO.nil ?_
    refine En.next ?_
    refine W.cond (b := ((decide (p1 < 1)) || (decide (p1 > 8)))) rfl rfl (fun hc => ?_) (fun hc => ?_)
    · replace hr := cond_t hc hr
      refine W.seq ?_
      refine W.region (l := [0]) (by kernel_rfl) ?_
      refine WO.vals [(0, 6, (.int .i64 2))] (by kernel_rfl) (fun _ => by kernel_rfl) ?_
      refine WO.nil ?_
      refine En.next ?_
      refine W.ret ?_
      refine En.nx_ret ?_
      have he := Option.some.inj hr
      subst r
      exact En.ret1 rfl (.int .i64 2) rfl ⟨I, w_p0, rfl, Mem.Le.refl _, hS, h_p0⟩
    · replace hr := cond_f hc hr
      refine W.skip ?_
      refine En.next ?_
      refine W.seq ?_
      refine W.seq ?_
      refine W.region (l := [0, 1, 2, 3, 4, 5]) (by kernel_rfl) ?_
      refine WO.vals [(0, 13, (.pointer (some ⟨b_p0, 0, none⟩))), (1, 14, (.int .i64 p1)), (2, 15, (.string p2))] (by kernel_rfl) (fun _ => by kernel_rfl) ?_
      have hS3 := hS.front1
      have hS4 := hS3.front1
      obtain ⟨⟨r10, r11⟩, hx_r5, hr⟩ := bind_some hr
      refine WO.call rfl (by kernel_rfl) rfl (f := 66) (args := #[(.pointer (some ⟨b_p0, 0, none⟩)), (.int .i64 p1), (.string p2), (.bool false)]) (by kernel_rfl) (registrarref21_Locks_drop_ok h_p0 hS4 hx_r5) ?_
      rintro _ w6 ⟨I7, a_r10, c_r10, w_r11, rfl, hl8, hS9, h_r10, h_r11⟩
      refine ⟨_, rfl, trivial, ?_⟩
      refine WO.vals [(4, 17, (.int .i64 (r10.length : Int))), (5, 18, (.bool ((r10.length : Int) == 0)))] (by kernel_rfl) (fun _ => by kernel_rfl) ?_
      refine WO.nil ?_
      refine En.next ?_
      refine W.cond (b := ((r10.length : Int) == 0)) rfl rfl (fun hc => ?_) (fun hc => ?_)
      · replace hr := cond_t hc hr
        refine W.seq ?_
        refine W.region (l := [0]) (by kernel_rfl) ?_
        refine WO.vals [(0, 6, (.int .i64 4))] (by kernel_rfl) (fun _ => by kernel_rfl) ?_
        refine WO.nil ?_
        refine En.next ?_
        refine W.ret ?_
        refine En.nx_ret ?_
        have he := Option.some.inj hr
        subst r
        exact En.ret1 rfl (.int .i64 4) rfl ⟨I7, w_r11, rfl, hl8, hS9, h_r11⟩
      · replace hr := cond_f hc hr
        refine W.skip ?_
        refine En.next ?_
        refine W.seq ?_
        refine W.region (l := [0, 1, 2]) (by kernel_rfl) ?_
        refine WO.vals [(0, 19, (.pointer (some ⟨b_p0, 0, none⟩))), (1, 20, (.string p2))] (by kernel_rfl) (fun _ => by kernel_rfl) ?_
        have hS12 := hS9.front1
        have hS13 := hS12.front1
        obtain ⟨r19, hx_r14, hr⟩ := bind_some hr
        refine WO.call rfl (by kernel_rfl) rfl (f := 67) (args := #[(.pointer (some ⟨b_p0, 0, none⟩)), (.string p2)]) (by kernel_rfl) (registrarref21_Locks_serve_ok h_r11 hS13 hx_r14) ?_
        rintro _ w15 ⟨I16, w_r19, rfl, hl17, hS18, h_r19⟩
        refine ⟨_, rfl, trivial, ?_⟩
        refine WO.nil ?_
        refine En.next ?_
        refine W.seq ?_
        refine W.region (l := [0]) (by kernel_rfl) ?_
        refine WO.vals [(0, 6, (.int .i64 0))] (by kernel_rfl) (fun _ => by kernel_rfl) ?_
        refine WO.nil ?_
        refine En.next ?_
        refine W.ret ?_
        have he := Option.some.inj hr
        subst r
        exact En.ret1 rfl (.int .i64 0) rfl ⟨I16, w_r19, rfl, (hl8.trans hl17), hS18, h_r19⟩
theorem keys30_ok {E w : World} {I : Mem} {Os : List Mem} {m : Nat} (hS : St E w I Os) : Calls P 30 #[.map (some m)] w (fun e w' => ∃ b, e = .returned (.func (.func 59) #[] #[.pointer (some ⟨b, 0, none⟩)]) ∧ St E w' I (Gv.one b (.cells #[.map (some m)] 54 (0, 0)) :: Os)) := by
  refine (Try.maps_Keys_30 (some m) w).mono ?_
  rintro e w' ⟨rfl, rfl⟩
  exact ⟨_, rfl, hS.alloc _⟩
theorem sorted29_30_ok {ν : Type} {val : Mem → Value → ν → Prop} {E w : World} {I C : Mem} {Os : List Mem} {m b : Nat} {l : List (ByteArray × ν)} (h : OwnMap Value.string val I C m l) (hS : St E w I (Gv.one b (.cells #[.map (some m)] 54 (0, 0)) :: C :: Os)) {r : List ByteArray} (hr : keysO l = some r) :
    Calls P 29 #[.func (.func 59) #[] #[.pointer (some ⟨b, 0, none⟩)]] w (fun e w' => ∃ (I' : Mem) (a : Option Addr) (c : Nat), e = .returned (.slice a r.length c) ∧ I.Le I' ∧ St E w' I' (Gv.one b (.cells #[.map (some m)] 54 (0, 0)) :: C :: Os) ∧ RSl 1 RStr I' a c r) :=
  keys_own h hS (kt := 9) (by kernel_rfl) (fun b' nn D0 R w h1 h2 h3 h4 h5 => Try.sortedAt29_30 b b' nn D0 R w h1 h2 h3 h4 h5) hr
def mdl_Locks_Paths (p0 : mdl_Locks) : Option (List ByteArray) := (mdl_Locks_dead p0).bind (fun (r8 : Bool) => (keysO p0.at_).bind (fun (r15 : List ByteArray) => some r15))
set_option maxHeartbeats 1000000 in
theorem mdl_Locks_Paths_ok {E w : World} {I : Mem} {Os : List Mem} {p0 : mdl_Locks} {b_p0 : Nat} {w_p0 : W_mdl_Locks} (h_p0 : ok_mdl_Locks I p0 w_p0) (hS : St E w I ((Gv.one b_p0 (.cells (cs_mdl_Locks p0 w_p0).toArray 56 (0, 0))) :: (w_p0.at_.C) :: Os)) {r : (List ByteArray)} (hr : mdl_Locks_Paths p0 = some r) :
    Calls P 11 #[(.pointer (some ⟨b_p0, 0, none⟩))] w (fun e w' => ∃ (I' : Mem) (ra0 : Option Addr) (rc0 : Nat), e = .returned (.slice ra0 r.length rc0) ∧ I.Le I' ∧ St E w' I' ((Gv.one b_p0 (.cells (cs_mdl_Locks p0 w_p0).toArray 56 (0, 0))) :: w_p0.at_.C :: Os) ∧ RSl 1 RStr I' ra0 rc0 r) := by
  refine calls_W (args := [(.pointer (some ⟨b_p0, 0, none⟩))]) (fn := Try.f11) rfl rfl rfl ?_
  unfold mdl_Locks_Paths at hr
  refine W.seq ?_
  refine W.region (l := [0]) (by kernel_rfl) ?_
  refine WO.vals [(0, 2, (.slice none 0 0))] (by kernel_rfl) (fun _ => by kernel_rfl) ?_
  refine WO.nil ?_
  refine En.next ?_
  refine W.seq ?_
  refine W.seq ?_
  refine W.region (l := [0, 1]) (by kernel_rfl) ?_
  refine WO.vals [(0, 3, (.pointer (some ⟨b_p0, 0, none⟩)))] (by kernel_rfl) (fun _ => by kernel_rfl) ?_
  have hS1 := hS.front1
  have hS2 := hS1.front1
  obtain ⟨r8, hx_r3, hr⟩ := bind_some hr
  obtain rfl : false = r8 := Option.some.inj hx_r3
  refine WO.call rfl (by kernel_rfl) rfl (f := 28) (args := #[(.pointer (some ⟨b_p0, 0, none⟩))]) (by kernel_rfl) (mdl_Locks_dead_ok h_p0 hS2 hx_r3) ?_
  rintro _ w4 ⟨I5, rfl, hl6, hS7⟩
  refine ⟨_, rfl, trivial, ?_⟩
  refine WO.nil ?_
  refine En.next ?_
  refine W.cond (b := false) rfl rfl (fun hc => ?_) (fun hc => ?_)
  · cases hc
  clear hc
  refine W.skip ?_
  refine En.next ?_
  refine W.seq ?_
  refine W.region (l := [0, 1, 2, 3, 4, 5, 6]) (by kernel_rfl) ?_
  refine WO.vals [(0, 5, (.pointer (some ⟨b_p0, 0, none⟩))), (1, 6, (.pointer (some ⟨b_p0, 0, none⟩))), (2, 7, (.pointer (some ⟨b_p0, 0, none⟩)))] (by kernel_rfl) (fun _ => by kernel_rfl) ?_
  refine WO.load rfl (by kernel_rfl) (by kernel_rfl) rfl (v := (.map (some w_p0.at_.m))) (fun w' hw' => cell_one ((rd_f (hS7.rd (List.Mem.head _))) w' hw') (by kernel_rfl)) ?_
  refine WO.call rfl (by kernel_rfl) rfl (f := 30) (args := #[(.map (some w_p0.at_.m))]) (by kernel_rfl) (keys30_ok hS7) ?_
  rintro _ w11 ⟨b9, rfl, hS10⟩
  refine ⟨_, rfl, trivial, ?_⟩
  have hS13 := hS10.front2
  have hS14 := hS13.front1
  obtain ⟨r15, hx16, hr⟩ := bind_some hr
  refine WO.call rfl (by kernel_rfl) rfl (f := 29) (args := #[(.func (.func 59) #[] #[(.pointer (some ⟨b9, 0, none⟩))])]) (by kernel_rfl) (sorted29_30_ok (OwnMap.mono h_p0.at_ hl6) hS14 hx16) ?_
  rintro _ w23 ⟨I17, a18, c19, rfl, hl20, hS21, hp22⟩
  refine ⟨_, rfl, trivial, ?_⟩
  refine WO.vals [(6, 2, (.slice a18 r15.length c19))] (by kernel_rfl) (fun _ => by kernel_rfl) ?_
  refine WO.nil ?_
  refine En.next ?_
  refine W.ret ?_
  have hS24 := hS21.drop
  have hS25 := hS24.front1
  have he := Option.some.inj hr
  subst r
  exact En.ret1 rfl (.slice a18 r15.length c19) rfl ⟨I17, a18, c19, rfl, (hl6.trans hl20), hS25, hp22⟩
noncomputable def mdl_Locks_Leave (p0 : mdl_Locks) (p1 : Int) : Option (Int × mdl_Locks) := (mdl_Locks_check p0 p1).bind (fun (r8 : Int) => (bif (r8 != 0) then some (r8, p0) else (mdl_Locks_Paths p0).bind (fun (r16 : List ByteArray) => (forE (fun (i21 : Nat) => fun (s20 : mdl_Locks) => (idx r16 (i21 : Int)).bind (fun (x28 : ByteArray) => (some ((mget sEq s20.at_ x28).getD z_mdl_place)).bind (fun (x29 : mdl_place) => (mdl_without x29.held p1).bind (fun (r43 : List mdl_one) => (mdl_without x29.queue p1).bind (fun (r49 : List mdl_one) => (mdl_Locks_serve s20 x28 (⟨r43, r49⟩ : mdl_place)).bind (fun (r62 : mdl_Locks) => some r62)))))) r16.length 0 p0).bind (fun (s20 : mdl_Locks) => some (0, s20)))))
set_option maxHeartbeats 1000000 in
theorem mdl_Locks_Leave_ok {E w : World} {I : Mem} {Os : List Mem} {p0 : mdl_Locks} {p1 : Int} {b_p0 : Nat} {w_p0 : W_mdl_Locks} (h_p0 : ok_mdl_Locks I p0 w_p0) (hS : St E w I ((Gv.one b_p0 (.cells (cs_mdl_Locks p0 w_p0).toArray 56 (0, 0))) :: (w_p0.at_.C) :: Os)) {r : Int × mdl_Locks} (hr : mdl_Locks_Leave p0 p1 = some r) :
    Calls P 21 #[(.pointer (some ⟨b_p0, 0, none⟩)), (.int .i64 p1)] w (fun e w' => ∃ (I' : Mem) (w_rp0 : W_mdl_Locks), e = .returned (.int .i64 r.1) ∧ I.Le I' ∧ St E w' I' ((Gv.one b_p0 (.cells (cs_mdl_Locks r.2 w_rp0).toArray 56 (0, 0))) :: w_rp0.at_.C :: Os) ∧ ok_mdl_Locks I' r.2 w_rp0) := by
  refine calls_W (args := [(.pointer (some ⟨b_p0, 0, none⟩)), (.int .i64 p1)]) (fn := Try.f21) rfl rfl rfl ?_
  unfold mdl_Locks_Leave at hr
  refine W.seq ?_
  refine W.region (l := [0]) (by kernel_rfl) ?_
  refine WO.vals [(0, 4, (.int .i64 0))] (by kernel_rfl) (fun _ => by kernel_rfl) ?_
  refine WO.nil ?_
  refine En.next ?_
  refine W.seq ?_
  refine W.seq ?_
  refine W.region (l := [0, 1, 2, 3]) (by kernel_rfl) ?_
  refine WO.vals [(0, 9, (.pointer (some ⟨b_p0, 0, none⟩))), (1, 10, (.int .i64 p1))] (by kernel_rfl) (fun _ => by kernel_rfl) ?_
  have hS1 := hS.front1
  have hS2 := hS1.front1
  obtain ⟨r8, hx_r3, hr⟩ := bind_some hr
  refine WO.call rfl (by kernel_rfl) rfl (f := 37) (args := #[(.pointer (some ⟨b_p0, 0, none⟩)), (.int .i64 p1)]) (by kernel_rfl) (mdl_Locks_check_ok h_p0 hS2 hx_r3) ?_
  rintro _ w4 ⟨I5, rfl, hl6, hS7⟩
  refine ⟨_, rfl, trivial, ?_⟩
  refine WO.vals [(3, 5, (.int .i64 r8))] (by kernel_rfl) (fun _ => by kernel_rfl) ?_
  refine WO.nil ?_
  refine En.next ?_
  refine W.seq ?_
  refine W.region (l := [0, 1]) (by kernel_rfl) ?_
  refine WO.vals [(0, 12, (.int .i64 r8)), (1, 13, (.bool (r8 != 0)))] (by kernel_rfl) (fun _ => by kernel_rfl) ?_
  refine WO.nil ?_
  refine En.next ?_
  refine W.cond (b := (r8 != 0)) rfl rfl (fun hc => ?_) (fun hc => ?_)
  · replace hr := cond_t hc hr
    refine W.seq ?_
    refine W.region (l := [0, 1]) (by kernel_rfl) ?_
    refine WO.vals [(0, 14, (.int .i64 r8)), (1, 4, (.int .i64 r8))] (by kernel_rfl) (fun _ => by kernel_rfl) ?_
    refine WO.nil ?_
    refine En.next ?_
    refine W.ret ?_
    refine En.nx_ret ?_
    have he := Option.some.inj hr
    subst r
    exact En.ret1 rfl (.int .i64 r8) rfl ⟨I5, w_p0, rfl, hl6, hS7, (h_p0.mono hl6)⟩
  · replace hr := cond_f hc hr
    refine W.skip ?_
    refine En.next ?_
    refine W.seq ?_
    refine W.seq ?_
    refine W.region (l := [0, 1, 2, 3]) (by kernel_rfl) ?_
    refine WO.vals [(0, 15, (.pointer (some ⟨b_p0, 0, none⟩)))] (by kernel_rfl) (fun _ => by kernel_rfl) ?_
    have hS9 := hS7.front1
    have hS10 := hS9.front1
    obtain ⟨r16, hx_r11, hr⟩ := bind_some hr
    refine WO.call rfl (by kernel_rfl) rfl (f := 11) (args := #[(.pointer (some ⟨b_p0, 0, none⟩))]) (by kernel_rfl) (mdl_Locks_Paths_ok (h_p0.mono hl6) hS10 hx_r11) ?_
    rintro _ w12 ⟨I13, a_r16, c_r16, rfl, hl14, hS15, h_r16⟩
    refine ⟨_, rfl, trivial, ?_⟩
    refine WO.vals [(2, 17, (.int .i64 (r16.length : Int))), (3, 18, (.int .i64 0))] (by kernel_rfl) (fun _ => by kernel_rfl) ?_
    refine WO.nil ?_
    refine En.next ?_
    refine W.block ?_
    obtain ⟨s20, hloop22, hr⟩ := bind_some hr
    have hlt26 := (h_r16).len_lt
    refine W.weaken (fr' := [(0, (.pointer (some ⟨b_p0, 0, none⟩))), (1, (.int .i64 p1)), (16, (.slice a_r16 r16.length c_r16)), (17, (.int .i64 (r16.length : Int))), (18, (.int .i64 ((0 : Nat) : Int)))]) (W.forE (m := r16.length) hloop22 (fun (i21 : Nat) => fun (s20 : mdl_Locks) fr w => ∃ (I18 : Mem), ∃ (w_s20 : W_mdl_Locks), fr = [(0, (.pointer (some ⟨b_p0, 0, none⟩))), (1, (.int .i64 p1)), (16, (.slice a_r16 r16.length c_r16)), (17, (.int .i64 (r16.length : Int))), (18, (.int .i64 (i21 : Int)))] ∧ I13.Le I18 ∧ St E w I18 ((Gv.one b_p0 (.cells (cs_mdl_Locks s20 w_s20).toArray 56 (0, 0))) :: (w_s20.at_.C) :: Os) ∧ ok_mdl_Locks I18 s20 w_s20) ⟨I13, w_p0, rfl, Mem.Le.refl _, hS15, (h_p0.mono (hl6.trans hl14))⟩ ?roundt17 ?lastt17) (Sub.cons rfl (Sub.cons rfl (Sub.cons rfl (Sub.cons rfl (Sub.cons rfl Sub.nil)))))
    case roundt17 =>
      rintro i21 s20 _ w23 hi27 ⟨I18, w_s20, rfl, hl19, hS24, h_s20⟩ x25 hr1
      refine W.seq ?_
      refine W.region (l := [0]) (by kernel_rfl) ?_
      refine WO.vals [(0, 19, (.bool (decide ((i21 : Int) < (r16.length : Int)))))] (by kernel_rfl) (fun _ => by kernel_rfl) ?_
      refine WO.nil ?_
      refine En.next ?_
      refine W.seq ?_
      refine W.cond (b := (decide ((i21 : Int) < (r16.length : Int)))) rfl rfl (fun hc => ?_) (fun hc => ?_)
      rotate_left
      · exact absurd hc (by first | (simp; done) | (simp; omega))
      clear hc
      refine W.skip ?_
      refine En.next ?_
      refine W.seq ?_
      refine W.block ?_
      refine W.seq ?_
      refine W.region (l := [0, 1, 2]) (by kernel_rfl) ?_
      obtain ⟨x28, hx_x28, hr1⟩ := bind_some hr1
      obtain ⟨h0_x28, h1_x28, hx_x28⟩ := idx_some hx_x28
      obtain ⟨ha_x28, cs_x28, hn_x28, hr_x28, hc_x28⟩ := ((RSl.mono h_r16 hl19)).el _ _ hx_x28
      obtain rfl := hr_x28
      refine WO.indexAddr (e := 9) (sz := 1) rfl (by kernel_rfl) (by kernel_rfl) (by kernel_rfl) rfl ha_x28 rfl h0_x28 h1_x28 ?_
      refine WO.load rfl (by kernel_rfl) (by kernel_rfl) rfl (v := (.string x28)) (fun w' hw' => hc_x28.cell0 (by kernel_rfl) ((rd_f hS24.im) w' hw')) ?_
      refine WO.vals [(2, 7, (.string x28))] (by kernel_rfl) (fun _ => by kernel_rfl) ?_
      refine WO.nil ?_
      refine En.next ?_
      refine W.seq ?_
      refine W.region (l := [0, 1, 2, 3, 4, 5, 6, 7]) (by kernel_rfl) ?_
      refine WO.vals [(0, 22, (.pointer (some ⟨b_p0, 0, none⟩))), (1, 23, (.pointer (some ⟨b_p0, 0, none⟩))), (2, 24, (.pointer (some ⟨b_p0, 0, none⟩)))] (by kernel_rfl) (fun _ => by kernel_rfl) ?_
      refine WO.load rfl (by kernel_rfl) (by kernel_rfl) rfl (v := (.map (some w_s20.at_.m))) (fun w' hw' => cell_one ((rd_f (hS24.rd (List.Mem.head _))) w' hw') (by kernel_rfl)) ?_
      refine WO.vals [(4, 26, (.string x28))] (by kernel_rfl) (fun _ => by kernel_rfl) ?_
      obtain ⟨x29, hx_x29, hr1⟩ := bind_some hr1
      obtain ⟨v_x29, hv_x29, hq_x29⟩ := OwnMap.lookup h_s20.at_ (t := 54) (kt := 9) (et := 68) (by kernel_rfl) (keyLaw_str (kt := 9) (by kernel_rfl)) x28 (zv := (.agg (cs_mdl_place z_mdl_place zw_mdl_place).toArray)) (z0 := z_mdl_place) (by kernel_rfl) ⟨(cs_mdl_place z_mdl_place zw_mdl_place), rfl, ⟨zw_mdl_place, rfl, zok_mdl_place⟩⟩
      rw [Option.some.inj hx_x29] at hv_x29
      obtain ⟨_, rfl, hv_x29⟩ := hv_x29
      obtain ⟨w_x29, rfl, h_x29⟩ := hv_x29
      refine WO.lookup rfl (by kernel_rfl) rfl rfl hq_x29 ((rd_f (hS24.rd (List.Mem.tail _ (List.Mem.head _))))) (.agg (cs_mdl_place x29 w_x29).toArray) rfl ?_
      refine WO.new hS24 rfl (by kernel_rfl) rfl (.cells (cs_mdl_place z_mdl_place zw_mdl_place).toArray 68 (0, 0)) (fun b => .pointer (some ⟨b, 0, none⟩)) (by kernel_rfl) (fun _ _ _ => trivial) ?_
      intro b30 w33 hS32
      refine WO.storeBox hS32 rfl (by kernel_rfl) rfl 0 rfl rfl (by kernel_rfl) (by kernel_rfl) (by kernel_rfl) ((cs_mdl_place x29 w_x29).toArray) (by kernel_rfl) (fun _ _ => trivial) ?_
      intro w35 hS34
      refine WO.nil ?_
      refine En.next ?_
      refine W.seq ?_
      have hS36 := hS34.drew
      refine W.draw (l := [0, 1, 2, 3, 4, 5, 6, 7, 8, 9, 10, 11]) (by kernel_rfl) 9 (KR I18 [Gv.one b30 (.cells (cs_mdl_place x29 w_x29).toArray 68 (0, 0))]) qR (.ords [0, 1, 2, 3, 4, 5, 6, 7, 8, 9, 10, 11] [0, 1, 2, 3, 4, 5, 6, 7, 8, 9, 10, 11] (by kernel_rfl) (by kernel_rfl) (by kernel_rfl) (by kernel_rfl) (by kernel_rfl)) (by kernel_rfl) (KR.cons (hS36.rd (List.Mem.head _)) (KR.nil hS36.im)) ?_
      generalize World.drew _ = w37 at *
      refine WO.vals [(0, 28, (.pointer (some ⟨b30, 0, none⟩)))] (by kernel_rfl) (fun _ => by kernel_rfl) ?_
      refine WO.load rfl (by kernel_rfl) (by kernel_rfl) rfl (v := (.slice w_x29.held.a x29.held.length w_x29.held.c)) (fun w' hw' => cell_one ((rd_c (List.Mem.head _) (hS36.rd (List.Mem.head _))) w' hw') (by kernel_rfl)) ?_
      refine WO.vals [(2, 30, (.int .i64 p1))] (by kernel_rfl) (fun _ => by kernel_rfl) ?_
      obtain ⟨r43, hx_r38, hr1⟩ := bind_some hr1
      refine WO.call rfl (by kernel_rfl) rfl (f := 38) (args := #[(.slice w_x29.held.a x29.held.length w_x29.held.c), (.int .i64 p1)]) (by kernel_rfl) (mdl_without_ok h_x29.held hS36 hx_r38) ?_
      rintro _ w39 ⟨I40, a_r43, c_r43, rfl, hl41, hS42, h_r43⟩
      refine ⟨_, rfl, (KR.cons (hS42.rd (List.Mem.head _)) (KR.nil (hS42.im.of_le hl41))), ?_⟩
      refine WO.vals [(4, 32, (.pointer (some ⟨b30, 1, none⟩)))] (by kernel_rfl) (fun _ => by kernel_rfl) ?_
      refine WO.load rfl (by kernel_rfl) (by kernel_rfl) rfl (v := (.slice w_x29.queue.a x29.queue.length w_x29.queue.c)) (fun w' hw' => cell_one ((rd_c (List.Mem.head _) (hS42.rd (List.Mem.head _))) w' hw') (by kernel_rfl)) ?_
      refine WO.vals [(6, 34, (.int .i64 p1))] (by kernel_rfl) (fun _ => by kernel_rfl) ?_
      obtain ⟨r49, hx_r44, hr1⟩ := bind_some hr1
      refine WO.call rfl (by kernel_rfl) rfl (f := 38) (args := #[(.slice w_x29.queue.a x29.queue.length w_x29.queue.c), (.int .i64 p1)]) (by kernel_rfl) (mdl_without_ok (RSl.mono h_x29.queue hl41) hS42 hx_r44) ?_
      rintro _ w45 ⟨I46, a_r49, c_r49, rfl, hl47, hS48, h_r49⟩
      refine ⟨_, rfl, (KR.cons (hS48.rd (List.Mem.head _)) (KR.nil (hS48.im.of_le (hl41.trans hl47)))), ?_⟩
      refine WO.vals [(8, 36, (.pointer (some ⟨b30, 0, none⟩)))] (by kernel_rfl) (fun _ => by kernel_rfl) ?_
      refine WO.tail rfl ?_
      refine WO.storeBox hS48 rfl (by kernel_rfl) rfl 0 rfl rfl (by kernel_rfl) (by kernel_rfl) (by kernel_rfl) ((cs_mdl_place ({ x29 with held := r43 }) ({ w_x29 with held := ⟨a_r43, c_r43⟩ })).toArray) (by kernel_rfl) (fun _ _ => trivial) ?_
      intro w51 hS50
      refine WO.vals [(10, 37, (.pointer (some ⟨b30, 1, none⟩)))] (by kernel_rfl) (fun _ => by kernel_rfl) ?_
      refine WO.storeBox hS50 rfl (by kernel_rfl) rfl 1 rfl rfl (by kernel_rfl) (by kernel_rfl) (by kernel_rfl) ((cs_mdl_place (⟨r43, r49⟩ : mdl_place) (⟨⟨a_r43, c_r43⟩, ⟨a_r49, c_r49⟩⟩ : W_mdl_place)).toArray) (by kernel_rfl) (fun _ _ => trivial) ?_
      intro w53 hS52
      refine WO.nil ?_
      refine En.next ?_
      refine W.region (l := [0, 1, 2, 3]) (by kernel_rfl) ?_
      refine WO.vals [(0, 38, (.pointer (some ⟨b_p0, 0, none⟩))), (1, 39, (.string x28))] (by kernel_rfl) (fun _ => by kernel_rfl) ?_
      refine WO.loadN rfl (by kernel_rfl) (by kernel_rfl) rfl ((cs_mdl_place (⟨r43, r49⟩ : mdl_place) (⟨⟨a_r43, c_r43⟩, ⟨a_r49, c_r49⟩⟩ : W_mdl_place))) (by kernel_rfl) (fun w' hw' => cells_one ((rd_f (hS52.rd (List.Mem.head _))) w' hw') (by kernel_rfl)) ?_
      have hS54 := hS52.front2
      have hS55 := hS54.front2
      have hk56 : ok_mdl_place I46 (⟨r43, r49⟩ : mdl_place) (⟨⟨a_r43, c_r43⟩, ⟨a_r49, c_r49⟩⟩ : W_mdl_place) := ⟨(RSl.mono h_r43 hl47), h_r49⟩
      obtain ⟨r62, hx_r57, hr1⟩ := bind_some hr1
      refine WO.call rfl (by kernel_rfl) rfl (f := 39) (args := #[(.pointer (some ⟨b_p0, 0, none⟩)), (.string x28), (.agg (cs_mdl_place (⟨r43, r49⟩ : mdl_place) (⟨⟨a_r43, c_r43⟩, ⟨a_r49, c_r49⟩⟩ : W_mdl_place)).toArray)]) (by kernel_rfl) (mdl_Locks_serve_ok (h_s20.mono (hl41.trans hl47)) hk56 hS55 hx_r57) ?_
      rintro _ w58 ⟨I59, w_r62, rfl, hl60, hS61, h_r62⟩
      refine ⟨_, rfl, trivial, ?_⟩
      refine WO.nil ?_
      refine En.in_normal ?_
      refine En.next ?_
      refine W.region (l := [0, 1]) (by kernel_rfl) ?_
      refine WO.incr (j := i21) rfl (by kernel_rfl) rfl (by first | omega | (dsimp only at *; omega)) ?_
      refine WO.vals [(1, 18, (.int .i64 ((i21 + 1 : Nat) : Int)))] (by kernel_rfl) (fun _ => by kernel_rfl) ?_
      refine WO.nil ?_
      have hS63 := hS61.front2
      have hS64 := hS63.drop
      have he := Option.some.inj hr1
      subst x25
      refine En.weaken (fr' := [(0, (.pointer (some ⟨b_p0, 0, none⟩))), (1, (.int .i64 p1)), (16, (.slice a_r16 r16.length c_r16)), (17, (.int .i64 (r16.length : Int))), (18, (.int .i64 ((i21 + 1 : Nat) : Int)))]) (En.round ⟨I59, w_r62, rfl, (((hl19.trans hl41).trans hl47).trans hl60), hS64, h_r62⟩) (Sub.cons rfl (Sub.cons rfl (Sub.cons rfl (Sub.cons rfl (Sub.cons rfl Sub.nil)))))
    case lastt17 =>
      rintro _ w65 ⟨I18, w_s20, rfl, hl19, hS66, h_s20⟩
      refine W.seq ?_
      refine W.region (l := [0]) (by kernel_rfl) ?_
      refine WO.vals [(0, 19, (.bool (decide ((r16.length : Int) < (r16.length : Int)))))] (by kernel_rfl) (fun _ => by kernel_rfl) ?_
      refine WO.nil ?_
      refine En.next ?_
      refine W.seq ?_
      refine W.cond (b := (decide ((r16.length : Int) < (r16.length : Int)))) rfl rfl (fun hc => ?_) (fun hc => ?_)
      · exact absurd hc (by first | (simp; done) | (simp; omega))
      clear hc
      refine W.exit ?_
      refine En.nx_exit ?_
      refine En.rd_exit ?_
      refine En.in_hit ?_
      refine En.next ?_
      refine W.seq ?_
      refine W.region (l := [0]) (by kernel_rfl) ?_
      refine WO.vals [(0, 4, (.int .i64 0))] (by kernel_rfl) (fun _ => by kernel_rfl) ?_
      refine WO.nil ?_
      refine En.next ?_
      refine W.ret ?_
      have he := Option.some.inj hr
      subst r
      exact En.ret1 rfl (.int .i64 0) rfl ⟨I18, w_s20, rfl, ((hl6.trans hl14).trans hl19), hS66, h_s20⟩
end Go.Proofs.Ytdmefifamlpbiaa
