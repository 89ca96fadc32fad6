/- What functions of the program come to, each by a plain one. Conditions: none. -/
import Derived.Test.YtpgmbifboopfmaaF1
import Derived.Test.YtpgmbifboopfmaaProg
set_option maxRecDepth 100000
namespace Go.Proofs.Ytpgmbifboopfmaa
open Go.Gv
set_option maxHeartbeats 1000000
variable {E w : World} {I : Mem} {Os : List Mem}
noncomputable def chain_Chain_Changed (p0 : chain_Chain) (p1 : qC) (p2 : qC) : Option (List By8) := (chain_missing p1 p2).bind (fun (r16 : List By8) => (chain_missing p2 p1).bind (fun (r22 : List By8) => (app 16 r16 r22).bind (fun (x24 : List By8) => (chain_sameRoles p1.Roles p2.Roles).bind (fun (r38 : Bool) => ((bif (!r38) then some true else (slices_Equal_qG p1.Grants p2.Grants).bind (fun (r56 : Bool) => some (!r56)))).bind (fun (j39 : Bool) => ((bif j39 then (app 16 x24 ([(⟨#[36]⟩ : By8)] : List By8)).bind (fun (x79 : List By8) => some x79) else some x24)).bind (fun (j67 : List By8) => (chain_sorted j67).bind (fun (r102 : List By8) => some r102)))))))
theorem chain_Chain_Changed_ok {p0 : chain_Chain} {p1 : qC} {p2 : qC} {b_p0 : Nat} {w_p0 : W_chain_Chain} {w_p1 : W_qC} {w_p2 : W_qC} (h_p0 : ok_chain_Chain I p0 w_p0) (h_p1 : ok_qC I p1 w_p1) (h_p2 : ok_qC I p2 w_p2) (hS : St E w I ((Gv.one b_p0 (.cells (cs_chain_Chain p0 w_p0).toArray 27 (0, 0))) :: (w_p0.live.C) :: (w_p0.pins.C) :: (w_p0.news.C) :: Os)) {r : (List By8)} (D : chain_Chain_Changed p0 p1 p2 = some r) :
    Calls P 16 #[(.pointer (some ⟨b_p0, 0, none⟩)), (vC p1 w_p1), (vC p2 w_p2)] w (fun e w' => ∃ (I' : Mem) (ra0 : Option Addr) (rc0 : Nat), e = .returned (.slice ra0 r.length rc0) ∧ I.Le I' ∧ St E w' I' ((Gv.one b_p0 (.cells (cs_chain_Chain p0 w_p0).toArray 27 (0, 0))) :: w_p0.live.C :: w_p0.pins.C :: w_p0.news.C :: Os) ∧ RSl 1 RStr I' ra0 rc0 r) := by
  refine calls_W (args := [(.pointer (some ⟨b_p0, 0, none⟩)), (vC p1 w_p1), (vC p2 w_p2)]) (fn := Try.f16) rfl rfl rfl ?_
  unfold chain_Chain_Changed at D
  refine W.seq ?_
  refine W.region (l := [0, 1, 2]) kr ?_
  refine yu hS z kr z (.cells (cs_qC p1 w_p1).toArray 36 (0, 0)) (fun b => .pointer (some ⟨b, 0, none⟩)) kr tv ?_
  intro b1 w4 S3
  refine yu S3 z kr z (.cells (cs_qC p2 w_p2).toArray 36 (0, 0)) (fun b => .pointer (some ⟨b, 0, none⟩)) kr tv ?_
  intro b5 w8 S7
  refine ya [(2, 6, (.slice none 0 0))] kr (fun _ => by kernel_rfl) ?_
  refine yc ?_
  refine yb ?_
  refine W.seq ?_
  have S9 := S7.drew
  refine yaf (l := [0, 1, 2, 3, 4, 5, 6, 7]) kr 5 (KR I [Gv.one b5 (.cells (cs_qC p2 w_p2).toArray 36 (0, 0)), Gv.one b1 (.cells (cs_qC p1 w_p1).toArray 36 (0, 0))]) qR (.back kr) kr (yk (S9.rd (List.Mem.head _)) (yk (S9.rd (List.Mem.tail _ (List.Mem.head _))) (yz S9.im))) ?_
  generalize World.drew _ = w10 at *
  refine yp z kr kr z ((cs_qC p1 w_p1)) kr (fun w' hw' => cells_one ((rd_c (List.Mem.tail _ (List.Mem.head _)) (S9.rd (List.Mem.tail _ (List.Mem.head _)))) w' hw') kr) ?_
  refine yp z kr kr z ((cs_qC p2 w_p2)) kr (fun w' hw' => cells_one ((rd_c (List.Mem.head _) (S9.rd (List.Mem.head _))) w' hw') kr) ?_
  obtain ⟨r16, Xr11, D⟩ := bind_some D
  refine yj z kr z (f := 24) (args := #[(vC p1 w_p1), (vC p2 w_p2)]) kr (chain_missing_ok h_p1 h_p2 S9 Xr11) ?_
  rintro _ w12 ⟨I13, a_r16, c_r16, C_r16, rfl, L14, S15, h_r16⟩
  refine ⟨_, rfl, (yk (S15.rd (List.Mem.tail _ (List.Mem.head _))) (yk (S15.rd (List.Mem.tail _ (List.Mem.tail _ (List.Mem.head _)))) (yz (S15.im.of_le L14)))), ?_⟩
  refine yp z kr kr z ((cs_qC p2 w_p2)) kr (fun w' hw' => cells_one ((rd_c (List.Mem.head _) (S15.rd (List.Mem.tail _ (List.Mem.head _)))) w' hw') kr) ?_
  refine yp z kr kr z ((cs_qC p1 w_p1)) kr (fun w' hw' => cells_one ((rd_c (List.Mem.tail _ (List.Mem.head _)) (S15.rd (List.Mem.tail _ (List.Mem.tail _ (List.Mem.head _))))) w' hw') kr) ?_
  refine WO.tail z ?_
  obtain ⟨r22, Xr17, D⟩ := bind_some D
  refine yj z kr z (f := 24) (args := #[(vC p2 w_p2), (vC p1 w_p1)]) kr (chain_missing_ok (h_p2.mono L14) (h_p1.mono L14) S15 Xr17) ?_
  rintro _ w18 ⟨I19, a_r22, c_r22, C_r22, rfl, L20, S21, h_r22⟩
  refine ⟨_, rfl, trivial, ?_⟩
  have S23 := S21.front1
  obtain ⟨x24, Xx24, D⟩ := bind_some D
  obtain ⟨h0_x24, he_x24⟩ := app_some Xx24
  refine yad (e' := 9) (b := 16) (zs := #[(.string eB)]) S23 (OwnSl.mono h_r16 L20) z kr z kr kr kr z z z z h_r22.sl (S23.rd (List.Mem.tail _ (List.Mem.head _))) h0_x24 he_x24 tv ?_
  intro a25 c26 w27 C28 S29 ho30
  have S31 := S29.front1
  have S32 := S31.drop
  refine ya [(7, 7, (.slice a25 x24.length c26))] kr (fun _ => by kernel_rfl) ?_
  refine yc ?_
  refine yb ?_
  refine W.seq ?_
  refine W.seq ?_
  refine W.region (l := [0, 1, 2, 3, 4, 5, 6, 7, 8, 9, 10, 11, 12, 13]) kr ?_
  refine ya [(0, 15, (.pointer (some ⟨b1, 2, none⟩)))] kr (fun _ => by kernel_rfl) ?_
  refine yf z kr kr z (v := (.slice w_p1.Roles.a p1.Roles.length w_p1.Roles.c)) (fun w' hw' => cell_one ((rd_f (S32.rd (List.Mem.tail _ (List.Mem.tail _ (List.Mem.head _))))) w' hw') kr) ?_
  refine ya [(2, 17, (.pointer (some ⟨b5, 2, none⟩)))] kr (fun _ => by kernel_rfl) ?_
  refine yf z kr kr z (v := (.slice w_p2.Roles.a p2.Roles.length w_p2.Roles.c)) (fun w' hw' => cell_one ((rd_f (S32.rd (List.Mem.tail _ (List.Mem.head _)))) w' hw') kr) ?_
  obtain ⟨r38, Xr33, D⟩ := bind_some D
  refine yj z kr z (f := 25) (args := #[(.slice w_p1.Roles.a p1.Roles.length w_p1.Roles.c), (.slice w_p2.Roles.a p2.Roles.length w_p2.Roles.c)]) kr (chain_sameRoles_ok (RSl.mono h_p1.Roles (L14.trans L20)) (RSl.mono h_p2.Roles (L14.trans L20)) S32 Xr33) ?_
  rintro _ w34 ⟨I35, rfl, L36, S37⟩
  refine ⟨_, rfl, trivial, ?_⟩
  refine ya [(5, 20, (.bool (!r38))), (6, 21, (.bool (!r38)))] kr (fun _ => by kernel_rfl) ?_
  obtain ⟨j39, R1, D⟩ := bind_some D
  refine WO.join (l1 := [7, 8, 9, 10, 11, 12, 13]) (l2 := []) (J := (fun fr w => ∃ (I41 : Mem), fr = [(7, (.slice a25 x24.length c26)), (28, (.bool j39))] ∧ I35.Le I41 ∧ St E w I41 ((Gv.one b_p0 (.cells (cs_chain_Chain p0 w_p0).toArray 27 (0, 0))) :: (w_p0.live.C) :: (w_p0.pins.C) :: (w_p0.news.C) :: (C28) :: Os))) ?restj39 ?waysj39
  case waysj39 =>
    refine yt (!r38) (fun G => ?_) (fun G => ?_)
    · replace R1 := cond_t G R1
      refine ye 21 z (show Value.bool (!r38) = Value.bool true by rw [G]) ?_
      refine yd z kr z ?_
      refine yd z kr z ?_
      refine yd z kr z ?_
      refine yd z kr z ?_
      refine yd z kr z ?_
      refine yd z kr z ?_
      refine ya [(13, 28, (.bool true))] kr (fun _ => by kernel_rfl) ?_
      have S43 := S37.front1
      have S44 := S43.drop
      have S45 := S44.front1
      have S46 := S45.drop
      have S47 := S46.front4
      have S48 := S47.front4
      have S49 := S48.front4
      have S50 := S49.front4
      have he := Option.some.inj R1
      subst j39
      refine WO.weaken (fr' := [(7, (.slice a25 x24.length c26)), (28, (.bool true))]) (yi ⟨I35, rfl, Mem.Le.refl _, S50⟩) (Sub.cons z (Sub.cons z Sub.nil))
    · replace R1 := cond_f G R1
      refine ye 21 z (show Value.bool (!r38) = Value.bool false by rw [G]) ?_
      refine ya [(7, 22, (.pointer (some ⟨b1, 3, none⟩)))] kr (fun _ => by kernel_rfl) ?_
      refine yf z kr kr z (v := (.slice w_p1.Grants.a p1.Grants.length w_p1.Grants.c)) (fun w' hw' => cell_one ((rd_f (S37.rd (List.Mem.tail _ (List.Mem.tail _ (List.Mem.head _))))) w' hw') kr) ?_
      refine ya [(9, 24, (.pointer (some ⟨b5, 3, none⟩)))] kr (fun _ => by kernel_rfl) ?_
      refine yf z kr kr z (v := (.slice w_p2.Grants.a p2.Grants.length w_p2.Grants.c)) (fun w' hw' => cell_one ((rd_f (S37.rd (List.Mem.tail _ (List.Mem.head _)))) w' hw') kr) ?_
      obtain ⟨r56, Xr51, R1⟩ := bind_some R1
      refine yj z kr z (f := 26) (args := #[(.slice w_p1.Grants.a p1.Grants.length w_p1.Grants.c), (.slice w_p2.Grants.a p2.Grants.length w_p2.Grants.c)]) kr (slices_Equal_qG_ok (RSl.mono h_p1.Grants ((L14.trans L20).trans L36)) (RSl.mono h_p2.Grants ((L14.trans L20).trans L36)) S37 Xr51) ?_
      rintro _ w52 ⟨I53, rfl, L54, S55⟩
      refine ⟨_, rfl, trivial, ?_⟩
      refine ya [(12, 27, (.bool (!r56))), (13, 28, (.bool (!r56)))] kr (fun _ => by kernel_rfl) ?_
      have S57 := S55.front1
      have S58 := S57.drop
      have S59 := S58.front1
      have S60 := S59.drop
      have S61 := S60.front4
      have S62 := S61.front4
      have S63 := S62.front4
      have S64 := S63.front4
      have he := Option.some.inj R1
      subst j39
      refine WO.weaken (fr' := [(7, (.slice a25 x24.length c26)), (28, (.bool (!r56)))]) (yi ⟨I53, rfl, L54, S64⟩) (Sub.cons z (Sub.cons z Sub.nil))
  case restj39 =>
    rintro _ w65 ⟨I41, rfl, L42, S66⟩
    refine yc ?_
    refine yb ?_
    obtain ⟨j67, R1, D⟩ := bind_some D
    refine W.join (J := (fun fr w => ∃ (I69 : Mem), ∃ (a_j67 : Option Addr), ∃ (c_j67 : Nat), ∃ (C_j67 : Mem), fr = [(7, (.slice a_j67 j67.length c_j67))] ∧ I41.Le I69 ∧ St E w I69 ((Gv.one b_p0 (.cells (cs_chain_Chain p0 w_p0).toArray 27 (0, 0))) :: (w_p0.live.C) :: (w_p0.pins.C) :: (w_p0.news.C) :: (C_j67) :: Os) ∧ OwnSl 9 1 RStr I69 C_j67 a_j67 c_j67 j67)) ?restj67 ?waysj67
    case waysj67 =>
      refine W.cond (b := j39) z z (fun G => ?_) (fun G => ?_)
      · replace R1 := cond_t G R1
        refine W.region (l := [0, 1, 2, 3]) kr ?_
        refine ya [(0, 29, (.slice a25 x24.length c26))] kr (fun _ => by kernel_rfl) ?_
        refine yac (rel := RStr) (xs := ([(⟨#[36]⟩ : By8)] : List By8)) S66 z kr z 9 1 [[(.string (⟨#[36]⟩ : By8))]] kr z ((Elr.cons z Elr.nil)) tv ?_
        intro a74 C72 w76 S75 ho73
        have S78 := S75.front5
        obtain ⟨x79, Xx79, R1⟩ := bind_some R1
        obtain ⟨h0_x79, he_x79⟩ := app_some Xx79
        refine yad (e' := 9) (b := 16) (zs := #[(.string eB)]) S78 (OwnSl.mono ho30 (L36.trans L42)) z kr z kr kr kr z z z z ho73.sl (S78.rd (List.Mem.tail _ (List.Mem.head _))) h0_x79 he_x79 tv ?_
        intro a80 c81 w82 C83 S84 ho85
        have S86 := S84.front1
        have S87 := S86.drop
        refine ya [(3, 7, (.slice a80 x79.length c81))] kr (fun _ => by kernel_rfl) ?_
        refine yc ?_
        have S88 := S87.front4
        have S89 := S88.front4
        have S90 := S89.front4
        have S91 := S90.front4
        have he := Option.some.inj R1
        subst j67
        refine En.weaken (fr' := [(7, (.slice a80 x79.length c81))]) (En.round ⟨I41, a80, c81, C83, rfl, Mem.Le.refl _, S91, ho85⟩) (Sub.cons z Sub.nil)
      · replace R1 := cond_f G R1
        refine W.skip ?_
        have he := Option.some.inj R1
        subst j67
        refine En.weaken (fr' := [(7, (.slice a25 x24.length c26))]) (En.round ⟨I41, a25, c26, C28, rfl, Mem.Le.refl _, S66, (OwnSl.mono ho30 (L36.trans L42))⟩) (Sub.cons z Sub.nil)
    case restj67 =>
      rintro _ w92 ⟨I69, a_j67, c_j67, C_j67, rfl, L70, S93, h_j67⟩
      refine yb ?_
      refine W.seq ?_
      refine W.region (l := [0, 1, 2]) kr ?_
      refine ya [(0, 32, (.slice a_j67 j67.length c_j67))] kr (fun _ => by kernel_rfl) ?_
      have S94 := S93.front4
      have S95 := S94.publish
      have hp96 := (h_j67).publish S94
      obtain ⟨r102, Xr97, D⟩ := bind_some D
      refine yj z kr z (f := 17) (args := #[(.slice a_j67 j67.length c_j67)]) kr (chain_sorted_ok hp96 S95 Xr97) ?_
      rintro _ w98 ⟨I99, a_r102, c_r102, C_r102, rfl, L100, S101, h_r102⟩
      have S103 := St.lentBack S94 L100 S101
      have ho104 := OwnSl.flat h_r102 I69 (fun hq => hq)
      refine ⟨_, rfl, trivial, ?_⟩
      obtain ⟨I105, L106, S108, hp107⟩ := yab ho104 S103
      refine ya [(2, 6, (.slice a_r102 r102.length c_r102))] kr (fun _ => by kernel_rfl) ?_
      refine yc ?_
      refine yb ?_
      refine ym ?_
      have S109 := S108.drop
      have he := Option.some.inj D
      subst r
      exact yl z (.slice a_r102 r102.length c_r102) z ⟨I105, a_r102, c_r102, rfl, (((((L14.trans L20).trans L36).trans L42).trans L70).trans L106), S109, hp107⟩
noncomputable def chain_told (ch : List By8) (l : List (Int × List By8)) : Option (List (Int × List By8)) :=
  loopO (fun (s : Int × List (Int × List By8)) => bif decide (s.1 ≤ 8) then (app 16 ((mget iEq s.2 s.1).getD []) ch).bind fun x => (chain_sorted x).bind fun y => some (.inl (w64 (s.1 + 1), mset iEq s.2 s.1 y)) else some (.inr s.2)) (1, l)
noncomputable def chain_Chain_Publish (h : chain_Chain) (c : qC) : Option (Int × chain_Chain) :=
  bif decide (c.Version ≤ h.now) then some (2, h) else (chain_Chain_Now h).bind fun a => (chain_Chain_Changed h a c).bind fun ch => (chain_told ch h.news).bind fun l =>
    (chain_Chain_trim { h with news := l, now := c.Version, live := mset iEq h.live c.Version ⟨c, 0⟩ }).bind fun h' => some (0, h')
set_option maxHeartbeats 2000000 in
theorem chain_Chain_Publish_ok {p0 : chain_Chain} {p1 : qC} {b_p0 : Nat} {w_p0 : W_chain_Chain} {w_p1 : W_qC} (h_p0 : ok_chain_Chain I p0 w_p0) (h_p1 : ok_qC I p1 w_p1) (hS : St E w I (Bx b_p0 (cs_chain_Chain p0 w_p0) 27 :: w_p0.live.C :: w_p0.pins.C :: w_p0.news.C :: Os)) {r : Int × chain_Chain} (D : chain_Chain_Publish p0 p1 = some r) :
    Calls P 7 #[Pt b_p0 0, (vC p1 w_p1)] w (fun e w' => ∃ (I' : Mem) (w_rp0 : W_chain_Chain), e = .returned (Iv r.1) ∧ I.Le I' ∧ St E w' I' (Bx b_p0 (cs_chain_Chain r.2 w_rp0) 27 :: w_rp0.live.C :: w_rp0.pins.C :: w_rp0.news.C :: Os) ∧ ok_chain_Chain I' r.2 w_rp0) := by
  refine calls_W (args := [Pt b_p0 0, (vC p1 w_p1)]) (fn := Try.f7) rfl rfl rfl ?_
  unfold chain_Chain_Publish at D
  refine y8 nL2 (WO.n1 hS (cs_qC p1 w_p1) 36 z fun b1 w1 S1 => yv 1 1 z (yy (W.seq (y8 nL2 (yv 0 1 z (WO.c1 (chain_Chain_dead_ok h_p0 S1.front4.front4.front4.front4 z) z fun I2 w2 L2 S2 => yy (W.cf fun _ => W.skip (yb (W.seq (W.seq (have S3 := S2.drew; W.dr nL7 7 (yk (S3.rd m0) (yk (S3.rd m4) (yz S3.im))) ?_)))))))))))
  generalize World.drew _ = w3 at *
  refine y7 0 1 [0] z (yaa (rd_c m1 (S3.rd m4)) z (y7 2 3 [1] z (yaa (rd_c m0 (S3.rd m0)) z (yv 6 1 z (yy (W.cb D (fun G D => ?_) (fun G D => ?_)))))))
  · exact y8 [0] (yv 0 1 rfl (yy (ym (yg (sj D ▸ yap ⟨I2, w_p0, rfl, L2, S3.front4.drop, h_p0.mono L2⟩)))))
  obtain ⟨a, ha, D⟩ := bind_some D
  obtain ⟨ch, hch, D⟩ := bind_some D
  obtain ⟨l, hl, D⟩ := bind_some D
  obtain ⟨h', ht, R9⟩ := bind_some D
  refine W.skip (yb (W.seq (have S4 := S3.drew; W.dr nL6 4 (yk (S4.rd m4) (yz S4.im)) ?_)))
  generalize World.drew _ = w4 at *
  refine yv 0 2 z (WO.ca (chain_Chain_Now_ok (h_p0.mono L2) S4 ha) ?_)
  rintro _ w5 ⟨I5, wa, rfl, L5, S5, hoka⟩
  refine ⟨_, rfl, yk (S5.rd m4) (yz (S5.im.of_le L5)), ?_⟩
  refine WO.m1 (cs_qC p1 w_p1) (rd_c m0 (S5.rd m4)) z (WO.tail z (WO.ca (chain_Chain_Changed_ok ((h_p0.mono L2).mono L5) hoka ((h_p1.mono L2).mono L5) S5 hch) ?_))
  rintro _ w6 ⟨I6, a6, c6, rfl, L6, S6, hsl6⟩
  unfold chain_told at hl
  have L26 : I.Le I6 := L2.trans (L5.trans L6)
  refine cv (yv 5 1 z (yy (W.seq (y8 [0] (yv 0 1 z (yy (yq (W.wk (W.loopO hl (fun (s : Int × List (Int × List By8)) fr w => match s with | (s1, s2) => ∃ I' C', fr = [(0, Pt b_p0 0), (3, Pt b1 0), (5, .slice a6 ch.length c6), (6, Iv s1)] ∧ I6.Le I' ∧ St E w I' (C' :: Bx b_p0 (cs_chain_Chain p0 w_p0) 27 :: w_p0.live.C :: w_p0.pins.C :: bC b1 p1 w_p1 :: Os) ∧ SMap (Value.int .i64) 9 1 RStr I' C' w_p0.news.m s2) ⟨I6, _, rfl, lr, S6.front3, SMap.mono h_p0.news L26⟩ ?_)))))))))
  rintro ⟨s1, s2⟩ _ w7 ⟨I7, C7, rfl, L7, S7, hM7⟩ x hx hext
  dsimp only at hx
  refine W.seq (y8 nL2 (yv 0 2 z (yy (W.cb hx (fun G hx => ?_) (fun G hx => ?_)))))
  · obtain ⟨xx, hxx, hx⟩ := bind_some hx
    obtain ⟨y, hy, hx⟩ := bind_some hx
    obtain ⟨Cm, H, S8, hO, hs2⟩ := hM7.open_ S7
    subst hs2
    obtain ⟨f, R, h1, h2, h3, S9, hset, hdel⟩ := hO.focus S8 iEq s1
    rw [← h2] at hxx
    obtain ⟨h0, he⟩ := app_some hxx
    obtain ⟨v, hv, hq⟩ := hO.map.lookup (P := P) (t := 25) (kt := 3) (et := 43) kr (keyLaw_int (kt := 3) kr) s1 (zv := .slice none 0 0) (z0 := (none, 0, 0)) kr rfl
    rw [h1] at hv
    obtain rfl : v = .slice f.a f.xs.length f.c := hv
    refine W.skip (yb (W.seq (yq (have S10 := S9.drew; W.dr nL15 14 (yk (S10.rd m1) (yk (S10.rd (.tail _ (.tail _ (List.mem_append_right _ m0)))) (yz S10.im))) ?_))))
    generalize World.drew _ = w10 at *
    refine y7 0 3 [3] z (yaa (rd_c m1 (S10.rd (.tail _ (.tail _ (List.mem_append_right _ m0))))) z (y7 4 4 [3] z (yaa (rd_c m1 (S10.rd (.tail _ (.tail _ (List.mem_append_right _ m0))))) z (yv 9 1 z ?_))))
    refine WO.lookup z kr z z hq (rd_c m0 (S10.rd m1)) (.slice f.a f.xs.length f.c) z (yv 11 1 z ?_)
    refine yad (e' := 9) (b := 16) (zs := #[(.string eB)]) S10 h3 z kr z kr kr kr z z z z (hsl6.mono L7) S10.im h0 he (fun w' C' hS' => yk (hS'.rd m1) (yk (hS'.rd (.tail _ (.tail _ (List.mem_append_right _ m0)))) (yz hS'.im))) ?_
    intro a11 c11 w11 C11 S11 ho11
    obtain ⟨I12, L12, S12, hp12⟩ := yab ho11 S11
    refine WO.ca (chain_sorted_ok hp12 S12 hy) ?_
    rintro _ w13 ⟨I13, a13, c13, C13, rfl, L13, S13, ho13⟩
    refine ⟨_, rfl, yk (S13.rd m1) (yk (S13.rd (.tail _ (.tail _ (List.mem_append_right _ m0)))) (yz (S13.im.of_le (L12.trans L13)))), WO.tail z ?_⟩
    refine (WO.update (OwnMap.mono hO.map (L12.trans L13)) S13.front1 (t := 25) (kt := 3) (et := 43) kr (keyLaw_int (kt := 3) kr) z kr z (.inl z) z s1 z z (xv := (a13, y.length, c13)) z tv ?_)
    intro w14 Cm14 S14 hm14
    obtain ⟨H', hO', S15, hx15⟩ := hset I13 Cm14 w14 _ ⟨a13, c13, C13, y⟩ (L12.trans L13) ho13 hm14 S14
    obtain ⟨C16, hM16, S16⟩ := hO'.shut S15
    rw [hx15] at hM16
    exact yc (yo (yb (W.rg nL3 (yv 0 3 z (yc (En.wk (fr' := [(0, Pt b_p0 0), (3, Pt b1 0), (5, .slice a6 ch.length c6), (6, Iv (w64 (s1 + 1)))]) (En.round ⟨_, (Option.some.inj hx).symm, I13, C16, rfl, L7.trans (L12.trans L13), S16, hM16⟩)))))))
  · have hlx := hext s2 (Option.some.inj hx).symm
    subst hlx
    have L27 : I.Le I7 := L26.trans L7
    refine W.exit (yw (yx (y0 (yb (y8 nL6 (yv 0 1 z (y7 1 1 [0] z (yaa (S7.rf m4) z (y7 3 2 [1] z (WO.s1 S7.front1 1 (cs_chain_Chain { p0 with now := p1.Version } w_p0) fun w8 S8 => yy (W.seq (have S9 := S8.drew; W.dr nL12 11 (yk (S9.rd m0) (yk (S9.rd m4) (yz S9.im))) ?_))))))))))))
    generalize World.drew _ = w9 at *
    refine y7 0 3 [0] z (yaa (rd_c m0 (S9.rd m0)) z (y7 4 3 [1] z (yaa (rd_c m0 (S9.rd m0)) z (WO.m1 (cs_qC p1 w_p1) (rd_c m1 (S9.rd m4)) z (WO.v1 9 53 (.agg (cs_chain_kept ⟨p1, 0⟩ ⟨w_p1⟩).toArray) ?_)))))
    refine yu S9.front2 z kr z (.cells (cs_chain_kept ⟨p1, 0⟩ ⟨w_p1⟩).toArray 51 (0, 0)) (fun b => .pointer (some ⟨b, 0, none⟩)) kr (fun b w' h1 => yk (h1.rd m2) (yk (h1.rd m5) (yz h1.im))) ?_
    intro kb w10 S10
    refine WO.tail z ?_
    refine WO.updP ieqP (h_p0.live.mono L27) S10 (x := ⟨p1, 0⟩) ⟨⟨w_p1⟩, rfl, ⟨h_p1.mono L27⟩⟩ (t := 23) (kt := 3) (et := 52) kr (keyLaw_int (kt := 3) kr) z kr (.inl z) z p1.Version z z ?_
    intro w11 C11 S11 hP11
    refine yy (y8 nL2 (yv 0 1 z (WO.ca (chain_Chain_trim_ok (h := { p0 with news := s2, now := p1.Version, live := mset iEq p0.live p1.Version ⟨p1, 0⟩ }) (v := ⟨⟨w_p0.live.m, C11⟩, w_p0.pins, ⟨w_p0.news.m, C7⟩⟩) hP11 S11.front1 ht) ?_)))
    rintro _ w12 ⟨C12, rfl, S12, hP12⟩
    have e8 := trim_eq ht
    obtain rfl := Option.some.inj R9
    refine cv (yy (y8 [0] (yv 0 1 z (yy (ym (yap ⟨I7, ⟨⟨w_p0.live.m, C12⟩, w_p0.pins, ⟨w_p0.news.m, C7⟩⟩, rfl, L27, ?_, ?_⟩))))))
    · rw [e8]; exact S12.front4.drop.front3.front1.front2.front1
    · rw [e8]; exact ⟨hP12, OwnMap.mono h_p0.pins L27, hM7⟩
def chain_Chain_Live (h : chain_Chain) : Option (List Int) := keysI h.live
theorem keysI_congr {ν μ : Type} {l : List (Int × ν)} {l' : List (Int × μ)} (h : l.map (·.1) = l'.map (·.1)) : keysI l = keysI l' := by
  have hl : l.length = l'.length := by have := congrArg List.length h; simpa using this
  unfold keysI
  rw [h, hl]
theorem chain_Chain_Live_ok {p0 : chain_Chain} {b_p0 : Nat} {w_p0 : W_chain_Chain} (h_p0 : ok_chain_Chain I p0 w_p0) (hS : St E w I (Bx b_p0 (cs_chain_Chain p0 w_p0) 27 :: w_p0.live.C :: w_p0.pins.C :: w_p0.news.C :: Os)) {r : (List Int)} (D : chain_Chain_Live p0 = some r) :
    Calls P 8 #[Pt b_p0 0] w (fun e w' => ∃ (I' : Mem) (ra0 : Option Addr) (rc0 : Nat), e = .returned (.slice ra0 r.length rc0) ∧ I.Le I' ∧ St E w' I' (Bx b_p0 (cs_chain_Chain p0 w_p0) 27 :: w_p0.live.C :: w_p0.pins.C :: w_p0.news.C :: Os) ∧ RSl 1 (RInt .i64) I' ra0 rc0 r) := by
  refine calls_W (args := [Pt b_p0 0]) (fn := Try.f8) rfl rfl rfl ?_
  unfold chain_Chain_Live at D
  refine y8 [0] (yv 0 1 z (yy (W.seq (y8 nL2 (yv 0 1 z (WO.c1 (chain_Chain_dead_ok h_p0 hS z) z fun I2 w2 L2 S2 => yy (W.cf fun _ => W.skip (yb (y8 nL7 (y7 0 3 [0] z (yaa (S2.rf m0) z (WO.ca (Try.maps_Keys_19 (some w_p0.live.m) w2) ?_))))))))))))
  rintro _ _ ⟨rfl, rfl⟩
  obtain ⟨Cm, Co, lm, S3, hm, hk, hC⟩ := (h_p0.live.mono L2).keys S2.front1
  rw [← keysI_congr hk] at D
  refine cv (WO.ca (keys_ownI hm (S3.alloc (.cells #[.map (some w_p0.live.m)] 23 (0, 0))) (kt := 3) kr (fun b nn D0 R w h1 h2 h3 h4 h5 => Try.sortedAt18_19 _ b nn D0 R w h1 h2 h3 h4 h5) D) ?_)
  rintro _ w4 ⟨I4, a, c, rfl, L4, S4, hsl⟩
  have S5 : St E w4 I4 (Cm :: Co :: Bx b_p0 (cs_chain_Chain p0 w_p0) 27 :: w_p0.pins.C :: w_p0.news.C :: Os) := S4.drop
  have S6 := S5.merge
  rw [← hC] at S6
  exact cv (yv 6 1 z (yy (ym (yap ⟨I4, a, c, rfl, L2.trans L4, S6.front1, hsl⟩))))
def chain_Chain_Hear (h : chain_Chain) (who : Int) : Option (List By8 × chain_Chain) :=
  (chain_Chain_check h who).bind fun e => bif e != 0 then some ([], h) else some ((mget iEq h.news who).getD [], { h with news := mdel iEq h.news who })
theorem chain_Chain_Hear_ok {p0 : chain_Chain} {p1 : Int} {b_p0 : Nat} {w_p0 : W_chain_Chain} (h_p0 : ok_chain_Chain I p0 w_p0) (hS : St E w I (Bx b_p0 (cs_chain_Chain p0 w_p0) 27 :: w_p0.live.C :: w_p0.pins.C :: w_p0.news.C :: Os)) {r : (List By8) × chain_Chain} (D : chain_Chain_Hear p0 p1 = some r) :
    Calls P 9 #[Pt b_p0 0, Iv p1] w (fun e w' => ∃ (I' : Mem) (ra0 : Option Addr) (rc0 : Nat) (w_rp0 : W_chain_Chain), e = .returned (.slice ra0 r.1.length rc0) ∧ I.Le I' ∧ St E w' I' (Bx b_p0 (cs_chain_Chain r.2 w_rp0) 27 :: w_rp0.live.C :: w_rp0.pins.C :: w_rp0.news.C :: Os) ∧ RSl 1 RStr I' ra0 rc0 r.1 ∧ ok_chain_Chain I' r.2 w_rp0) := by
  refine calls_W (args := [Pt b_p0 0, Iv p1]) (fn := Try.f9) rfl rfl rfl ?_
  unfold chain_Chain_Hear at D
  obtain ⟨e, he, D⟩ := bind_some D
  refine y8 [0] (yv 0 1 z (yy (W.seq (y8 nL4 (yv 0 2 z (WO.c1 (chain_Chain_check_ok h_p0 hS he) z fun I2 w2 L2 S2 => yv 3 1 z (yy (W.cb D (fun G D => ?_) (fun G D => ?_)))))))))
  · exact y8 [0] (yv 0 1 rfl (yy (ym (yg (sj D ▸ yap ⟨I2, none, 0, w_p0, rfl, L2, S2, SlAt.nil, h_p0.mono L2⟩)))))
  obtain rfl := Option.some.inj D
  obtain ⟨Cm, H, S3, hO, hl⟩ := (SMap.mono h_p0.news L2).open_ S2.front3
  obtain ⟨f, R, h1, h2, h3, S4, hset, hdel⟩ := hO.focus S3 iEq p1
  obtain ⟨v, hv, hq⟩ := hO.map.lookup (P := P) (t := 25) (kt := 3) (et := 43) kr (keyLaw_int (kt := 3) kr) p1 (zv := .slice none 0 0) (z0 := (none, 0, 0)) kr rfl
  rw [h1] at hv
  obtain rfl : v = .slice f.a f.xs.length f.c := hv
  rw [hl, ← h2]
  refine W.skip (yb (y8 nL7 (y7 0 3 [3] z (yaa (S4.rf (.tail _ (.tail _ (List.mem_append_right _ m0)))) z (yv 4 1 z ?_)))))
  refine WO.lookup z kr z z hq (rd_f (S4.rd m1)) (.slice f.a f.xs.length f.c) z (yv 6 1 z ?_)
  refine yy (y8 nL6 (y7 0 3 [3] z (yaa (S4.rf (.tail _ (.tail _ (List.mem_append_right _ m0)))) z (yv 4 1 z ?_))))
  refine WO.delete hO.map S4.front1 (t := 25) (kt := 3) (et := 43) kr (keyLaw_int (kt := 3) kr) z kr z z p1 z tv ?_
  intro w5 Cm5 S5 hm5
  obtain ⟨I6, L6, S6, hp6⟩ := yab h3 S5.front1
  obtain ⟨H', hO', S7, hx7⟩ := hdel I6 Cm5 w5 _ L6 (OwnMap.mono hm5 L6) S6
  obtain ⟨C7, hM7, S8⟩ := hO'.shut S7
  rw [hx7] at hM7
  exact yy (y8 nL2 (yv 0 2 z (yy (ym (yap ⟨I6, f.a, f.c, ⟨w_p0.live, w_p0.pins, ⟨w_p0.news.m, C7⟩⟩, rfl, L2.trans L6, S8.front3.front3.front3, hp6, ⟨h_p0.live.mono (L2.trans L6), OwnMap.mono h_p0.pins (L2.trans L6), hM7⟩⟩)))))
def r12_SameTexts (p0 : List By8) (p1 : List By8) : Option Bool := (bif ((p0.length : Int) != (p1.length : Int)) then some false else (forN (fun (i4 : Nat) (_s : Unit) => (idx p0 (i4 : Int)).bind (fun (x13 : By8) => (idx p1 (i4 : Int)).bind (fun (x14 : By8) => (bif (!sEq x13 x14) then some (.inr false) else some (.inl ()))))) p0.length 0 ()).bind (fun (t : Unit ⊕ (Bool)) => match t with | .inl _ => some true | .inr s16 => some s16))
theorem r12_SameTexts_ok {p0 : List By8} {p1 : List By8} {a_p0 : Option Addr} {c_p0 : Nat} {a_p1 : Option Addr} {c_p1 : Nat} (h_p0 : RSl 1 RStr I a_p0 c_p0 p0) (h_p1 : RSl 1 RStr I a_p1 c_p1 p1) (hS : St E w I Os) {r : Bool} (D : r12_SameTexts p0 p1 = some r) :
    Calls P 34 #[(.slice a_p0 p0.length c_p0), (.slice a_p1 p1.length c_p1)] w (fun e w' => ∃ (I' : Mem), e = .returned (.bool r) ∧ I.Le I' ∧ St E w' I' Os) := by
  refine calls_W (args := [(.slice a_p0 p0.length c_p0), (.slice a_p1 p1.length c_p1)]) (fn := Try.f34) rfl rfl rfl ?_
  unfold r12_SameTexts at D
  refine W.seq ?_
  refine W.region (l := [0]) kr ?_
  refine ya [(0, 4, (.bool false))] kr (fun _ => by kernel_rfl) ?_
  refine yc ?_
  refine yb ?_
  refine W.seq ?_
  refine W.seq ?_
  refine W.region (l := [0, 1, 2, 3, 4]) kr ?_
  refine ya [(0, 6, (.slice a_p0 p0.length c_p0)), (1, 7, (.int .i64 (p0.length : Int))), (2, 8, (.slice a_p1 p1.length c_p1)), (3, 9, (.int .i64 (p1.length : Int))), (4, 10, (.bool ((p0.length : Int) != (p1.length : Int))))] kr (fun _ => by kernel_rfl) ?_
  refine yc ?_
  refine yb ?_
  refine W.cond (b := ((p0.length : Int) != (p1.length : Int))) z z (fun G => ?_) (fun G => ?_)
  · replace D := cond_t G D
    refine W.seq ?_
    refine W.region (l := [0]) kr ?_
    refine ya [(0, 4, (.bool false))] kr (fun _ => by kernel_rfl) ?_
    refine yc ?_
    refine yb ?_
    refine ym ?_
    refine yg ?_
    have he := Option.some.inj D
    subst r
    exact yl z (.bool false) z ⟨I, rfl, Mem.Le.refl _, hS⟩
  · replace D := cond_f G D
    refine W.skip ?_
    refine yb ?_
    refine W.seq ?_
    refine W.seq ?_
    refine W.region (l := [0]) kr ?_
    refine ya [(0, 5, (.int .i64 0))] kr (fun _ => by kernel_rfl) ?_
    refine yc ?_
    refine yb ?_
    refine yq ?_
    obtain ⟨t1, hloop5, D⟩ := bind_some D
    have hlt9 := (h_p0).len_lt
    refine W.weaken (fr' := [(0, (.slice a_p0 p0.length c_p0)), (1, (.slice a_p1 p1.length c_p1)), (5, (.int .i64 ((0 : Nat) : Int)))]) (yag (m := p0.length) hloop5 (fun (i4 : Nat) (_s : Unit) fr w => ∃ (I2 : Mem), fr = [(0, (.slice a_p0 p0.length c_p0)), (1, (.slice a_p1 p1.length c_p1)), (5, (.int .i64 (i4 : Int)))] ∧ I.Le I2 ∧ St E w I2 Os) ⟨I, rfl, Mem.Le.refl _, hS⟩ ?roundt1 ?lastt1) (Sub.cons z (Sub.cons z (Sub.cons z Sub.nil)))
    case roundt1 =>
      rintro i4 _ _ w6 hi10 ⟨I2, rfl, L3, S7⟩ x8 R1 hext1
      refine W.seq ?_
      refine W.seq ?_
      refine W.region (l := [0, 1, 2, 3]) kr ?_
      refine ya [(0, 11, (.int .i64 (i4 : Int))), (1, 12, (.slice a_p0 p0.length c_p0)), (2, 13, (.int .i64 (p0.length : Int))), (3, 14, (.bool (decide ((i4 : Int) < (p0.length : Int)))))] kr (fun _ => by kernel_rfl) ?_
      refine yc ?_
      refine yb ?_
      refine W.cond (b := (decide ((i4 : Int) < (p0.length : Int)))) z z (fun G => ?_) (fun G => ?_)
      rotate_left
      · exact absurd G (by first | (simp; done) | (simp; omega))
      clear G
      refine W.skip ?_
      refine yb ?_
      refine W.seq ?_
      refine yq ?_
      refine W.seq ?_
      have S11 := S7.drew
      refine yaf (l := [0, 1, 2, 3, 4, 5, 6, 7, 8]) kr 8 (KR I2 []) qR (.back kr) kr (yz S11.im) ?_
      generalize World.drew _ = w12 at *
      refine ya [(0, 17, (.slice a_p0 p0.length c_p0)), (1, 18, (.int .i64 (i4 : Int)))] kr (fun _ => by kernel_rfl) ?_
      obtain ⟨x13, Xx13, R1⟩ := bind_some R1
      obtain ⟨h0_x13, h1_x13, Xx13⟩ := idx_some Xx13
      obtain ⟨ha_x13, cs_x13, hn_x13, hr_x13, Zx13⟩ := ((RSl.mono h_p0 L3)).el _ _ Xx13
      obtain rfl := hr_x13
      refine yh (e := 9) (sz := 1) z kr kr kr z ha_x13 z h0_x13 h1_x13 ?_
      refine yf z kr kr z (v := (.string x13)) (fun w' hw' => Zx13.cell0 kr ((rd_i S11.im) w' hw')) ?_
      refine ya [(4, 21, (.slice a_p1 p1.length c_p1)), (5, 22, (.int .i64 (i4 : Int)))] kr (fun _ => by kernel_rfl) ?_
      obtain ⟨x14, Xx14, R1⟩ := bind_some R1
      obtain ⟨h0_x14, h1_x14, Xx14⟩ := idx_some Xx14
      obtain ⟨ha_x14, cs_x14, hn_x14, hr_x14, Zx14⟩ := ((RSl.mono h_p1 L3)).el _ _ Xx14
      obtain rfl := hr_x14
      refine yh (e := 9) (sz := 1) z kr kr kr z ha_x14 z h0_x14 h1_x14 ?_
      refine yf z kr kr z (v := (.string x14)) (fun w' hw' => Zx14.cell0 kr ((rd_i S11.im) w' hw')) ?_
      refine WO.tail z ?_
      refine ya [(8, 25, (.bool (!sEq x13 x14)))] kr (fun _ => by kernel_rfl) ?_
      refine yc ?_
      refine yb ?_
      refine W.cond (b := (!sEq x13 x14)) z z (fun G => ?_) (fun G => ?_)
      · replace R1 := cond_t G R1
        refine W.seq ?_
        refine W.region (l := [0]) kr ?_
        refine ya [(0, 4, (.bool false))] kr (fun _ => by kernel_rfl) ?_
        refine yc ?_
        refine yb ?_
        refine ym ?_
        refine yn ?_
        refine yg ?_
        refine y6 ?_
        have ht := hext1 _ (Option.some.inj R1).symm
        subst t1
        refine yn ?_
        refine yg ?_
        have he := Option.some.inj D
        subst r
        exact yl z (.bool false) z ⟨I2, rfl, L3, S11⟩
      · replace R1 := cond_f G R1
        refine W.skip ?_
        refine yo ?_
        refine yb ?_
        refine W.region (l := [0, 1, 2]) kr ?_
        refine ya [(0, 15, (.int .i64 (i4 : Int)))] kr (fun _ => by kernel_rfl) ?_
        refine y9 (j := i4) z kr z (by first | omega | (dsimp only at *; omega) | (simp only [List.length_cons, List.length_nil] at *; omega)) ?_
        refine ya [(2, 5, (.int .i64 ((i4 + 1 : Nat) : Int)))] kr (fun _ => by kernel_rfl) ?_
        refine yc ?_
        refine En.weaken (fr' := [(0, (.slice a_p0 p0.length c_p0)), (1, (.slice a_p1 p1.length c_p1)), (5, (.int .i64 ((i4 + 1 : Nat) : Int)))]) (En.round ⟨(), (Option.some.inj R1).symm, I2, rfl, L3, S11⟩) (Sub.cons z (Sub.cons z (Sub.cons z Sub.nil)))
    case lastt1 =>
      rintro _ _ w17 ⟨I2, rfl, L3, S18⟩ he
      cases he
      refine W.seq ?_
      refine W.seq ?_
      refine W.region (l := [0, 1, 2, 3]) kr ?_
      refine ya [(0, 11, (.int .i64 (p0.length : Int))), (1, 12, (.slice a_p0 p0.length c_p0)), (2, 13, (.int .i64 (p0.length : Int))), (3, 14, (.bool (decide ((p0.length : Int) < (p0.length : Int)))))] kr (fun _ => by kernel_rfl) ?_
      refine yc ?_
      refine yb ?_
      refine W.cond (b := (decide ((p0.length : Int) < (p0.length : Int)))) z z (fun G => ?_) (fun G => ?_)
      · exact absurd G (by first | (simp; done) | (simp; omega))
      clear G
      refine W.exit ?_
      refine yw ?_
      refine yx ?_
      refine y0 ?_
      refine yb ?_
      refine W.seq ?_
      refine W.region (l := [0]) kr ?_
      refine ya [(0, 4, (.bool true))] kr (fun _ => by kernel_rfl) ?_
      refine yc ?_
      refine yb ?_
      refine ym ?_
      have he := Option.some.inj D
      subst r
      exact yl z (.bool true) z ⟨I2, rfl, L3, S18⟩
def r10_SameList (f_43 : qE → qE → Option Bool) (p0 : List qE) (p1 : List qE) : Option Bool := (bif ((p0.length : Int) != (p1.length : Int)) then some false else (forN (fun (i4 : Nat) (_s : Unit) => (idx p0 (i4 : Int)).bind (fun (x13 : qE) => (idx p1 (i4 : Int)).bind (fun (x14 : qE) => (f_43 x13 x14).bind (fun (r20 : Bool) => (bif (!r20) then some (.inr false) else some (.inl ())))))) p0.length 0 ()).bind (fun (t : Unit ⊕ (Bool)) => match t with | .inl _ => some true | .inr s22 => some s22))
theorem r10_SameList_ok {f_43 : qE → qE → Option Bool} {p0 : List qE} {p1 : List qE} {a_p0 : Option Addr} {c_p0 : Nat} {a_p1 : Option Addr} {c_p1 : Nat} (h_f_43 : ∀ {E w : World} {I : Mem} {Os : List Mem} {p0 : qE} {p1 : qE} {w_p0 : W_qE} {w_p1 : W_qE} (h_p0 : ok_qE I p0 w_p0) (h_p1 : ok_qE I p1 w_p1) (hS : St E w I Os) {r : Bool} (D : f_43 p0 p1 = some r), Calls P 43 #[(vE p0 w_p0), (vE p1 w_p1)] w (fun e w' => ∃ (I' : Mem), e = .returned (.bool r) ∧ I.Le I' ∧ St E w' I' Os)) (h_p0 : RSl 7 Q_qE I a_p0 c_p0 p0) (h_p1 : RSl 7 Q_qE I a_p1 c_p1 p1) (hS : St E w I Os) {r : Bool} (D : r10_SameList f_43 p0 p1 = some r) :
    Calls P 67 #[(.slice a_p0 p0.length c_p0), (.slice a_p1 p1.length c_p1)] w (fun e w' => ∃ (I' : Mem), e = .returned (.bool r) ∧ I.Le I' ∧ St E w' I' Os) := by
  refine calls_W (args := [(.slice a_p0 p0.length c_p0), (.slice a_p1 p1.length c_p1)]) (fn := Try.f67) rfl rfl rfl ?_
  unfold r10_SameList at D
  refine W.seq ?_
  refine W.region (l := [0]) kr ?_
  refine ya [(0, 4, (.bool false))] kr (fun _ => by kernel_rfl) ?_
  refine yc ?_
  refine yb ?_
  refine W.seq ?_
  refine W.seq ?_
  refine W.region (l := [0, 1, 2, 3, 4]) kr ?_
  refine ya [(0, 6, (.slice a_p0 p0.length c_p0)), (1, 7, (.int .i64 (p0.length : Int))), (2, 8, (.slice a_p1 p1.length c_p1)), (3, 9, (.int .i64 (p1.length : Int))), (4, 10, (.bool ((p0.length : Int) != (p1.length : Int))))] kr (fun _ => by kernel_rfl) ?_
  refine yc ?_
  refine yb ?_
  refine W.cond (b := ((p0.length : Int) != (p1.length : Int))) z z (fun G => ?_) (fun G => ?_)
  · replace D := cond_t G D
    refine W.seq ?_
    refine W.region (l := [0]) kr ?_
    refine ya [(0, 4, (.bool false))] kr (fun _ => by kernel_rfl) ?_
    refine yc ?_
    refine yb ?_
    refine ym ?_
    refine yg ?_
    have he := Option.some.inj D
    subst r
    exact yl z (.bool false) z ⟨I, rfl, Mem.Le.refl _, hS⟩
  · replace D := cond_f G D
    refine W.skip ?_
    refine yb ?_
    refine W.seq ?_
    refine W.seq ?_
    refine W.region (l := [0]) kr ?_
    refine ya [(0, 5, (.int .i64 0))] kr (fun _ => by kernel_rfl) ?_
    refine yc ?_
    refine yb ?_
    refine yq ?_
    obtain ⟨t1, hloop5, D⟩ := bind_some D
    have hlt9 := (h_p0).len_lt
    refine W.weaken (fr' := [(0, (.slice a_p0 p0.length c_p0)), (1, (.slice a_p1 p1.length c_p1)), (5, (.int .i64 ((0 : Nat) : Int)))]) (yag (m := p0.length) hloop5 (fun (i4 : Nat) (_s : Unit) fr w => ∃ (I2 : Mem), fr = [(0, (.slice a_p0 p0.length c_p0)), (1, (.slice a_p1 p1.length c_p1)), (5, (.int .i64 (i4 : Int)))] ∧ I.Le I2 ∧ St E w I2 Os) ⟨I, rfl, Mem.Le.refl _, hS⟩ ?roundt1 ?lastt1) (Sub.cons z (Sub.cons z (Sub.cons z Sub.nil)))
    case roundt1 =>
      rintro i4 _ _ w6 hi10 ⟨I2, rfl, L3, S7⟩ x8 R1 hext1
      refine W.seq ?_
      refine W.seq ?_
      refine W.region (l := [0, 1, 2, 3]) kr ?_
      refine ya [(0, 11, (.int .i64 (i4 : Int))), (1, 12, (.slice a_p0 p0.length c_p0)), (2, 13, (.int .i64 (p0.length : Int))), (3, 14, (.bool (decide ((i4 : Int) < (p0.length : Int)))))] kr (fun _ => by kernel_rfl) ?_
      refine yc ?_
      refine yb ?_
      refine W.cond (b := (decide ((i4 : Int) < (p0.length : Int)))) z z (fun G => ?_) (fun G => ?_)
      rotate_left
      · exact absurd G (by first | (simp; done) | (simp; omega))
      clear G
      refine W.skip ?_
      refine yb ?_
      refine W.seq ?_
      refine yq ?_
      refine W.seq ?_
      have S11 := S7.drew
      refine yaf (l := [0, 1, 2, 3, 4, 5, 6, 7, 8, 9]) kr 8 (KR I2 []) qR (.back kr) kr (yz S11.im) ?_
      generalize World.drew _ = w12 at *
      refine ya [(0, 17, (.slice a_p0 p0.length c_p0)), (1, 18, (.int .i64 (i4 : Int)))] kr (fun _ => by kernel_rfl) ?_
      obtain ⟨x13, Xx13, R1⟩ := bind_some R1
      obtain ⟨h0_x13, h1_x13, Xx13⟩ := idx_some Xx13
      obtain ⟨ha_x13, cs_x13, hn_x13, hr_x13, Zx13⟩ := ((RSl.mono h_p0 L3)).el _ _ Xx13
      obtain ⟨w_x13, rfl, h_x13⟩ := Q_qE_iff.1 hr_x13
      refine yh (e := 84) (sz := 7) z kr kr kr z ha_x13 z h0_x13 h1_x13 ?_
      refine yp z kr kr z ((cs_qE x13 w_x13)) kr (fun w' hw' => Zx13.cells (k := 0) kr z ((rd_i S11.im) w' hw')) ?_
      refine ya [(4, 21, (.slice a_p1 p1.length c_p1)), (5, 22, (.int .i64 (i4 : Int)))] kr (fun _ => by kernel_rfl) ?_
      obtain ⟨x14, Xx14, R1⟩ := bind_some R1
      obtain ⟨h0_x14, h1_x14, Xx14⟩ := idx_some Xx14
      obtain ⟨ha_x14, cs_x14, hn_x14, hr_x14, Zx14⟩ := ((RSl.mono h_p1 L3)).el _ _ Xx14
      obtain ⟨w_x14, rfl, h_x14⟩ := Q_qE_iff.1 hr_x14
      refine yh (e := 84) (sz := 7) z kr kr kr z ha_x14 z h0_x14 h1_x14 ?_
      refine yp z kr kr z ((cs_qE x14 w_x14)) kr (fun w' hw' => Zx14.cells (k := 0) kr z ((rd_i S11.im) w' hw')) ?_
      refine WO.tail z ?_
      obtain ⟨r20, Xr15, R1⟩ := bind_some R1
      refine yj z kr z (f := 43) (args := #[(vE x13 w_x13), (vE x14 w_x14)]) kr (h_f_43 h_x13 h_x14 S11 Xr15) ?_
      rintro _ w16 ⟨I17, rfl, L18, S19⟩
      refine ⟨_, rfl, trivial, ?_⟩
      refine ya [(9, 26, (.bool (!r20)))] kr (fun _ => by kernel_rfl) ?_
      refine yc ?_
      refine yb ?_
      refine W.cond (b := (!r20)) z z (fun G => ?_) (fun G => ?_)
      · replace R1 := cond_t G R1
        refine W.seq ?_
        refine W.region (l := [0]) kr ?_
        refine ya [(0, 4, (.bool false))] kr (fun _ => by kernel_rfl) ?_
        refine yc ?_
        refine yb ?_
        refine ym ?_
        refine yn ?_
        refine yg ?_
        refine y6 ?_
        have ht := hext1 _ (Option.some.inj R1).symm
        subst t1
        refine yn ?_
        refine yg ?_
        have he := Option.some.inj D
        subst r
        exact yl z (.bool false) z ⟨I17, rfl, (L3.trans L18), S19⟩
      · replace R1 := cond_f G R1
        refine W.skip ?_
        refine yo ?_
        refine yb ?_
        refine W.region (l := [0, 1, 2]) kr ?_
        refine ya [(0, 15, (.int .i64 (i4 : Int)))] kr (fun _ => by kernel_rfl) ?_
        refine y9 (j := i4) z kr z (by first | omega | (dsimp only at *; omega) | (simp only [List.length_cons, List.length_nil] at *; omega)) ?_
        refine ya [(2, 5, (.int .i64 ((i4 + 1 : Nat) : Int)))] kr (fun _ => by kernel_rfl) ?_
        refine yc ?_
        refine En.weaken (fr' := [(0, (.slice a_p0 p0.length c_p0)), (1, (.slice a_p1 p1.length c_p1)), (5, (.int .i64 ((i4 + 1 : Nat) : Int)))]) (En.round ⟨(), (Option.some.inj R1).symm, I17, rfl, (L3.trans L18), S19⟩) (Sub.cons z (Sub.cons z (Sub.cons z Sub.nil)))
    case lastt1 =>
      rintro _ _ w23 ⟨I2, rfl, L3, S24⟩ he
      cases he
      refine W.seq ?_
      refine W.seq ?_
      refine W.region (l := [0, 1, 2, 3]) kr ?_
      refine ya [(0, 11, (.int .i64 (p0.length : Int))), (1, 12, (.slice a_p0 p0.length c_p0)), (2, 13, (.int .i64 (p0.length : Int))), (3, 14, (.bool (decide ((p0.length : Int) < (p0.length : Int)))))] kr (fun _ => by kernel_rfl) ?_
      refine yc ?_
      refine yb ?_
      refine W.cond (b := (decide ((p0.length : Int) < (p0.length : Int)))) z z (fun G => ?_) (fun G => ?_)
      · exact absurd G (by first | (simp; done) | (simp; omega))
      clear G
      refine W.exit ?_
      refine yw ?_
      refine yx ?_
      refine y0 ?_
      refine yb ?_
      refine W.seq ?_
      refine W.region (l := [0]) kr ?_
      refine ya [(0, 4, (.bool true))] kr (fun _ => by kernel_rfl) ?_
      refine yc ?_
      refine yb ?_
      refine ym ?_
      have he := Option.some.inj D
      subst r
      exact yl z (.bool true) z ⟨I2, rfl, L3, S24⟩
def r10_Same_fu : Nat → qE → qE → Option Bool
  | 0, _, _ => none
  | fu + 1, p0, p1 => (bif ((((p0.Kind != p1.Kind) || (p0.Op != p1.Op)) || (!((p0.V.Kind == p1.V.Kind) && ((p0.V.N == p1.V.N) && sEq p0.V.S p1.V.S)))) || (!sEq p0.Name p1.Name)) then some false else (r10_SameList (r10_Same_fu fu) p0.Kids p1.Kids).bind (fun (r22 : Bool) => some r22))
noncomputable def r10_Same (p0 : qE) (p1 : qE) : Option Bool := anyFuel (fun fu => r10_Same_fu fu p0 p1)
theorem r10_Same_fu_ok : ∀ (fu : Nat) {E w : World} {I : Mem} {Os : List Mem} {p0 : qE} {p1 : qE} {w_p0 : W_qE} {w_p1 : W_qE} (h_p0 : ok_qE I p0 w_p0) (h_p1 : ok_qE I p1 w_p1) (hS : St E w I Os) {r : Bool} (D : r10_Same_fu fu p0 p1 = some r),
    Calls P 43 #[(vE p0 w_p0), (vE p1 w_p1)] w (fun e w' => ∃ (I' : Mem), e = .returned (.bool r) ∧ I.Le I' ∧ St E w' I' Os) := by
  intro fu
  induction fu with
  | zero => intro E w I Os p0 p1 w_p0 w_p1 h_p0 h_p1 hS r D; cases D
  | succ fu ih =>
  intro E w I Os p0 p1 w_p0 w_p1 h_p0 h_p1 hS r D
  refine calls_W (args := [(vE p0 w_p0), (vE p1 w_p1)]) (fn := Try.f43) rfl rfl rfl ?_
  unfold r10_Same_fu at D
  refine W.seq ?_
  refine W.region (l := [0, 1, 2]) kr ?_
  refine yu hS z kr z (.cells (cs_qE p0 w_p0).toArray 84 (0, 0)) (fun b => .pointer (some ⟨b, 0, none⟩)) kr tv ?_
  intro b1 w4 S3
  refine yu S3 z kr z (.cells (cs_qE p1 w_p1).toArray 84 (0, 0)) (fun b => .pointer (some ⟨b, 0, none⟩)) kr tv ?_
  intro b5 w8 S7
  refine ya [(2, 4, (.bool false))] kr (fun _ => by kernel_rfl) ?_
  refine yc ?_
  refine yb ?_
  refine W.seq ?_
  refine W.seq ?_
  refine W.region (l := [0, 1, 2, 3, 4, 5, 6, 7, 8, 9, 10, 11, 12, 13, 14, 15, 16, 17, 18, 19, 20, 21, 22, 23, 24, 25]) kr ?_
  refine ya [(0, 5, (.pointer (some ⟨b1, 0, none⟩)))] kr (fun _ => by kernel_rfl) ?_
  refine yf z kr kr z (v := (.int .i64 p0.Kind)) (fun w' hw' => cell_one ((rd_f (S7.rd (List.Mem.tail _ (List.Mem.head _)))) w' hw') kr) ?_
  refine ya [(2, 7, (.pointer (some ⟨b5, 0, none⟩)))] kr (fun _ => by kernel_rfl) ?_
  refine yf z kr kr z (v := (.int .i64 p1.Kind)) (fun w' hw' => cell_one ((rd_f (S7.rd (List.Mem.head _))) w' hw') kr) ?_
  refine ya [(4, 9, (.bool (p0.Kind != p1.Kind))), (5, 10, (.bool (p0.Kind != p1.Kind)))] kr (fun _ => by kernel_rfl) ?_
  refine WO.join (l1 := [6, 7, 8, 9, 10, 11]) (l2 := [12, 13, 14, 15, 16, 17, 18, 19, 20, 21, 22, 23, 24, 25]) (J := fun frx wx => frx = [(16, (.bool ((p0.Kind != p1.Kind) || (p0.Op != p1.Op)))), (2, (.pointer (some ⟨b1, 0, none⟩))), (3, (.pointer (some ⟨b5, 0, none⟩)))] ∧ w8 = wx) ?restm9 ?waysm9
  case waysm9 =>
    refine yt (p0.Kind != p1.Kind) (fun G => ?_) (fun G => ?_)
    · skip
      refine ye 10 z (show Value.bool (p0.Kind != p1.Kind) = Value.bool true by rw [G]) ?_
      refine yd z kr z ?_
      refine yd z kr z ?_
      refine yd z kr z ?_
      refine yd z kr z ?_
      refine yd z kr z ?_
      refine ya [(11, 16, (.bool true))] kr (fun _ => by kernel_rfl) ?_
      refine WO.weaken (fr' := [(16, (.bool ((p0.Kind != p1.Kind) || (p0.Op != p1.Op)))), (2, (.pointer (some ⟨b1, 0, none⟩))), (3, (.pointer (some ⟨b5, 0, none⟩)))]) (yi ⟨rfl, rfl⟩) (Sub.cons (by rw [G]; rfl) (Sub.cons z (Sub.cons z Sub.nil)))
    · skip
      refine ye 10 z (show Value.bool (p0.Kind != p1.Kind) = Value.bool false by rw [G]) ?_
      refine ya [(6, 11, (.pointer (some ⟨b1, 1, none⟩)))] kr (fun _ => by kernel_rfl) ?_
      refine yf z kr kr z (v := (.int .i64 p0.Op)) (fun w' hw' => cell_one ((rd_f (S7.rd (List.Mem.tail _ (List.Mem.head _)))) w' hw') kr) ?_
      refine ya [(8, 13, (.pointer (some ⟨b5, 1, none⟩)))] kr (fun _ => by kernel_rfl) ?_
      refine yf z kr kr z (v := (.int .i64 p1.Op)) (fun w' hw' => cell_one ((rd_f (S7.rd (List.Mem.head _))) w' hw') kr) ?_
      refine ya [(10, 15, (.bool (p0.Op != p1.Op))), (11, 16, (.bool (p0.Op != p1.Op)))] kr (fun _ => by kernel_rfl) ?_
      refine WO.weaken (fr' := [(16, (.bool ((p0.Kind != p1.Kind) || (p0.Op != p1.Op)))), (2, (.pointer (some ⟨b1, 0, none⟩))), (3, (.pointer (some ⟨b5, 0, none⟩)))]) (yi ⟨rfl, rfl⟩) (Sub.cons (by rw [G]; rfl) (Sub.cons z (Sub.cons z Sub.nil)))
  case restm9 =>
    rintro _ _ ⟨rfl, rfl⟩
    refine ya [(12, 17, (.bool ((p0.Kind != p1.Kind) || (p0.Op != p1.Op))))] kr (fun _ => by kernel_rfl) ?_
    refine WO.join (l1 := [13, 14, 15, 16, 17, 18]) (l2 := [19, 20, 21, 22, 23, 24, 25]) (J := fun frx wx => frx = [(23, (.bool (((p0.Kind != p1.Kind) || (p0.Op != p1.Op)) || (!((p0.V.Kind == p1.V.Kind) && ((p0.V.N == p1.V.N) && sEq p0.V.S p1.V.S)))))), (2, (.pointer (some ⟨b1, 0, none⟩))), (3, (.pointer (some ⟨b5, 0, none⟩)))] ∧ w8 = wx) ?restm11 ?waysm11
    case waysm11 =>
      refine yt ((p0.Kind != p1.Kind) || (p0.Op != p1.Op)) (fun G => ?_) (fun G => ?_)
      · skip
        refine ye 17 z (show Value.bool ((p0.Kind != p1.Kind) || (p0.Op != p1.Op)) = Value.bool true by rw [G]) ?_
        refine yd z kr z ?_
        refine yd z kr z ?_
        refine yd z kr z ?_
        refine yd z kr z ?_
        refine yd z kr z ?_
        refine ya [(18, 23, (.bool true))] kr (fun _ => by kernel_rfl) ?_
        refine WO.weaken (fr' := [(23, (.bool (((p0.Kind != p1.Kind) || (p0.Op != p1.Op)) || (!((p0.V.Kind == p1.V.Kind) && ((p0.V.N == p1.V.N) && sEq p0.V.S p1.V.S)))))), (2, (.pointer (some ⟨b1, 0, none⟩))), (3, (.pointer (some ⟨b5, 0, none⟩)))]) (yi ⟨rfl, rfl⟩) (Sub.cons (by rw [G]; rfl) (Sub.cons z (Sub.cons z Sub.nil)))
      · skip
        refine ye 17 z (show Value.bool ((p0.Kind != p1.Kind) || (p0.Op != p1.Op)) = Value.bool false by rw [G]) ?_
        refine ya [(13, 18, (.pointer (some ⟨b1, 2, none⟩)))] kr (fun _ => by kernel_rfl) ?_
        refine yp z kr kr z ((cs_qV p0.V)) kr (fun w' hw' => cells_one ((rd_f (S7.rd (List.Mem.tail _ (List.Mem.head _)))) w' hw') kr) ?_
        refine ya [(15, 20, (.pointer (some ⟨b5, 2, none⟩)))] kr (fun _ => by kernel_rfl) ?_
        refine yp z kr kr z ((cs_qV p1.V)) kr (fun w' hw' => cells_one ((rd_f (S7.rd (List.Mem.head _))) w' hw') kr) ?_
        refine yal z kr z z kr 50 z (b := ((p0.V.Kind == p1.V.Kind) && ((p0.V.N == p1.V.N) && (sEq p0.V.S p1.V.S && true)))) kr (!((p0.V.Kind == p1.V.Kind) && ((p0.V.N == p1.V.N) && sEq p0.V.S p1.V.S))) (.inr ⟨rfl, by simp only [Bool.and_true]⟩) ?_
        refine ya [(18, 23, (.bool (!((p0.V.Kind == p1.V.Kind) && ((p0.V.N == p1.V.N) && sEq p0.V.S p1.V.S)))))] kr (fun _ => by kernel_rfl) ?_
        refine WO.weaken (fr' := [(23, (.bool (((p0.Kind != p1.Kind) || (p0.Op != p1.Op)) || (!((p0.V.Kind == p1.V.Kind) && ((p0.V.N == p1.V.N) && sEq p0.V.S p1.V.S)))))), (2, (.pointer (some ⟨b1, 0, none⟩))), (3, (.pointer (some ⟨b5, 0, none⟩)))]) (yi ⟨rfl, rfl⟩) (Sub.cons (by rw [G]; rfl) (Sub.cons z (Sub.cons z Sub.nil)))
    case restm11 =>
      rintro _ _ ⟨rfl, rfl⟩
      refine ya [(19, 24, (.bool (((p0.Kind != p1.Kind) || (p0.Op != p1.Op)) || (!((p0.V.Kind == p1.V.Kind) && ((p0.V.N == p1.V.N) && sEq p0.V.S p1.V.S))))))] kr (fun _ => by kernel_rfl) ?_
      refine WO.join (l1 := [20, 21, 22, 23, 24, 25]) (l2 := []) (J := fun frx wx => frx = [(30, (.bool ((((p0.Kind != p1.Kind) || (p0.Op != p1.Op)) || (!((p0.V.Kind == p1.V.Kind) && ((p0.V.N == p1.V.N) && sEq p0.V.S p1.V.S)))) || (!sEq p0.Name p1.Name)))), (2, (.pointer (some ⟨b1, 0, none⟩))), (3, (.pointer (some ⟨b5, 0, none⟩)))] ∧ w8 = wx) ?restm13 ?waysm13
      case waysm13 =>
        refine yt (((p0.Kind != p1.Kind) || (p0.Op != p1.Op)) || (!((p0.V.Kind == p1.V.Kind) && ((p0.V.N == p1.V.N) && sEq p0.V.S p1.V.S)))) (fun G => ?_) (fun G => ?_)
        · skip
          refine ye 24 z (show Value.bool (((p0.Kind != p1.Kind) || (p0.Op != p1.Op)) || (!((p0.V.Kind == p1.V.Kind) && ((p0.V.N == p1.V.N) && sEq p0.V.S p1.V.S)))) = Value.bool true by rw [G]) ?_
          refine yd z kr z ?_
          refine yd z kr z ?_
          refine yd z kr z ?_
          refine yd z kr z ?_
          refine yd z kr z ?_
          refine ya [(25, 30, (.bool true))] kr (fun _ => by kernel_rfl) ?_
          refine WO.weaken (fr' := [(30, (.bool ((((p0.Kind != p1.Kind) || (p0.Op != p1.Op)) || (!((p0.V.Kind == p1.V.Kind) && ((p0.V.N == p1.V.N) && sEq p0.V.S p1.V.S)))) || (!sEq p0.Name p1.Name)))), (2, (.pointer (some ⟨b1, 0, none⟩))), (3, (.pointer (some ⟨b5, 0, none⟩)))]) (yi ⟨rfl, rfl⟩) (Sub.cons (by rw [G]; rfl) (Sub.cons z (Sub.cons z Sub.nil)))
        · skip
          refine ye 24 z (show Value.bool (((p0.Kind != p1.Kind) || (p0.Op != p1.Op)) || (!((p0.V.Kind == p1.V.Kind) && ((p0.V.N == p1.V.N) && sEq p0.V.S p1.V.S)))) = Value.bool false by rw [G]) ?_
          refine ya [(20, 25, (.pointer (some ⟨b1, 5, none⟩)))] kr (fun _ => by kernel_rfl) ?_
          refine yf z kr kr z (v := (.string p0.Name)) (fun w' hw' => cell_one ((rd_f (S7.rd (List.Mem.tail _ (List.Mem.head _)))) w' hw') kr) ?_
          refine ya [(22, 27, (.pointer (some ⟨b5, 5, none⟩)))] kr (fun _ => by kernel_rfl) ?_
          refine yf z kr kr z (v := (.string p1.Name)) (fun w' hw' => cell_one ((rd_f (S7.rd (List.Mem.head _))) w' hw') kr) ?_
          refine ya [(24, 29, (.bool (!sEq p0.Name p1.Name))), (25, 30, (.bool (!sEq p0.Name p1.Name)))] kr (fun _ => by kernel_rfl) ?_
          refine WO.weaken (fr' := [(30, (.bool ((((p0.Kind != p1.Kind) || (p0.Op != p1.Op)) || (!((p0.V.Kind == p1.V.Kind) && ((p0.V.N == p1.V.N) && sEq p0.V.S p1.V.S)))) || (!sEq p0.Name p1.Name)))), (2, (.pointer (some ⟨b1, 0, none⟩))), (3, (.pointer (some ⟨b5, 0, none⟩)))]) (yi ⟨rfl, rfl⟩) (Sub.cons (by rw [G]; rfl) (Sub.cons z (Sub.cons z Sub.nil)))
      case restm13 =>
        rintro _ _ ⟨rfl, rfl⟩
        refine yc ?_
        refine yb ?_
        refine W.cond (b := ((((p0.Kind != p1.Kind) || (p0.Op != p1.Op)) || (!((p0.V.Kind == p1.V.Kind) && ((p0.V.N == p1.V.N) && sEq p0.V.S p1.V.S)))) || (!sEq p0.Name p1.Name))) z z (fun G => ?_) (fun G => ?_)
        · replace D := cond_t G D
          refine W.seq ?_
          refine W.region (l := [0]) kr ?_
          refine ya [(0, 4, (.bool false))] kr (fun _ => by kernel_rfl) ?_
          refine yc ?_
          refine yb ?_
          refine ym ?_
          refine yg ?_
          have S15 := S7.drop
          have S16 := S15.drop
          have he := Option.some.inj D
          subst r
          exact yl z (.bool false) z ⟨I, rfl, Mem.Le.refl _, S16⟩
        · replace D := cond_f G D
          refine W.skip ?_
          refine yb ?_
          refine W.seq ?_
          refine W.region (l := [0, 1, 2, 3, 4, 5]) kr ?_
          refine ya [(0, 31, (.pointer (some ⟨b1, 6, none⟩)))] kr (fun _ => by kernel_rfl) ?_
          refine yf z kr kr z (v := (.slice w_p0.Kids.a p0.Kids.length w_p0.Kids.c)) (fun w' hw' => cell_one ((rd_f (S7.rd (List.Mem.tail _ (List.Mem.head _)))) w' hw') kr) ?_
          refine ya [(2, 33, (.pointer (some ⟨b5, 6, none⟩)))] kr (fun _ => by kernel_rfl) ?_
          refine yf z kr kr z (v := (.slice w_p1.Kids.a p1.Kids.length w_p1.Kids.c)) (fun w' hw' => cell_one ((rd_f (S7.rd (List.Mem.head _))) w' hw') kr) ?_
          obtain ⟨r22, Xr17, D⟩ := bind_some D
          refine yj z kr z (f := 67) (args := #[(.slice w_p0.Kids.a p0.Kids.length w_p0.Kids.c), (.slice w_p1.Kids.a p1.Kids.length w_p1.Kids.c)]) kr (r10_SameList_ok ih h_p0.Kids h_p1.Kids S7 Xr17) ?_
          rintro _ w18 ⟨I19, rfl, L20, S21⟩
          refine ⟨_, rfl, trivial, ?_⟩
          refine ya [(5, 4, (.bool r22))] kr (fun _ => by kernel_rfl) ?_
          refine yc ?_
          refine yb ?_
          refine ym ?_
          have S23 := S21.drop
          have S24 := S23.drop
          have he := Option.some.inj D
          subst r
          exact yl z (.bool r22) z ⟨I19, rfl, L20, S24⟩
theorem r10_Same_ok {p0 : qE} {p1 : qE} {w_p0 : W_qE} {w_p1 : W_qE} (h_p0 : ok_qE I p0 w_p0) (h_p1 : ok_qE I p1 w_p1) (hS : St E w I Os) {r : Bool} (D : r10_Same p0 p1 = some r) :
    Calls P 43 #[(vE p0 w_p0), (vE p1 w_p1)] w (fun e w' => ∃ (I' : Mem), e = .returned (.bool r) ∧ I.Le I' ∧ St E w' I' Os) := by
  obtain ⟨fu, hf⟩ := anyFuel_some D
  exact r10_Same_fu_ok fu h_p0 h_p1 hS hf
noncomputable def r12_SameCons (p0 : qK) (p1 : qK) : Option Bool := ((bif (((sEq p0.Name p1.Name) && (p0.Kind == p1.Kind)) && (sEq p0.Table p1.Table)) then (r12_SameTexts p0.Cols p1.Cols).bind (fun (r22 : Bool) => some r22) else some false)).bind (fun (j13 : Bool) => ((bif j13 then (r12_SameTexts p0.Refs p1.Refs).bind (fun (r36 : Bool) => some r36) else some false)).bind (fun (j27 : Bool) => ((bif j27 then (r10_Same p0.Check p1.Check).bind (fun (r48 : Bool) => some r48) else some false)).bind (fun (j39 : Bool) => some j39)))
theorem r12_SameCons_ok {p0 : qK} {p1 : qK} {w_p0 : W_qK} {w_p1 : W_qK} (h_p0 : ok_qK I p0 w_p0) (h_p1 : ok_qK I p1 w_p1) (hS : St E w I Os) {r : Bool} (D : r12_SameCons p0 p1 = some r) :
    Calls P 33 #[(vK p0 w_p0), (vK p1 w_p1)] w (fun e w' => ∃ (I' : Mem), e = .returned (.bool r) ∧ I.Le I' ∧ St E w' I' Os) := by
  refine calls_W (args := [(vK p0 w_p0), (vK p1 w_p1)]) (fn := Try.f33) rfl rfl rfl ?_
  unfold r12_SameCons at D
  refine W.seq ?_
  refine W.region (l := [0, 1, 2]) kr ?_
  refine yu hS z kr z (.cells (cs_qK p0 w_p0).toArray 86 (0, 0)) (fun b => .pointer (some ⟨b, 0, none⟩)) kr tv ?_
  intro b1 w4 S3
  refine yu S3 z kr z (.cells (cs_qK p1 w_p1).toArray 86 (0, 0)) (fun b => .pointer (some ⟨b, 0, none⟩)) kr tv ?_
  intro b5 w8 S7
  refine ya [(2, 4, (.bool false))] kr (fun _ => by kernel_rfl) ?_
  refine yc ?_
  refine yb ?_
  refine W.seq ?_
  refine W.region (l := [0, 1, 2, 3, 4, 5, 6, 7, 8, 9, 10, 11, 12, 13, 14, 15, 16, 17, 18, 19, 20, 21, 22, 23, 24, 25, 26, 27, 28, 29, 30, 31, 32, 33, 34, 35, 36, 37, 38, 39, 40]) kr ?_
  refine ya [(0, 5, (.pointer (some ⟨b1, 0, none⟩)))] kr (fun _ => by kernel_rfl) ?_
  refine yf z kr kr z (v := (.string p0.Name)) (fun w' hw' => cell_one ((rd_f (S7.rd (List.Mem.tail _ (List.Mem.head _)))) w' hw') kr) ?_
  refine ya [(2, 7, (.pointer (some ⟨b5, 0, none⟩)))] kr (fun _ => by kernel_rfl) ?_
  refine yf z kr kr z (v := (.string p1.Name)) (fun w' hw' => cell_one ((rd_f (S7.rd (List.Mem.head _))) w' hw') kr) ?_
  refine ya [(4, 9, (.bool (sEq p0.Name p1.Name))), (5, 10, (.bool (sEq p0.Name p1.Name)))] kr (fun _ => by kernel_rfl) ?_
  refine WO.join (l1 := [6, 7, 8, 9, 10, 11]) (l2 := [12, 13, 14, 15, 16, 17, 18, 19, 20, 21, 22, 23, 24, 25, 26, 27, 28, 29, 30, 31, 32, 33, 34, 35, 36, 37, 38, 39, 40]) (J := fun frx wx => frx = [(16, (.bool ((sEq p0.Name p1.Name) && (p0.Kind == p1.Kind)))), (2, (.pointer (some ⟨b1, 0, none⟩))), (3, (.pointer (some ⟨b5, 0, none⟩)))] ∧ w8 = wx) ?restm9 ?waysm9
  case waysm9 =>
    refine yt (sEq p0.Name p1.Name) (fun G => ?_) (fun G => ?_)
    · skip
      refine ye 10 z (show Value.bool (sEq p0.Name p1.Name) = Value.bool true by rw [G]) ?_
      refine ya [(6, 11, (.pointer (some ⟨b1, 1, none⟩)))] kr (fun _ => by kernel_rfl) ?_
      refine yf z kr kr z (v := (.int .i64 p0.Kind)) (fun w' hw' => cell_one ((rd_f (S7.rd (List.Mem.tail _ (List.Mem.head _)))) w' hw') kr) ?_
      refine ya [(8, 13, (.pointer (some ⟨b5, 1, none⟩)))] kr (fun _ => by kernel_rfl) ?_
      refine yf z kr kr z (v := (.int .i64 p1.Kind)) (fun w' hw' => cell_one ((rd_f (S7.rd (List.Mem.head _))) w' hw') kr) ?_
      refine ya [(10, 15, (.bool (p0.Kind == p1.Kind))), (11, 16, (.bool (p0.Kind == p1.Kind)))] kr (fun _ => by kernel_rfl) ?_
      refine WO.weaken (fr' := [(16, (.bool ((sEq p0.Name p1.Name) && (p0.Kind == p1.Kind)))), (2, (.pointer (some ⟨b1, 0, none⟩))), (3, (.pointer (some ⟨b5, 0, none⟩)))]) (yi ⟨rfl, rfl⟩) (Sub.cons (by rw [G]; rfl) (Sub.cons z (Sub.cons z Sub.nil)))
    · skip
      refine ye 10 z (show Value.bool (sEq p0.Name p1.Name) = Value.bool false by rw [G]) ?_
      refine yd z kr z ?_
      refine yd z kr z ?_
      refine yd z kr z ?_
      refine yd z kr z ?_
      refine yd z kr z ?_
      refine ya [(11, 16, (.bool false))] kr (fun _ => by kernel_rfl) ?_
      refine WO.weaken (fr' := [(16, (.bool ((sEq p0.Name p1.Name) && (p0.Kind == p1.Kind)))), (2, (.pointer (some ⟨b1, 0, none⟩))), (3, (.pointer (some ⟨b5, 0, none⟩)))]) (yi ⟨rfl, rfl⟩) (Sub.cons (by rw [G]; rfl) (Sub.cons z (Sub.cons z Sub.nil)))
  case restm9 =>
    rintro _ _ ⟨rfl, rfl⟩
    refine ya [(12, 17, (.bool ((sEq p0.Name p1.Name) && (p0.Kind == p1.Kind))))] kr (fun _ => by kernel_rfl) ?_
    refine WO.join (l1 := [13, 14, 15, 16, 17, 18]) (l2 := [19, 20, 21, 22, 23, 24, 25, 26, 27, 28, 29, 30, 31, 32, 33, 34, 35, 36, 37, 38, 39, 40]) (J := fun frx wx => frx = [(23, (.bool (((sEq p0.Name p1.Name) && (p0.Kind == p1.Kind)) && (sEq p0.Table p1.Table)))), (2, (.pointer (some ⟨b1, 0, none⟩))), (3, (.pointer (some ⟨b5, 0, none⟩)))] ∧ w8 = wx) ?restm11 ?waysm11
    case waysm11 =>
      refine yt ((sEq p0.Name p1.Name) && (p0.Kind == p1.Kind)) (fun G => ?_) (fun G => ?_)
      · skip
        refine ye 17 z (show Value.bool ((sEq p0.Name p1.Name) && (p0.Kind == p1.Kind)) = Value.bool true by rw [G]) ?_
        refine ya [(13, 18, (.pointer (some ⟨b1, 10, none⟩)))] kr (fun _ => by kernel_rfl) ?_
        refine yf z kr kr z (v := (.string p0.Table)) (fun w' hw' => cell_one ((rd_f (S7.rd (List.Mem.tail _ (List.Mem.head _)))) w' hw') kr) ?_
        refine ya [(15, 20, (.pointer (some ⟨b5, 10, none⟩)))] kr (fun _ => by kernel_rfl) ?_
        refine yf z kr kr z (v := (.string p1.Table)) (fun w' hw' => cell_one ((rd_f (S7.rd (List.Mem.head _))) w' hw') kr) ?_
        refine ya [(17, 22, (.bool (sEq p0.Table p1.Table))), (18, 23, (.bool (sEq p0.Table p1.Table)))] kr (fun _ => by kernel_rfl) ?_
        refine WO.weaken (fr' := [(23, (.bool (((sEq p0.Name p1.Name) && (p0.Kind == p1.Kind)) && (sEq p0.Table p1.Table)))), (2, (.pointer (some ⟨b1, 0, none⟩))), (3, (.pointer (some ⟨b5, 0, none⟩)))]) (yi ⟨rfl, rfl⟩) (Sub.cons (by rw [G]; rfl) (Sub.cons z (Sub.cons z Sub.nil)))
      · skip
        refine ye 17 z (show Value.bool ((sEq p0.Name p1.Name) && (p0.Kind == p1.Kind)) = Value.bool false by rw [G]) ?_
        refine yd z kr z ?_
        refine yd z kr z ?_
        refine yd z kr z ?_
        refine yd z kr z ?_
        refine yd z kr z ?_
        refine ya [(18, 23, (.bool false))] kr (fun _ => by kernel_rfl) ?_
        refine WO.weaken (fr' := [(23, (.bool (((sEq p0.Name p1.Name) && (p0.Kind == p1.Kind)) && (sEq p0.Table p1.Table)))), (2, (.pointer (some ⟨b1, 0, none⟩))), (3, (.pointer (some ⟨b5, 0, none⟩)))]) (yi ⟨rfl, rfl⟩) (Sub.cons (by rw [G]; rfl) (Sub.cons z (Sub.cons z Sub.nil)))
    case restm11 =>
      rintro _ _ ⟨rfl, rfl⟩
      refine ya [(19, 24, (.bool (((sEq p0.Name p1.Name) && (p0.Kind == p1.Kind)) && (sEq p0.Table p1.Table))))] kr (fun _ => by kernel_rfl) ?_
      obtain ⟨j13, R1, D⟩ := bind_some D
      refine WO.join (l1 := [20, 21, 22, 23, 24, 25]) (l2 := [26, 27, 28, 29, 30, 31, 32, 33, 34, 35, 36, 37, 38, 39, 40]) (J := (fun fr w => ∃ (I15 : Mem), fr = [(2, (.pointer (some ⟨b1, 0, none⟩))), (3, (.pointer (some ⟨b5, 0, none⟩))), (30, (.bool j13))] ∧ I.Le I15 ∧ St E w I15 ((Gv.one b1 (.cells (cs_qK p0 w_p0).toArray 86 (0, 0))) :: (Gv.one b5 (.cells (cs_qK p1 w_p1).toArray 86 (0, 0))) :: Os))) ?restj13 ?waysj13
      case waysj13 =>
        refine yt (((sEq p0.Name p1.Name) && (p0.Kind == p1.Kind)) && (sEq p0.Table p1.Table)) (fun G => ?_) (fun G => ?_)
        · replace R1 := cond_t G R1
          refine ye 24 z (show Value.bool (((sEq p0.Name p1.Name) && (p0.Kind == p1.Kind)) && (sEq p0.Table p1.Table)) = Value.bool true by rw [G]) ?_
          refine ya [(20, 25, (.pointer (some ⟨b1, 2, none⟩)))] kr (fun _ => by kernel_rfl) ?_
          refine yf z kr kr z (v := (.slice w_p0.Cols.a p0.Cols.length w_p0.Cols.c)) (fun w' hw' => cell_one ((rd_f (S7.rd (List.Mem.tail _ (List.Mem.head _)))) w' hw') kr) ?_
          refine ya [(22, 27, (.pointer (some ⟨b5, 2, none⟩)))] kr (fun _ => by kernel_rfl) ?_
          refine yf z kr kr z (v := (.slice w_p1.Cols.a p1.Cols.length w_p1.Cols.c)) (fun w' hw' => cell_one ((rd_f (S7.rd (List.Mem.head _))) w' hw') kr) ?_
          obtain ⟨r22, Xr17, R1⟩ := bind_some R1
          refine yj z kr z (f := 34) (args := #[(.slice w_p0.Cols.a p0.Cols.length w_p0.Cols.c), (.slice w_p1.Cols.a p1.Cols.length w_p1.Cols.c)]) kr (r12_SameTexts_ok h_p0.Cols h_p1.Cols S7 Xr17) ?_
          rintro _ w18 ⟨I19, rfl, L20, S21⟩
          refine ⟨_, rfl, trivial, ?_⟩
          refine ya [(25, 30, (.bool r22))] kr (fun _ => by kernel_rfl) ?_
          have S23 := S21.front1
          have he := Option.some.inj R1
          subst j13
          refine WO.weaken (fr' := [(2, (.pointer (some ⟨b1, 0, none⟩))), (3, (.pointer (some ⟨b5, 0, none⟩))), (30, (.bool r22))]) (yi ⟨I19, rfl, L20, S23⟩) (Sub.cons z (Sub.cons z (Sub.cons z Sub.nil)))
        · replace R1 := cond_f G R1
          refine ye 24 z (show Value.bool (((sEq p0.Name p1.Name) && (p0.Kind == p1.Kind)) && (sEq p0.Table p1.Table)) = Value.bool false by rw [G]) ?_
          refine yd z kr z ?_
          refine yd z kr z ?_
          refine yd z kr z ?_
          refine yd z kr z ?_
          refine yd z kr z ?_
          refine ya [(25, 30, (.bool false))] kr (fun _ => by kernel_rfl) ?_
          have S24 := S7.front1
          have he := Option.some.inj R1
          subst j13
          refine WO.weaken (fr' := [(2, (.pointer (some ⟨b1, 0, none⟩))), (3, (.pointer (some ⟨b5, 0, none⟩))), (30, (.bool false))]) (yi ⟨I, rfl, Mem.Le.refl _, S24⟩) (Sub.cons z (Sub.cons z (Sub.cons z Sub.nil)))
      case restj13 =>
        rintro _ w25 ⟨I15, rfl, L16, S26⟩
        refine ya [(26, 31, (.bool j13))] kr (fun _ => by kernel_rfl) ?_
        obtain ⟨j27, R1, D⟩ := bind_some D
        refine WO.join (l1 := [27, 28, 29, 30, 31, 32]) (l2 := [33, 34, 35, 36, 37, 38, 39, 40]) (J := (fun fr w => ∃ (I29 : Mem), fr = [(2, (.pointer (some ⟨b1, 0, none⟩))), (3, (.pointer (some ⟨b5, 0, none⟩))), (37, (.bool j27))] ∧ I15.Le I29 ∧ St E w I29 ((Gv.one b1 (.cells (cs_qK p0 w_p0).toArray 86 (0, 0))) :: (Gv.one b5 (.cells (cs_qK p1 w_p1).toArray 86 (0, 0))) :: Os))) ?restj27 ?waysj27
        case waysj27 =>
          refine yt j13 (fun G => ?_) (fun G => ?_)
          · replace R1 := cond_t G R1
            refine ye 31 z (show Value.bool j13 = Value.bool true by rw [G]) ?_
            refine ya [(27, 32, (.pointer (some ⟨b1, 11, none⟩)))] kr (fun _ => by kernel_rfl) ?_
            refine yf z kr kr z (v := (.slice w_p0.Refs.a p0.Refs.length w_p0.Refs.c)) (fun w' hw' => cell_one ((rd_f (S26.rd (List.Mem.head _))) w' hw') kr) ?_
            refine ya [(29, 34, (.pointer (some ⟨b5, 11, none⟩)))] kr (fun _ => by kernel_rfl) ?_
            refine yf z kr kr z (v := (.slice w_p1.Refs.a p1.Refs.length w_p1.Refs.c)) (fun w' hw' => cell_one ((rd_f (S26.rd (List.Mem.tail _ (List.Mem.head _)))) w' hw') kr) ?_
            obtain ⟨r36, Xr31, R1⟩ := bind_some R1
            refine yj z kr z (f := 34) (args := #[(.slice w_p0.Refs.a p0.Refs.length w_p0.Refs.c), (.slice w_p1.Refs.a p1.Refs.length w_p1.Refs.c)]) kr (r12_SameTexts_ok (RSl.mono h_p0.Refs L16) (RSl.mono h_p1.Refs L16) S26 Xr31) ?_
            rintro _ w32 ⟨I33, rfl, L34, S35⟩
            refine ⟨_, rfl, trivial, ?_⟩
            refine ya [(32, 37, (.bool r36))] kr (fun _ => by kernel_rfl) ?_
            have he := Option.some.inj R1
            subst j27
            refine WO.weaken (fr' := [(2, (.pointer (some ⟨b1, 0, none⟩))), (3, (.pointer (some ⟨b5, 0, none⟩))), (37, (.bool r36))]) (yi ⟨I33, rfl, L34, S35⟩) (Sub.cons z (Sub.cons z (Sub.cons z Sub.nil)))
          · replace R1 := cond_f G R1
            refine ye 31 z (show Value.bool j13 = Value.bool false by rw [G]) ?_
            refine yd z kr z ?_
            refine yd z kr z ?_
            refine yd z kr z ?_
            refine yd z kr z ?_
            refine yd z kr z ?_
            refine ya [(32, 37, (.bool false))] kr (fun _ => by kernel_rfl) ?_
            have he := Option.some.inj R1
            subst j27
            refine WO.weaken (fr' := [(2, (.pointer (some ⟨b1, 0, none⟩))), (3, (.pointer (some ⟨b5, 0, none⟩))), (37, (.bool false))]) (yi ⟨I15, rfl, Mem.Le.refl _, S26⟩) (Sub.cons z (Sub.cons z (Sub.cons z Sub.nil)))
        case restj27 =>
          rintro _ w37 ⟨I29, rfl, L30, S38⟩
          refine ya [(33, 38, (.bool j27))] kr (fun _ => by kernel_rfl) ?_
          obtain ⟨j39, R1, D⟩ := bind_some D
          refine WO.join (l1 := [34, 35, 36, 37, 38, 39]) (l2 := [40]) (J := (fun fr w => ∃ (I41 : Mem), fr = [(44, (.bool j39))] ∧ I29.Le I41 ∧ St E w I41 Os)) ?restj39 ?waysj39
          case waysj39 =>
            refine yt j27 (fun G => ?_) (fun G => ?_)
            · replace R1 := cond_t G R1
              refine ye 38 z (show Value.bool j27 = Value.bool true by rw [G]) ?_
              refine ya [(34, 39, (.pointer (some ⟨b1, 3, none⟩)))] kr (fun _ => by kernel_rfl) ?_
              refine yp z kr kr z ((cs_qE p0.Check w_p0.Check)) kr (fun w' hw' => cells_one ((rd_f (S38.rd (List.Mem.head _))) w' hw') kr) ?_
              refine ya [(36, 41, (.pointer (some ⟨b5, 3, none⟩)))] kr (fun _ => by kernel_rfl) ?_
              refine yp z kr kr z ((cs_qE p1.Check w_p1.Check)) kr (fun w' hw' => cells_one ((rd_f (S38.rd (List.Mem.tail _ (List.Mem.head _)))) w' hw') kr) ?_
              obtain ⟨r48, Xr43, R1⟩ := bind_some R1
              refine yj z kr z (f := 43) (args := #[(vE p0.Check w_p0.Check), (vE p1.Check w_p1.Check)]) kr (r10_Same_ok (h_p0.Check.mono (L16.trans L30)) (h_p1.Check.mono (L16.trans L30)) S38 Xr43) ?_
              rintro _ w44 ⟨I45, rfl, L46, S47⟩
              refine ⟨_, rfl, trivial, ?_⟩
              refine ya [(39, 44, (.bool r48))] kr (fun _ => by kernel_rfl) ?_
              have S49 := S47.drop
              have S50 := S49.drop
              have he := Option.some.inj R1
              subst j39
              refine WO.weaken (fr' := [(44, (.bool r48))]) (yi ⟨I45, rfl, L46, S50⟩) (Sub.cons z Sub.nil)
            · replace R1 := cond_f G R1
              refine ye 38 z (show Value.bool j27 = Value.bool false by rw [G]) ?_
              refine yd z kr z ?_
              refine yd z kr z ?_
              refine yd z kr z ?_
              refine yd z kr z ?_
              refine yd z kr z ?_
              refine ya [(39, 44, (.bool false))] kr (fun _ => by kernel_rfl) ?_
              have S51 := S38.drop
              have S52 := S51.drop
              have he := Option.some.inj R1
              subst j39
              refine WO.weaken (fr' := [(44, (.bool false))]) (yi ⟨I29, rfl, Mem.Le.refl _, S52⟩) (Sub.cons z Sub.nil)
          case restj39 =>
            rintro _ w53 ⟨I41, rfl, L42, S54⟩
            refine ya [(40, 4, (.bool j39))] kr (fun _ => by kernel_rfl) ?_
            refine yc ?_
            refine yb ?_
            refine ym ?_
            have he := Option.some.inj D
            subst r
            exact yl z (.bool j39) z ⟨I41, rfl, ((L16.trans L30).trans L42), S54⟩
noncomputable def r14_Same (p0 : qT) (p1 : qT) : Option Bool := (bif ((((((!sEq p0.Name p1.Name) || (!sEq p0.Owner p1.Owner)) || (p0.Version != p1.Version)) || ((p0.Cols.length : Int) != (p1.Cols.length : Int))) || ((p0.Cons.length : Int) != (p1.Cons.length : Int))) || ((p0.Idx.length : Int) != (p1.Idx.length : Int))) then some false else (forN (fun (i24 : Nat) (_s : Unit) => (idx p0.Cols (i24 : Int)).bind (fun (x34 : qL) => (idx p1.Cols (i24 : Int)).bind (fun (x35 : qL) => (bif (!(sEq x34.Name x35.Name && ((x34.Type_ == x35.Type_) && (x34.NotNull == x35.NotNull)))) then some (.inr false) else some (.inl ()))))) p0.Cols.length 0 ()).bind (fun (t : Unit ⊕ (Bool)) => match t with | .inl _ => (forN (fun (i47 : Nat) (_s : Unit) => (idx p0.Cons (i47 : Int)).bind (fun (x56 : qK) => (idx p1.Cons (i47 : Int)).bind (fun (x57 : qK) => (r12_SameCons x56 x57).bind (fun (r63 : Bool) => (bif (!r63) then some (.inr false) else some (.inl ())))))) p0.Cons.length 0 ()).bind (fun (t : Unit ⊕ (Bool)) => match t with | .inl _ => (forN (fun (i75 : Nat) (_s : Unit) => (idx p0.Idx (i75 : Int)).bind (fun (x84 : qI) => (idx p1.Idx (i75 : Int)).bind (fun (x85 : qI) => ((bif (!sEq x84.Name x85.Name) then some true else (idx p0.Idx (i75 : Int)).bind (fun (x90 : qI) => (idx p1.Idx (i75 : Int)).bind (fun (x91 : qI) => (r12_SameTexts x90.Cols x91.Cols).bind (fun (r97 : Bool) => some (!r97)))))).bind (fun (j86 : Bool) => (bif j86 then some (.inr false) else some (.inl ())))))) p0.Idx.length 0 ()).bind (fun (t : Unit ⊕ (Bool)) => match t with | .inl _ => some true | .inr s101 => some s101) | .inr s65 => some s65) | .inr s37 => some s37))
theorem r14_Same_ok {p0 : qT} {p1 : qT} {w_p0 : W_qT} {w_p1 : W_qT} (h_p0 : ok_qT I p0 w_p0) (h_p1 : ok_qT I p1 w_p1) (hS : St E w I Os) {r : Bool} (D : r14_Same p0 p1 = some r) :
    Calls P 20 #[(vT p0 w_p0), (vT p1 w_p1)] w (fun e w' => ∃ (I' : Mem), e = .returned (.bool r) ∧ I.Le I' ∧ St E w' I' Os) := by
  refine calls_W (args := [(vT p0 w_p0), (vT p1 w_p1)]) (fn := Try.f20) rfl rfl rfl ?_
  unfold r14_Same at D
  refine W.seq ?_
  refine W.region (l := [0, 1, 2]) kr ?_
  refine yu hS z kr z (.cells (cs_qT p0 w_p0).toArray 64 (0, 0)) (fun b => .pointer (some ⟨b, 0, none⟩)) kr tv ?_
  intro b1 w4 S3
  refine yu S3 z kr z (.cells (cs_qT p1 w_p1).toArray 64 (0, 0)) (fun b => .pointer (some ⟨b, 0, none⟩)) kr tv ?_
  intro b5 w8 S7
  refine ya [(2, 4, (.bool false))] kr (fun _ => by kernel_rfl) ?_
  refine yc ?_
  refine yb ?_
  refine W.seq ?_
  refine W.seq ?_
  refine W.region (l := [0, 1, 2, 3, 4, 5, 6, 7, 8, 9, 10, 11, 12, 13, 14, 15, 16, 17, 18, 19, 20, 21, 22, 23, 24, 25, 26, 27, 28, 29, 30, 31, 32, 33, 34, 35, 36, 37, 38, 39, 40, 41, 42, 43, 44, 45]) kr ?_
  refine ya [(0, 8, (.pointer (some ⟨b1, 0, none⟩)))] kr (fun _ => by kernel_rfl) ?_
  refine yf z kr kr z (v := (.string p0.Name)) (fun w' hw' => cell_one ((rd_f (S7.rd (List.Mem.tail _ (List.Mem.head _)))) w' hw') kr) ?_
  refine ya [(2, 10, (.pointer (some ⟨b5, 0, none⟩)))] kr (fun _ => by kernel_rfl) ?_
  refine yf z kr kr z (v := (.string p1.Name)) (fun w' hw' => cell_one ((rd_f (S7.rd (List.Mem.head _))) w' hw') kr) ?_
  refine ya [(4, 12, (.bool (!sEq p0.Name p1.Name))), (5, 13, (.bool (!sEq p0.Name p1.Name)))] kr (fun _ => by kernel_rfl) ?_
  refine WO.join (l1 := [6, 7, 8, 9, 10, 11]) (l2 := [12, 13, 14, 15, 16, 17, 18, 19, 20, 21, 22, 23, 24, 25, 26, 27, 28, 29, 30, 31, 32, 33, 34, 35, 36, 37, 38, 39, 40, 41, 42, 43, 44, 45]) (J := fun frx wx => frx = [(19, (.bool ((!sEq p0.Name p1.Name) || (!sEq p0.Owner p1.Owner)))), (2, (.pointer (some ⟨b1, 0, none⟩))), (3, (.pointer (some ⟨b5, 0, none⟩)))] ∧ w8 = wx) ?restm9 ?waysm9
  case waysm9 =>
    refine yt (!sEq p0.Name p1.Name) (fun G => ?_) (fun G => ?_)
    · skip
      refine ye 13 z (show Value.bool (!sEq p0.Name p1.Name) = Value.bool true by rw [G]) ?_
      refine yd z kr z ?_
      refine yd z kr z ?_
      refine yd z kr z ?_
      refine yd z kr z ?_
      refine yd z kr z ?_
      refine ya [(11, 19, (.bool true))] kr (fun _ => by kernel_rfl) ?_
      refine WO.weaken (fr' := [(19, (.bool ((!sEq p0.Name p1.Name) || (!sEq p0.Owner p1.Owner)))), (2, (.pointer (some ⟨b1, 0, none⟩))), (3, (.pointer (some ⟨b5, 0, none⟩)))]) (yi ⟨rfl, rfl⟩) (Sub.cons (by rw [G]; rfl) (Sub.cons z (Sub.cons z Sub.nil)))
    · skip
      refine ye 13 z (show Value.bool (!sEq p0.Name p1.Name) = Value.bool false by rw [G]) ?_
      refine ya [(6, 14, (.pointer (some ⟨b1, 1, none⟩)))] kr (fun _ => by kernel_rfl) ?_
      refine yf z kr kr z (v := (.string p0.Owner)) (fun w' hw' => cell_one ((rd_f (S7.rd (List.Mem.tail _ (List.Mem.head _)))) w' hw') kr) ?_
      refine ya [(8, 16, (.pointer (some ⟨b5, 1, none⟩)))] kr (fun _ => by kernel_rfl) ?_
      refine yf z kr kr z (v := (.string p1.Owner)) (fun w' hw' => cell_one ((rd_f (S7.rd (List.Mem.head _))) w' hw') kr) ?_
      refine ya [(10, 18, (.bool (!sEq p0.Owner p1.Owner))), (11, 19, (.bool (!sEq p0.Owner p1.Owner)))] kr (fun _ => by kernel_rfl) ?_
      refine WO.weaken (fr' := [(19, (.bool ((!sEq p0.Name p1.Name) || (!sEq p0.Owner p1.Owner)))), (2, (.pointer (some ⟨b1, 0, none⟩))), (3, (.pointer (some ⟨b5, 0, none⟩)))]) (yi ⟨rfl, rfl⟩) (Sub.cons (by rw [G]; rfl) (Sub.cons z (Sub.cons z Sub.nil)))
  case restm9 =>
    rintro _ _ ⟨rfl, rfl⟩
    refine ya [(12, 20, (.bool ((!sEq p0.Name p1.Name) || (!sEq p0.Owner p1.Owner))))] kr (fun _ => by kernel_rfl) ?_
    refine WO.join (l1 := [13, 14, 15, 16, 17, 18]) (l2 := [19, 20, 21, 22, 23, 24, 25, 26, 27, 28, 29, 30, 31, 32, 33, 34, 35, 36, 37, 38, 39, 40, 41, 42, 43, 44, 45]) (J := fun frx wx => frx = [(26, (.bool (((!sEq p0.Name p1.Name) || (!sEq p0.Owner p1.Owner)) || (p0.Version != p1.Version)))), (2, (.pointer (some ⟨b1, 0, none⟩))), (3, (.pointer (some ⟨b5, 0, none⟩)))] ∧ w8 = wx) ?restm11 ?waysm11
    case waysm11 =>
      refine yt ((!sEq p0.Name p1.Name) || (!sEq p0.Owner p1.Owner)) (fun G => ?_) (fun G => ?_)
      · skip
        refine ye 20 z (show Value.bool ((!sEq p0.Name p1.Name) || (!sEq p0.Owner p1.Owner)) = Value.bool true by rw [G]) ?_
        refine yd z kr z ?_
        refine yd z kr z ?_
        refine yd z kr z ?_
        refine yd z kr z ?_
        refine yd z kr z ?_
        refine ya [(18, 26, (.bool true))] kr (fun _ => by kernel_rfl) ?_
        refine WO.weaken (fr' := [(26, (.bool (((!sEq p0.Name p1.Name) || (!sEq p0.Owner p1.Owner)) || (p0.Version != p1.Version)))), (2, (.pointer (some ⟨b1, 0, none⟩))), (3, (.pointer (some ⟨b5, 0, none⟩)))]) (yi ⟨rfl, rfl⟩) (Sub.cons (by rw [G]; rfl) (Sub.cons z (Sub.cons z Sub.nil)))
      · skip
        refine ye 20 z (show Value.bool ((!sEq p0.Name p1.Name) || (!sEq p0.Owner p1.Owner)) = Value.bool false by rw [G]) ?_
        refine ya [(13, 21, (.pointer (some ⟨b1, 2, none⟩)))] kr (fun _ => by kernel_rfl) ?_
        refine yf z kr kr z (v := (.int .i64 p0.Version)) (fun w' hw' => cell_one ((rd_f (S7.rd (List.Mem.tail _ (List.Mem.head _)))) w' hw') kr) ?_
        refine ya [(15, 23, (.pointer (some ⟨b5, 2, none⟩)))] kr (fun _ => by kernel_rfl) ?_
        refine yf z kr kr z (v := (.int .i64 p1.Version)) (fun w' hw' => cell_one ((rd_f (S7.rd (List.Mem.head _))) w' hw') kr) ?_
        refine ya [(17, 25, (.bool (p0.Version != p1.Version))), (18, 26, (.bool (p0.Version != p1.Version)))] kr (fun _ => by kernel_rfl) ?_
        refine WO.weaken (fr' := [(26, (.bool (((!sEq p0.Name p1.Name) || (!sEq p0.Owner p1.Owner)) || (p0.Version != p1.Version)))), (2, (.pointer (some ⟨b1, 0, none⟩))), (3, (.pointer (some ⟨b5, 0, none⟩)))]) (yi ⟨rfl, rfl⟩) (Sub.cons (by rw [G]; rfl) (Sub.cons z (Sub.cons z Sub.nil)))
    case restm11 =>
      rintro _ _ ⟨rfl, rfl⟩
      refine ya [(19, 27, (.bool (((!sEq p0.Name p1.Name) || (!sEq p0.Owner p1.Owner)) || (p0.Version != p1.Version))))] kr (fun _ => by kernel_rfl) ?_
      refine WO.join (l1 := [20, 21, 22, 23, 24, 25, 26, 27]) (l2 := [28, 29, 30, 31, 32, 33, 34, 35, 36, 37, 38, 39, 40, 41, 42, 43, 44, 45]) (J := fun frx wx => frx = [(35, (.bool ((((!sEq p0.Name p1.Name) || (!sEq p0.Owner p1.Owner)) || (p0.Version != p1.Version)) || ((p0.Cols.length : Int) != (p1.Cols.length : Int))))), (2, (.pointer (some ⟨b1, 0, none⟩))), (3, (.pointer (some ⟨b5, 0, none⟩)))] ∧ w8 = wx) ?restm13 ?waysm13
      case waysm13 =>
        refine yt (((!sEq p0.Name p1.Name) || (!sEq p0.Owner p1.Owner)) || (p0.Version != p1.Version)) (fun G => ?_) (fun G => ?_)
        · skip
          refine ye 27 z (show Value.bool (((!sEq p0.Name p1.Name) || (!sEq p0.Owner p1.Owner)) || (p0.Version != p1.Version)) = Value.bool true by rw [G]) ?_
          refine yd z kr z ?_
          refine yd z kr z ?_
          refine yd z kr z ?_
          refine yd z kr z ?_
          refine yd z kr z ?_
          refine yd z kr z ?_
          refine yd z kr z ?_
          refine ya [(27, 35, (.bool true))] kr (fun _ => by kernel_rfl) ?_
          refine WO.weaken (fr' := [(35, (.bool ((((!sEq p0.Name p1.Name) || (!sEq p0.Owner p1.Owner)) || (p0.Version != p1.Version)) || ((p0.Cols.length : Int) != (p1.Cols.length : Int))))), (2, (.pointer (some ⟨b1, 0, none⟩))), (3, (.pointer (some ⟨b5, 0, none⟩)))]) (yi ⟨rfl, rfl⟩) (Sub.cons (by rw [G]; rfl) (Sub.cons z (Sub.cons z Sub.nil)))
        · skip
          refine ye 27 z (show Value.bool (((!sEq p0.Name p1.Name) || (!sEq p0.Owner p1.Owner)) || (p0.Version != p1.Version)) = Value.bool false by rw [G]) ?_
          refine ya [(20, 28, (.pointer (some ⟨b1, 3, none⟩)))] kr (fun _ => by kernel_rfl) ?_
          refine yf z kr kr z (v := (.slice w_p0.Cols.a p0.Cols.length w_p0.Cols.c)) (fun w' hw' => cell_one ((rd_f (S7.rd (List.Mem.tail _ (List.Mem.head _)))) w' hw') kr) ?_
          refine ya [(22, 30, (.int .i64 (p0.Cols.length : Int))), (23, 31, (.pointer (some ⟨b5, 3, none⟩)))] kr (fun _ => by kernel_rfl) ?_
          refine yf z kr kr z (v := (.slice w_p1.Cols.a p1.Cols.length w_p1.Cols.c)) (fun w' hw' => cell_one ((rd_f (S7.rd (List.Mem.head _))) w' hw') kr) ?_
          refine ya [(25, 33, (.int .i64 (p1.Cols.length : Int))), (26, 34, (.bool ((p0.Cols.length : Int) != (p1.Cols.length : Int)))), (27, 35, (.bool ((p0.Cols.length : Int) != (p1.Cols.length : Int))))] kr (fun _ => by kernel_rfl) ?_
          refine WO.weaken (fr' := [(35, (.bool ((((!sEq p0.Name p1.Name) || (!sEq p0.Owner p1.Owner)) || (p0.Version != p1.Version)) || ((p0.Cols.length : Int) != (p1.Cols.length : Int))))), (2, (.pointer (some ⟨b1, 0, none⟩))), (3, (.pointer (some ⟨b5, 0, none⟩)))]) (yi ⟨rfl, rfl⟩) (Sub.cons (by rw [G]; rfl) (Sub.cons z (Sub.cons z Sub.nil)))
      case restm13 =>
        rintro _ _ ⟨rfl, rfl⟩
        refine ya [(28, 36, (.bool ((((!sEq p0.Name p1.Name) || (!sEq p0.Owner p1.Owner)) || (p0.Version != p1.Version)) || ((p0.Cols.length : Int) != (p1.Cols.length : Int)))))] kr (fun _ => by kernel_rfl) ?_
        refine WO.join (l1 := [29, 30, 31, 32, 33, 34, 35, 36]) (l2 := [37, 38, 39, 40, 41, 42, 43, 44, 45]) (J := fun frx wx => frx = [(44, (.bool (((((!sEq p0.Name p1.Name) || (!sEq p0.Owner p1.Owner)) || (p0.Version != p1.Version)) || ((p0.Cols.length : Int) != (p1.Cols.length : Int))) || ((p0.Cons.length : Int) != (p1.Cons.length : Int))))), (2, (.pointer (some ⟨b1, 0, none⟩))), (3, (.pointer (some ⟨b5, 0, none⟩)))] ∧ w8 = wx) ?restm15 ?waysm15
        case waysm15 =>
          refine yt ((((!sEq p0.Name p1.Name) || (!sEq p0.Owner p1.Owner)) || (p0.Version != p1.Version)) || ((p0.Cols.length : Int) != (p1.Cols.length : Int))) (fun G => ?_) (fun G => ?_)
          · skip
            refine ye 36 z (show Value.bool ((((!sEq p0.Name p1.Name) || (!sEq p0.Owner p1.Owner)) || (p0.Version != p1.Version)) || ((p0.Cols.length : Int) != (p1.Cols.length : Int))) = Value.bool true by rw [G]) ?_
            refine yd z kr z ?_
            refine yd z kr z ?_
            refine yd z kr z ?_
            refine yd z kr z ?_
            refine yd z kr z ?_
            refine yd z kr z ?_
            refine yd z kr z ?_
            refine ya [(36, 44, (.bool true))] kr (fun _ => by kernel_rfl) ?_
            refine WO.weaken (fr' := [(44, (.bool (((((!sEq p0.Name p1.Name) || (!sEq p0.Owner p1.Owner)) || (p0.Version != p1.Version)) || ((p0.Cols.length : Int) != (p1.Cols.length : Int))) || ((p0.Cons.length : Int) != (p1.Cons.length : Int))))), (2, (.pointer (some ⟨b1, 0, none⟩))), (3, (.pointer (some ⟨b5, 0, none⟩)))]) (yi ⟨rfl, rfl⟩) (Sub.cons (by rw [G]; rfl) (Sub.cons z (Sub.cons z Sub.nil)))
          · skip
            refine ye 36 z (show Value.bool ((((!sEq p0.Name p1.Name) || (!sEq p0.Owner p1.Owner)) || (p0.Version != p1.Version)) || ((p0.Cols.length : Int) != (p1.Cols.length : Int))) = Value.bool false by rw [G]) ?_
            refine ya [(29, 37, (.pointer (some ⟨b1, 4, none⟩)))] kr (fun _ => by kernel_rfl) ?_
            refine yf z kr kr z (v := (.slice w_p0.Cons.a p0.Cons.length w_p0.Cons.c)) (fun w' hw' => cell_one ((rd_f (S7.rd (List.Mem.tail _ (List.Mem.head _)))) w' hw') kr) ?_
            refine ya [(31, 39, (.int .i64 (p0.Cons.length : Int))), (32, 40, (.pointer (some ⟨b5, 4, none⟩)))] kr (fun _ => by kernel_rfl) ?_
            refine yf z kr kr z (v := (.slice w_p1.Cons.a p1.Cons.length w_p1.Cons.c)) (fun w' hw' => cell_one ((rd_f (S7.rd (List.Mem.head _))) w' hw') kr) ?_
            refine ya [(34, 42, (.int .i64 (p1.Cons.length : Int))), (35, 43, (.bool ((p0.Cons.length : Int) != (p1.Cons.length : Int)))), (36, 44, (.bool ((p0.Cons.length : Int) != (p1.Cons.length : Int))))] kr (fun _ => by kernel_rfl) ?_
            refine WO.weaken (fr' := [(44, (.bool (((((!sEq p0.Name p1.Name) || (!sEq p0.Owner p1.Owner)) || (p0.Version != p1.Version)) || ((p0.Cols.length : Int) != (p1.Cols.length : Int))) || ((p0.Cons.length : Int) != (p1.Cons.length : Int))))), (2, (.pointer (some ⟨b1, 0, none⟩))), (3, (.pointer (some ⟨b5, 0, none⟩)))]) (yi ⟨rfl, rfl⟩) (Sub.cons (by rw [G]; rfl) (Sub.cons z (Sub.cons z Sub.nil)))
        case restm15 =>
          rintro _ _ ⟨rfl, rfl⟩
          refine ya [(37, 45, (.bool (((((!sEq p0.Name p1.Name) || (!sEq p0.Owner p1.Owner)) || (p0.Version != p1.Version)) || ((p0.Cols.length : Int) != (p1.Cols.length : Int))) || ((p0.Cons.length : Int) != (p1.Cons.length : Int)))))] kr (fun _ => by kernel_rfl) ?_
          refine WO.join (l1 := [38, 39, 40, 41, 42, 43, 44, 45]) (l2 := []) (J := fun frx wx => frx = [(53, (.bool ((((((!sEq p0.Name p1.Name) || (!sEq p0.Owner p1.Owner)) || (p0.Version != p1.Version)) || ((p0.Cols.length : Int) != (p1.Cols.length : Int))) || ((p0.Cons.length : Int) != (p1.Cons.length : Int))) || ((p0.Idx.length : Int) != (p1.Idx.length : Int))))), (2, (.pointer (some ⟨b1, 0, none⟩))), (3, (.pointer (some ⟨b5, 0, none⟩)))] ∧ w8 = wx) ?restm17 ?waysm17
          case waysm17 =>
            refine yt (((((!sEq p0.Name p1.Name) || (!sEq p0.Owner p1.Owner)) || (p0.Version != p1.Version)) || ((p0.Cols.length : Int) != (p1.Cols.length : Int))) || ((p0.Cons.length : Int) != (p1.Cons.length : Int))) (fun G => ?_) (fun G => ?_)
            · skip
              refine ye 45 z (show Value.bool (((((!sEq p0.Name p1.Name) || (!sEq p0.Owner p1.Owner)) || (p0.Version != p1.Version)) || ((p0.Cols.length : Int) != (p1.Cols.length : Int))) || ((p0.Cons.length : Int) != (p1.Cons.length : Int))) = Value.bool true by rw [G]) ?_
              refine yd z kr z ?_
              refine yd z kr z ?_
              refine yd z kr z ?_
              refine yd z kr z ?_
              refine yd z kr z ?_
              refine yd z kr z ?_
              refine yd z kr z ?_
              refine ya [(45, 53, (.bool true))] kr (fun _ => by kernel_rfl) ?_
              refine WO.weaken (fr' := [(53, (.bool ((((((!sEq p0.Name p1.Name) || (!sEq p0.Owner p1.Owner)) || (p0.Version != p1.Version)) || ((p0.Cols.length : Int) != (p1.Cols.length : Int))) || ((p0.Cons.length : Int) != (p1.Cons.length : Int))) || ((p0.Idx.length : Int) != (p1.Idx.length : Int))))), (2, (.pointer (some ⟨b1, 0, none⟩))), (3, (.pointer (some ⟨b5, 0, none⟩)))]) (yi ⟨rfl, rfl⟩) (Sub.cons (by rw [G]; rfl) (Sub.cons z (Sub.cons z Sub.nil)))
            · skip
              refine ye 45 z (show Value.bool (((((!sEq p0.Name p1.Name) || (!sEq p0.Owner p1.Owner)) || (p0.Version != p1.Version)) || ((p0.Cols.length : Int) != (p1.Cols.length : Int))) || ((p0.Cons.length : Int) != (p1.Cons.length : Int))) = Value.bool false by rw [G]) ?_
              refine ya [(38, 46, (.pointer (some ⟨b1, 5, none⟩)))] kr (fun _ => by kernel_rfl) ?_
              refine yf z kr kr z (v := (.slice w_p0.Idx.a p0.Idx.length w_p0.Idx.c)) (fun w' hw' => cell_one ((rd_f (S7.rd (List.Mem.tail _ (List.Mem.head _)))) w' hw') kr) ?_
              refine ya [(40, 48, (.int .i64 (p0.Idx.length : Int))), (41, 49, (.pointer (some ⟨b5, 5, none⟩)))] kr (fun _ => by kernel_rfl) ?_
              refine yf z kr kr z (v := (.slice w_p1.Idx.a p1.Idx.length w_p1.Idx.c)) (fun w' hw' => cell_one ((rd_f (S7.rd (List.Mem.head _))) w' hw') kr) ?_
              refine ya [(43, 51, (.int .i64 (p1.Idx.length : Int))), (44, 52, (.bool ((p0.Idx.length : Int) != (p1.Idx.length : Int)))), (45, 53, (.bool ((p0.Idx.length : Int) != (p1.Idx.length : Int))))] kr (fun _ => by kernel_rfl) ?_
              refine WO.weaken (fr' := [(53, (.bool ((((((!sEq p0.Name p1.Name) || (!sEq p0.Owner p1.Owner)) || (p0.Version != p1.Version)) || ((p0.Cols.length : Int) != (p1.Cols.length : Int))) || ((p0.Cons.length : Int) != (p1.Cons.length : Int))) || ((p0.Idx.length : Int) != (p1.Idx.length : Int))))), (2, (.pointer (some ⟨b1, 0, none⟩))), (3, (.pointer (some ⟨b5, 0, none⟩)))]) (yi ⟨rfl, rfl⟩) (Sub.cons (by rw [G]; rfl) (Sub.cons z (Sub.cons z Sub.nil)))
          case restm17 =>
            rintro _ _ ⟨rfl, rfl⟩
            refine yc ?_
            refine yb ?_
            refine W.cond (b := ((((((!sEq p0.Name p1.Name) || (!sEq p0.Owner p1.Owner)) || (p0.Version != p1.Version)) || ((p0.Cols.length : Int) != (p1.Cols.length : Int))) || ((p0.Cons.length : Int) != (p1.Cons.length : Int))) || ((p0.Idx.length : Int) != (p1.Idx.length : Int)))) z z (fun G => ?_) (fun G => ?_)
            · replace D := cond_t G D
              refine W.seq ?_
              refine W.region (l := [0]) kr ?_
              refine ya [(0, 4, (.bool false))] kr (fun _ => by kernel_rfl) ?_
              refine yc ?_
              refine yb ?_
              refine ym ?_
              refine yg ?_
              have S19 := S7.drop
              have S20 := S19.drop
              have he := Option.some.inj D
              subst r
              exact yl z (.bool false) z ⟨I, rfl, Mem.Le.refl _, S20⟩
            · replace D := cond_f G D
              refine W.skip ?_
              refine yb ?_
              refine W.seq ?_
              refine W.seq ?_
              refine W.region (l := [0]) kr ?_
              refine ya [(0, 5, (.int .i64 0))] kr (fun _ => by kernel_rfl) ?_
              refine yc ?_
              refine yb ?_
              refine yq ?_
              obtain ⟨t21, hloop25, D⟩ := bind_some D
              have S26 := S7.front1
              have hlt30 := (h_p0.Cols).len_lt
              refine W.weaken (fr' := [(2, (.pointer (some ⟨b1, 0, none⟩))), (3, (.pointer (some ⟨b5, 0, none⟩))), (5, (.int .i64 ((0 : Nat) : Int)))]) (yag (m := p0.Cols.length) hloop25 (fun (i24 : Nat) (_s : Unit) fr w => ∃ (I22 : Mem), fr = [(2, (.pointer (some ⟨b1, 0, none⟩))), (3, (.pointer (some ⟨b5, 0, none⟩))), (5, (.int .i64 (i24 : Int)))] ∧ I.Le I22 ∧ St E w I22 ((Gv.one b1 (.cells (cs_qT p0 w_p0).toArray 64 (0, 0))) :: (Gv.one b5 (.cells (cs_qT p1 w_p1).toArray 64 (0, 0))) :: Os)) ⟨I, rfl, Mem.Le.refl _, S26⟩ ?roundt21 ?lastt21) (Sub.cons z (Sub.cons z (Sub.cons z Sub.nil)))
              case roundt21 =>
                rintro i24 _ _ w27 hi31 ⟨I22, rfl, L23, S28⟩ x29 R1 hext21
                refine W.seq ?_
                refine W.seq ?_
                refine W.region (l := [0, 1, 2, 3, 4]) kr ?_
                refine ya [(0, 54, (.int .i64 (i24 : Int))), (1, 55, (.pointer (some ⟨b1, 3, none⟩)))] kr (fun _ => by kernel_rfl) ?_
                refine yf z kr kr z (v := (.slice w_p0.Cols.a p0.Cols.length w_p0.Cols.c)) (fun w' hw' => cell_one ((rd_f (S28.rd (List.Mem.head _))) w' hw') kr) ?_
                refine ya [(3, 57, (.int .i64 (p0.Cols.length : Int))), (4, 58, (.bool (decide ((i24 : Int) < (p0.Cols.length : Int)))))] kr (fun _ => by kernel_rfl) ?_
                refine yc ?_
                refine yb ?_
                refine W.cond (b := (decide ((i24 : Int) < (p0.Cols.length : Int)))) z z (fun G => ?_) (fun G => ?_)
                rotate_left
                · exact absurd G (by first | (simp; done) | (simp; omega))
                clear G
                refine W.skip ?_
                refine yb ?_
                refine W.seq ?_
                refine yq ?_
                refine W.seq ?_
                have S32 := S28.drew
                refine yaf (l := [0, 1, 2, 3, 4, 5, 6, 7, 8, 9, 10]) kr 10 (KR I22 [Gv.one b1 (.cells (cs_qT p0 w_p0).toArray 64 (0, 0)), Gv.one b5 (.cells (cs_qT p1 w_p1).toArray 64 (0, 0))]) qR (.back kr) kr (yk (S32.rd (List.Mem.head _)) (yk (S32.rd (List.Mem.tail _ (List.Mem.head _))) (yz S32.im))) ?_
                generalize World.drew _ = w33 at *
                refine ya [(0, 61, (.pointer (some ⟨b1, 3, none⟩)))] kr (fun _ => by kernel_rfl) ?_
                refine yf z kr kr z (v := (.slice w_p0.Cols.a p0.Cols.length w_p0.Cols.c)) (fun w' hw' => cell_one ((rd_c (List.Mem.head _) (S32.rd (List.Mem.head _))) w' hw') kr) ?_
                refine ya [(2, 63, (.int .i64 (i24 : Int)))] kr (fun _ => by kernel_rfl) ?_
                obtain ⟨x34, Xx34, R1⟩ := bind_some R1
                obtain ⟨h0_x34, h1_x34, Xx34⟩ := idx_some Xx34
                obtain ⟨ha_x34, cs_x34, hn_x34, hr_x34, Zx34⟩ := ((RSl.mono h_p0.Cols L23)).el _ _ Xx34
                obtain rfl := hr_x34
                refine yh (e := 78) (sz := 3) z kr kr kr z ha_x34 z h0_x34 h1_x34 ?_
                refine yp z kr kr z ((cs_qL x34)) kr (fun w' hw' => Zx34.cells (k := 0) kr z ((rd_i S32.im) w' hw')) ?_
                refine ya [(5, 66, (.pointer (some ⟨b5, 3, none⟩)))] kr (fun _ => by kernel_rfl) ?_
                refine yf z kr kr z (v := (.slice w_p1.Cols.a p1.Cols.length w_p1.Cols.c)) (fun w' hw' => cell_one ((rd_c (List.Mem.tail _ (List.Mem.head _)) (S32.rd (List.Mem.tail _ (List.Mem.head _)))) w' hw') kr) ?_
                refine ya [(7, 68, (.int .i64 (i24 : Int)))] kr (fun _ => by kernel_rfl) ?_
                obtain ⟨x35, Xx35, R1⟩ := bind_some R1
                obtain ⟨h0_x35, h1_x35, Xx35⟩ := idx_some Xx35
                obtain ⟨ha_x35, cs_x35, hn_x35, hr_x35, Zx35⟩ := ((RSl.mono h_p1.Cols L23)).el _ _ Xx35
                obtain rfl := hr_x35
                refine yh (e := 78) (sz := 3) z kr kr kr z ha_x35 z h0_x35 h1_x35 ?_
                refine yp z kr kr z ((cs_qL x35)) kr (fun w' hw' => Zx35.cells (k := 0) kr z ((rd_i S32.im) w' hw')) ?_
                refine WO.tail z ?_
                refine yal z kr z z kr 50 z (b := (sEq x34.Name x35.Name && ((x34.Type_ == x35.Type_) && ((x34.NotNull == x35.NotNull) && true)))) kr (!(sEq x34.Name x35.Name && ((x34.Type_ == x35.Type_) && (x34.NotNull == x35.NotNull)))) (.inr ⟨rfl, by simp only [Bool.and_true]⟩) ?_
                refine yc ?_
                refine yb ?_
                refine W.cond (b := (!(sEq x34.Name x35.Name && ((x34.Type_ == x35.Type_) && (x34.NotNull == x35.NotNull))))) z z (fun G => ?_) (fun G => ?_)
                · replace R1 := cond_t G R1
                  refine W.seq ?_
                  refine W.region (l := [0]) kr ?_
                  refine ya [(0, 4, (.bool false))] kr (fun _ => by kernel_rfl) ?_
                  refine yc ?_
                  refine yb ?_
                  refine ym ?_
                  refine yn ?_
                  refine yg ?_
                  refine y6 ?_
                  have ht := hext21 _ (Option.some.inj R1).symm
                  subst t21
                  refine yn ?_
                  refine yg ?_
                  have S40 := S32.drop
                  have S41 := S40.drop
                  have he := Option.some.inj D
                  subst r
                  exact yl z (.bool false) z ⟨I22, rfl, L23, S41⟩
                · replace R1 := cond_f G R1
                  refine W.skip ?_
                  refine yo ?_
                  refine yb ?_
                  refine W.region (l := [0, 1, 2]) kr ?_
                  refine ya [(0, 59, (.int .i64 (i24 : Int)))] kr (fun _ => by kernel_rfl) ?_
                  refine y9 (j := i24) z kr z (by first | omega | (dsimp only at *; omega) | (simp only [List.length_cons, List.length_nil] at *; omega)) ?_
                  refine ya [(2, 5, (.int .i64 ((i24 + 1 : Nat) : Int)))] kr (fun _ => by kernel_rfl) ?_
                  refine yc ?_
                  refine En.weaken (fr' := [(2, (.pointer (some ⟨b1, 0, none⟩))), (3, (.pointer (some ⟨b5, 0, none⟩))), (5, (.int .i64 ((i24 + 1 : Nat) : Int)))]) (En.round ⟨(), (Option.some.inj R1).symm, I22, rfl, L23, S32⟩) (Sub.cons z (Sub.cons z (Sub.cons z Sub.nil)))
              case lastt21 =>
                rintro _ _ w42 ⟨I22, rfl, L23, S43⟩ he
                cases he
                refine W.seq ?_
                refine W.seq ?_
                refine W.region (l := [0, 1, 2, 3, 4]) kr ?_
                refine ya [(0, 54, (.int .i64 (p0.Cols.length : Int))), (1, 55, (.pointer (some ⟨b1, 3, none⟩)))] kr (fun _ => by kernel_rfl) ?_
                refine yf z kr kr z (v := (.slice w_p0.Cols.a p0.Cols.length w_p0.Cols.c)) (fun w' hw' => cell_one ((rd_f (S43.rd (List.Mem.head _))) w' hw') kr) ?_
                refine ya [(3, 57, (.int .i64 (p0.Cols.length : Int))), (4, 58, (.bool (decide ((p0.Cols.length : Int) < (p0.Cols.length : Int)))))] kr (fun _ => by kernel_rfl) ?_
                refine yc ?_
                refine yb ?_
                refine W.cond (b := (decide ((p0.Cols.length : Int) < (p0.Cols.length : Int)))) z z (fun G => ?_) (fun G => ?_)
                · exact absurd G (by first | (simp; done) | (simp; omega))
                clear G
                refine W.exit ?_
                refine yw ?_
                refine yx ?_
                refine y0 ?_
                refine yb ?_
                refine W.seq ?_
                refine W.seq ?_
                refine W.region (l := [0]) kr ?_
                refine ya [(0, 6, (.int .i64 0))] kr (fun _ => by kernel_rfl) ?_
                refine yc ?_
                refine yb ?_
                refine yq ?_
                obtain ⟨t44, hloop48, D⟩ := bind_some D
                have hlt52 := ((RSl.mono h_p0.Cons L23)).len_lt
                refine W.weaken (fr' := [(2, (.pointer (some ⟨b1, 0, none⟩))), (3, (.pointer (some ⟨b5, 0, none⟩))), (6, (.int .i64 ((0 : Nat) : Int)))]) (yag (m := p0.Cons.length) hloop48 (fun (i47 : Nat) (_s : Unit) fr w => ∃ (I45 : Mem), fr = [(2, (.pointer (some ⟨b1, 0, none⟩))), (3, (.pointer (some ⟨b5, 0, none⟩))), (6, (.int .i64 (i47 : Int)))] ∧ I22.Le I45 ∧ St E w I45 ((Gv.one b1 (.cells (cs_qT p0 w_p0).toArray 64 (0, 0))) :: (Gv.one b5 (.cells (cs_qT p1 w_p1).toArray 64 (0, 0))) :: Os)) ⟨I22, rfl, Mem.Le.refl _, S43⟩ ?roundt44 ?lastt44) (Sub.cons z (Sub.cons z (Sub.cons z Sub.nil)))
                case roundt44 =>
                  rintro i47 _ _ w49 hi53 ⟨I45, rfl, L46, S50⟩ x51 R1 hext44
                  refine W.seq ?_
                  refine W.seq ?_
                  refine W.region (l := [0, 1, 2, 3, 4]) kr ?_
                  refine ya [(0, 72, (.int .i64 (i47 : Int))), (1, 73, (.pointer (some ⟨b1, 4, none⟩)))] kr (fun _ => by kernel_rfl) ?_
                  refine yf z kr kr z (v := (.slice w_p0.Cons.a p0.Cons.length w_p0.Cons.c)) (fun w' hw' => cell_one ((rd_f (S50.rd (List.Mem.head _))) w' hw') kr) ?_
                  refine ya [(3, 75, (.int .i64 (p0.Cons.length : Int))), (4, 76, (.bool (decide ((i47 : Int) < (p0.Cons.length : Int)))))] kr (fun _ => by kernel_rfl) ?_
                  refine yc ?_
                  refine yb ?_
                  refine W.cond (b := (decide ((i47 : Int) < (p0.Cons.length : Int)))) z z (fun G => ?_) (fun G => ?_)
                  rotate_left
                  · exact absurd G (by first | (simp; done) | (simp; omega))
                  clear G
                  refine W.skip ?_
                  refine yb ?_
                  refine W.seq ?_
                  refine yq ?_
                  refine W.seq ?_
                  have S54 := S50.drew
                  refine yaf (l := [0, 1, 2, 3, 4, 5, 6, 7, 8, 9, 10, 11]) kr 10 (KR I45 [Gv.one b1 (.cells (cs_qT p0 w_p0).toArray 64 (0, 0)), Gv.one b5 (.cells (cs_qT p1 w_p1).toArray 64 (0, 0))]) qR (.back kr) kr (yk (S54.rd (List.Mem.head _)) (yk (S54.rd (List.Mem.tail _ (List.Mem.head _))) (yz S54.im))) ?_
                  generalize World.drew _ = w55 at *
                  refine ya [(0, 79, (.pointer (some ⟨b1, 4, none⟩)))] kr (fun _ => by kernel_rfl) ?_
                  refine yf z kr kr z (v := (.slice w_p0.Cons.a p0.Cons.length w_p0.Cons.c)) (fun w' hw' => cell_one ((rd_c (List.Mem.head _) (S54.rd (List.Mem.head _))) w' hw') kr) ?_
                  refine ya [(2, 81, (.int .i64 (i47 : Int)))] kr (fun _ => by kernel_rfl) ?_
                  obtain ⟨x56, Xx56, R1⟩ := bind_some R1
                  obtain ⟨h0_x56, h1_x56, Xx56⟩ := idx_some Xx56
                  obtain ⟨ha_x56, cs_x56, hn_x56, hr_x56, Zx56⟩ := ((RSl.mono h_p0.Cons (L23.trans L46))).el _ _ Xx56
                  obtain ⟨w_x56, rfl, h_x56⟩ := hr_x56
                  refine yh (e := 86) (sz := 12) z kr kr kr z ha_x56 z h0_x56 h1_x56 ?_
                  refine yp z kr kr z ((cs_qK x56 w_x56)) kr (fun w' hw' => Zx56.cells (k := 0) kr z ((rd_i S54.im) w' hw')) ?_
                  refine ya [(5, 84, (.pointer (some ⟨b5, 4, none⟩)))] kr (fun _ => by kernel_rfl) ?_
                  refine yf z kr kr z (v := (.slice w_p1.Cons.a p1.Cons.length w_p1.Cons.c)) (fun w' hw' => cell_one ((rd_c (List.Mem.tail _ (List.Mem.head _)) (S54.rd (List.Mem.tail _ (List.Mem.head _)))) w' hw') kr) ?_
                  refine ya [(7, 86, (.int .i64 (i47 : Int)))] kr (fun _ => by kernel_rfl) ?_
                  obtain ⟨x57, Xx57, R1⟩ := bind_some R1
                  obtain ⟨h0_x57, h1_x57, Xx57⟩ := idx_some Xx57
                  obtain ⟨ha_x57, cs_x57, hn_x57, hr_x57, Zx57⟩ := ((RSl.mono h_p1.Cons (L23.trans L46))).el _ _ Xx57
                  obtain ⟨w_x57, rfl, h_x57⟩ := hr_x57
                  refine yh (e := 86) (sz := 12) z kr kr kr z ha_x57 z h0_x57 h1_x57 ?_
                  refine yp z kr kr z ((cs_qK x57 w_x57)) kr (fun w' hw' => Zx57.cells (k := 0) kr z ((rd_i S54.im) w' hw')) ?_
                  refine WO.tail z ?_
                  obtain ⟨r63, Xr58, R1⟩ := bind_some R1
                  refine yj z kr z (f := 33) (args := #[(vK x56 w_x56), (vK x57 w_x57)]) kr (r12_SameCons_ok h_x56 h_x57 S54 Xr58) ?_
                  rintro _ w59 ⟨I60, rfl, L61, S62⟩
                  refine ⟨_, rfl, trivial, ?_⟩
                  refine ya [(11, 90, (.bool (!r63)))] kr (fun _ => by kernel_rfl) ?_
                  refine yc ?_
                  refine yb ?_
                  refine W.cond (b := (!r63)) z z (fun G => ?_) (fun G => ?_)
                  · replace R1 := cond_t G R1
                    refine W.seq ?_
                    refine W.region (l := [0]) kr ?_
                    refine ya [(0, 4, (.bool false))] kr (fun _ => by kernel_rfl) ?_
                    refine yc ?_
                    refine yb ?_
                    refine ym ?_
                    refine yn ?_
                    refine yg ?_
                    refine y6 ?_
                    have ht := hext44 _ (Option.some.inj R1).symm
                    subst t44
                    refine yn ?_
                    refine yg ?_
                    have S68 := S62.drop
                    have S69 := S68.drop
                    have he := Option.some.inj D
                    subst r
                    exact yl z (.bool false) z ⟨I60, rfl, ((L23.trans L46).trans L61), S69⟩
                  · replace R1 := cond_f G R1
                    refine W.skip ?_
                    refine yo ?_
                    refine yb ?_
                    refine W.region (l := [0, 1, 2]) kr ?_
                    refine ya [(0, 77, (.int .i64 (i47 : Int)))] kr (fun _ => by kernel_rfl) ?_
                    refine y9 (j := i47) z kr z (by first | omega | (dsimp only at *; omega) | (simp only [List.length_cons, List.length_nil] at *; omega)) ?_
                    refine ya [(2, 6, (.int .i64 ((i47 + 1 : Nat) : Int)))] kr (fun _ => by kernel_rfl) ?_
                    refine yc ?_
                    refine En.weaken (fr' := [(2, (.pointer (some ⟨b1, 0, none⟩))), (3, (.pointer (some ⟨b5, 0, none⟩))), (6, (.int .i64 ((i47 + 1 : Nat) : Int)))]) (En.round ⟨(), (Option.some.inj R1).symm, I60, rfl, (L46.trans L61), S62⟩) (Sub.cons z (Sub.cons z (Sub.cons z Sub.nil)))
                case lastt44 =>
                  rintro _ _ w70 ⟨I45, rfl, L46, S71⟩ he
                  cases he
                  refine W.seq ?_
                  refine W.seq ?_
                  refine W.region (l := [0, 1, 2, 3, 4]) kr ?_
                  refine ya [(0, 72, (.int .i64 (p0.Cons.length : Int))), (1, 73, (.pointer (some ⟨b1, 4, none⟩)))] kr (fun _ => by kernel_rfl) ?_
                  refine yf z kr kr z (v := (.slice w_p0.Cons.a p0.Cons.length w_p0.Cons.c)) (fun w' hw' => cell_one ((rd_f (S71.rd (List.Mem.head _))) w' hw') kr) ?_
                  refine ya [(3, 75, (.int .i64 (p0.Cons.length : Int))), (4, 76, (.bool (decide ((p0.Cons.length : Int) < (p0.Cons.length : Int)))))] kr (fun _ => by kernel_rfl) ?_
                  refine yc ?_
                  refine yb ?_
                  refine W.cond (b := (decide ((p0.Cons.length : Int) < (p0.Cons.length : Int)))) z z (fun G => ?_) (fun G => ?_)
                  · exact absurd G (by first | (simp; done) | (simp; omega))
                  clear G
                  refine W.exit ?_
                  refine yw ?_
                  refine yx ?_
                  refine y0 ?_
                  refine yb ?_
                  refine W.seq ?_
                  refine W.seq ?_
                  refine W.region (l := [0]) kr ?_
                  refine ya [(0, 7, (.int .i64 0))] kr (fun _ => by kernel_rfl) ?_
                  refine yc ?_
                  refine yb ?_
                  refine yq ?_
                  obtain ⟨t72, hloop76, D⟩ := bind_some D
                  have hlt80 := ((RSl.mono h_p0.Idx (L23.trans L46))).len_lt
                  refine W.weaken (fr' := [(2, (.pointer (some ⟨b1, 0, none⟩))), (3, (.pointer (some ⟨b5, 0, none⟩))), (7, (.int .i64 ((0 : Nat) : Int)))]) (yag (m := p0.Idx.length) hloop76 (fun (i75 : Nat) (_s : Unit) fr w => ∃ (I73 : Mem), fr = [(2, (.pointer (some ⟨b1, 0, none⟩))), (3, (.pointer (some ⟨b5, 0, none⟩))), (7, (.int .i64 (i75 : Int)))] ∧ I45.Le I73 ∧ St E w I73 ((Gv.one b1 (.cells (cs_qT p0 w_p0).toArray 64 (0, 0))) :: (Gv.one b5 (.cells (cs_qT p1 w_p1).toArray 64 (0, 0))) :: Os)) ⟨I45, rfl, Mem.Le.refl _, S71⟩ ?roundt72 ?lastt72) (Sub.cons z (Sub.cons z (Sub.cons z Sub.nil)))
                  case roundt72 =>
                    rintro i75 _ _ w77 hi81 ⟨I73, rfl, L74, S78⟩ x79 R1 hext72
                    refine W.seq ?_
                    refine W.seq ?_
                    refine W.region (l := [0, 1, 2, 3, 4]) kr ?_
                    refine ya [(0, 91, (.int .i64 (i75 : Int))), (1, 92, (.pointer (some ⟨b1, 5, none⟩)))] kr (fun _ => by kernel_rfl) ?_
                    refine yf z kr kr z (v := (.slice w_p0.Idx.a p0.Idx.length w_p0.Idx.c)) (fun w' hw' => cell_one ((rd_f (S78.rd (List.Mem.head _))) w' hw') kr) ?_
                    refine ya [(3, 94, (.int .i64 (p0.Idx.length : Int))), (4, 95, (.bool (decide ((i75 : Int) < (p0.Idx.length : Int)))))] kr (fun _ => by kernel_rfl) ?_
                    refine yc ?_
                    refine yb ?_
                    refine W.cond (b := (decide ((i75 : Int) < (p0.Idx.length : Int)))) z z (fun G => ?_) (fun G => ?_)
                    rotate_left
                    · exact absurd G (by first | (simp; done) | (simp; omega))
                    clear G
                    refine W.skip ?_
                    refine yb ?_
                    refine W.seq ?_
                    refine yq ?_
                    refine W.seq ?_
                    have S82 := S78.drew
                    refine yaf (l := [0, 1, 2, 3, 4, 5, 6, 7, 8, 9, 10, 11, 12, 13, 14, 15, 16, 17, 18, 19, 20, 21, 22, 23, 24, 25, 26, 27, 28]) kr 29 (KR I73 [Gv.one b1 (.cells (cs_qT p0 w_p0).toArray 64 (0, 0)), Gv.one b5 (.cells (cs_qT p1 w_p1).toArray 64 (0, 0))]) qR (.back kr) kr (yk (S82.rd (List.Mem.head _)) (yk (S82.rd (List.Mem.tail _ (List.Mem.head _))) (yz S82.im))) ?_
                    generalize World.drew _ = w83 at *
                    refine ya [(0, 98, (.pointer (some ⟨b1, 5, none⟩)))] kr (fun _ => by kernel_rfl) ?_
                    refine yf z kr kr z (v := (.slice w_p0.Idx.a p0.Idx.length w_p0.Idx.c)) (fun w' hw' => cell_one ((rd_c (List.Mem.head _) (S82.rd (List.Mem.head _))) w' hw') kr) ?_
                    refine ya [(2, 100, (.int .i64 (i75 : Int)))] kr (fun _ => by kernel_rfl) ?_
                    obtain ⟨x84, Xx84, R1⟩ := bind_some R1
                    obtain ⟨h0_x84, h1_x84, Xx84⟩ := idx_some Xx84
                    obtain ⟨ha_x84, cs_x84, hn_x84, hr_x84, Zx84⟩ := ((RSl.mono h_p0.Idx ((L23.trans L46).trans L74))).el _ _ Xx84
                    obtain ⟨w_x84, rfl, h_x84⟩ := hr_x84
                    refine yh (e := 88) (sz := 2) z kr kr kr z ha_x84 z h0_x84 h1_x84 ?_
                    refine ya [(4, 102, (.pointer (some ⟨bl w_p0.Idx.a, of w_p0.Idx.a + ((i75 : Int)).toNat * 2, none⟩)))] kr (fun _ => by kernel_rfl) ?_
                    refine yf z kr kr z (v := (.string x84.Name)) (fun w' hw' => Zx84.cell0 kr ((rd_i S82.im) w' hw')) ?_
                    refine ya [(6, 104, (.pointer (some ⟨b5, 5, none⟩)))] kr (fun _ => by kernel_rfl) ?_
                    refine yf z kr kr z (v := (.slice w_p1.Idx.a p1.Idx.length w_p1.Idx.c)) (fun w' hw' => cell_one ((rd_c (List.Mem.tail _ (List.Mem.head _)) (S82.rd (List.Mem.tail _ (List.Mem.head _)))) w' hw') kr) ?_
                    refine ya [(8, 106, (.int .i64 (i75 : Int)))] kr (fun _ => by kernel_rfl) ?_
                    obtain ⟨x85, Xx85, R1⟩ := bind_some R1
                    obtain ⟨h0_x85, h1_x85, Xx85⟩ := idx_some Xx85
                    obtain ⟨ha_x85, cs_x85, hn_x85, hr_x85, Zx85⟩ := ((RSl.mono h_p1.Idx ((L23.trans L46).trans L74))).el _ _ Xx85
                    obtain ⟨w_x85, rfl, h_x85⟩ := hr_x85
                    refine yh (e := 88) (sz := 2) z kr kr kr z ha_x85 z h0_x85 h1_x85 ?_
                    refine ya [(10, 108, (.pointer (some ⟨bl w_p1.Idx.a, of w_p1.Idx.a + ((i75 : Int)).toNat * 2, none⟩)))] kr (fun _ => by kernel_rfl) ?_
                    refine yf z kr kr z (v := (.string x85.Name)) (fun w' hw' => Zx85.cell0 kr ((rd_i S82.im) w' hw')) ?_
                    refine ya [(12, 110, (.bool (!sEq x84.Name x85.Name))), (13, 111, (.bool (!sEq x84.Name x85.Name)))] kr (fun _ => by kernel_rfl) ?_
                    obtain ⟨j86, R2, R1⟩ := bind_some R1
                    refine WO.join (l1 := [14, 15, 16, 17, 18, 19, 20, 21, 22, 23, 24, 25, 26, 27, 28]) (l2 := []) (J := (fun fr w => ∃ (I88 : Mem), fr = [(2, (.pointer (some ⟨b1, 0, none⟩))), (3, (.pointer (some ⟨b5, 0, none⟩))), (7, (.int .i64 (i75 : Int))), (126, (.bool j86))] ∧ I73.Le I88 ∧ St E w I88 ((Gv.one b1 (.cells (cs_qT p0 w_p0).toArray 64 (0, 0))) :: (Gv.one b5 (.cells (cs_qT p1 w_p1).toArray 64 (0, 0))) :: Os))) ?restj86 ?waysj86
                    case waysj86 =>
                      refine yt (!sEq x84.Name x85.Name) (fun G => ?_) (fun G => ?_)
                      · replace R2 := cond_t G R2
                        refine ye 111 z (show Value.bool (!sEq x84.Name x85.Name) = Value.bool true by rw [G]) ?_
                        refine yd z kr z ?_
                        refine yd z kr z ?_
                        refine yd z kr z ?_
                        refine yd z kr z ?_
                        refine yd z kr z ?_
                        refine yd z kr z ?_
                        refine yd z kr z ?_
                        refine yd z kr z ?_
                        refine yd z kr z ?_
                        refine yd z kr z ?_
                        refine yd z kr z ?_
                        refine yd z kr z ?_
                        refine yd z kr z ?_
                        refine yd z kr z ?_
                        refine ya [(28, 126, (.bool true))] kr (fun _ => by kernel_rfl) ?_
                        have he := Option.some.inj R2
                        subst j86
                        refine WO.weaken (fr' := [(2, (.pointer (some ⟨b1, 0, none⟩))), (3, (.pointer (some ⟨b5, 0, none⟩))), (7, (.int .i64 (i75 : Int))), (126, (.bool true))]) (yi ⟨I73, rfl, Mem.Le.refl _, S82⟩) (Sub.cons z (Sub.cons z (Sub.cons z (Sub.cons z Sub.nil))))
                      · replace R2 := cond_f G R2
                        refine ye 111 z (show Value.bool (!sEq x84.Name x85.Name) = Value.bool false by rw [G]) ?_
                        refine ya [(14, 112, (.pointer (some ⟨b1, 5, none⟩)))] kr (fun _ => by kernel_rfl) ?_
                        refine yf z kr kr z (v := (.slice w_p0.Idx.a p0.Idx.length w_p0.Idx.c)) (fun w' hw' => cell_one ((rd_c (List.Mem.head _) (S82.rd (List.Mem.head _))) w' hw') kr) ?_
                        refine ya [(16, 114, (.int .i64 (i75 : Int)))] kr (fun _ => by kernel_rfl) ?_
                        obtain ⟨x90, Xx90, R2⟩ := bind_some R2
                        obtain ⟨h0_x90, h1_x90, Xx90⟩ := idx_some Xx90
                        obtain ⟨ha_x90, cs_x90, hn_x90, hr_x90, Zx90⟩ := ((RSl.mono h_p0.Idx ((L23.trans L46).trans L74))).el _ _ Xx90
                        obtain ⟨w_x90, rfl, h_x90⟩ := hr_x90
                        refine yh (e := 88) (sz := 2) z kr kr kr z ha_x90 z h0_x90 h1_x90 ?_
                        refine ya [(18, 116, (.pointer (some ⟨bl w_p0.Idx.a, of w_p0.Idx.a + ((i75 : Int)).toNat * 2 + 1, none⟩)))] kr (fun _ => by kernel_rfl) ?_
                        refine yf z kr kr z (v := (.slice w_x90.Cols.a x90.Cols.length w_x90.Cols.c)) (fun w' hw' => Zx90.cellk 1 kr ((rd_i S82.im) w' hw')) ?_
                        refine ya [(20, 118, (.pointer (some ⟨b5, 5, none⟩)))] kr (fun _ => by kernel_rfl) ?_
                        refine yf z kr kr z (v := (.slice w_p1.Idx.a p1.Idx.length w_p1.Idx.c)) (fun w' hw' => cell_one ((rd_c (List.Mem.tail _ (List.Mem.head _)) (S82.rd (List.Mem.tail _ (List.Mem.head _)))) w' hw') kr) ?_
                        refine ya [(22, 120, (.int .i64 (i75 : Int)))] kr (fun _ => by kernel_rfl) ?_
                        obtain ⟨x91, Xx91, R2⟩ := bind_some R2
                        obtain ⟨h0_x91, h1_x91, Xx91⟩ := idx_some Xx91
                        obtain ⟨ha_x91, cs_x91, hn_x91, hr_x91, Zx91⟩ := ((RSl.mono h_p1.Idx ((L23.trans L46).trans L74))).el _ _ Xx91
                        obtain ⟨w_x91, rfl, h_x91⟩ := hr_x91
                        refine yh (e := 88) (sz := 2) z kr kr kr z ha_x91 z h0_x91 h1_x91 ?_
                        refine ya [(24, 122, (.pointer (some ⟨bl w_p1.Idx.a, of w_p1.Idx.a + ((i75 : Int)).toNat * 2 + 1, none⟩)))] kr (fun _ => by kernel_rfl) ?_
                        refine yf z kr kr z (v := (.slice w_x91.Cols.a x91.Cols.length w_x91.Cols.c)) (fun w' hw' => Zx91.cellk 1 kr ((rd_i S82.im) w' hw')) ?_
                        obtain ⟨r97, Xr92, R2⟩ := bind_some R2
                        refine yj z kr z (f := 34) (args := #[(.slice w_x90.Cols.a x90.Cols.length w_x90.Cols.c), (.slice w_x91.Cols.a x91.Cols.length w_x91.Cols.c)]) kr (r12_SameTexts_ok h_x90.Cols h_x91.Cols S82 Xr92) ?_
                        rintro _ w93 ⟨I94, rfl, L95, S96⟩
                        refine ⟨_, rfl, (yk (S96.rd (List.Mem.head _)) (yk (S96.rd (List.Mem.tail _ (List.Mem.head _))) (yz (S96.im.of_le L95)))), ?_⟩
                        refine ya [(27, 125, (.bool (!r97))), (28, 126, (.bool (!r97)))] kr (fun _ => by kernel_rfl) ?_
                        have he := Option.some.inj R2
                        subst j86
                        refine WO.weaken (fr' := [(2, (.pointer (some ⟨b1, 0, none⟩))), (3, (.pointer (some ⟨b5, 0, none⟩))), (7, (.int .i64 (i75 : Int))), (126, (.bool (!r97)))]) (yi ⟨I94, rfl, L95, S96⟩) (Sub.cons z (Sub.cons z (Sub.cons z (Sub.cons z Sub.nil))))
                    case restj86 =>
                      rintro _ w98 ⟨I88, rfl, L89, S99⟩
                      refine yc ?_
                      refine yb ?_
                      refine W.cond (b := j86) z z (fun G => ?_) (fun G => ?_)
                      · replace R1 := cond_t G R1
                        refine W.seq ?_
                        refine W.region (l := [0]) kr ?_
                        refine ya [(0, 4, (.bool false))] kr (fun _ => by kernel_rfl) ?_
                        refine yc ?_
                        refine yb ?_
                        refine ym ?_
                        refine yn ?_
                        refine yg ?_
                        refine y6 ?_
                        have ht := hext72 _ (Option.some.inj R1).symm
                        subst t72
                        refine yn ?_
                        refine yg ?_
                        have S104 := S99.drop
                        have S105 := S104.drop
                        have he := Option.some.inj D
                        subst r
                        exact yl z (.bool false) z ⟨I88, rfl, (((L23.trans L46).trans L74).trans L89), S105⟩
                      · replace R1 := cond_f G R1
                        refine W.skip ?_
                        refine yo ?_
                        refine yb ?_
                        refine W.region (l := [0, 1, 2]) kr ?_
                        refine ya [(0, 96, (.int .i64 (i75 : Int)))] kr (fun _ => by kernel_rfl) ?_
                        refine y9 (j := i75) z kr z (by first | omega | (dsimp only at *; omega) | (simp only [List.length_cons, List.length_nil] at *; omega)) ?_
                        refine ya [(2, 7, (.int .i64 ((i75 + 1 : Nat) : Int)))] kr (fun _ => by kernel_rfl) ?_
                        refine yc ?_
                        refine En.weaken (fr' := [(2, (.pointer (some ⟨b1, 0, none⟩))), (3, (.pointer (some ⟨b5, 0, none⟩))), (7, (.int .i64 ((i75 + 1 : Nat) : Int)))]) (En.round ⟨(), (Option.some.inj R1).symm, I88, rfl, (L74.trans L89), S99⟩) (Sub.cons z (Sub.cons z (Sub.cons z Sub.nil)))
                  case lastt72 =>
                    rintro _ _ w106 ⟨I73, rfl, L74, S107⟩ he
                    cases he
                    refine W.seq ?_
                    refine W.seq ?_
                    refine W.region (l := [0, 1, 2, 3, 4]) kr ?_
                    refine ya [(0, 91, (.int .i64 (p0.Idx.length : Int))), (1, 92, (.pointer (some ⟨b1, 5, none⟩)))] kr (fun _ => by kernel_rfl) ?_
                    refine yf z kr kr z (v := (.slice w_p0.Idx.a p0.Idx.length w_p0.Idx.c)) (fun w' hw' => cell_one ((rd_f (S107.rd (List.Mem.head _))) w' hw') kr) ?_
                    refine ya [(3, 94, (.int .i64 (p0.Idx.length : Int))), (4, 95, (.bool (decide ((p0.Idx.length : Int) < (p0.Idx.length : Int)))))] kr (fun _ => by kernel_rfl) ?_
                    refine yc ?_
                    refine yb ?_
                    refine W.cond (b := (decide ((p0.Idx.length : Int) < (p0.Idx.length : Int)))) z z (fun G => ?_) (fun G => ?_)
                    · exact absurd G (by first | (simp; done) | (simp; omega))
                    clear G
                    refine W.exit ?_
                    refine yw ?_
                    refine yx ?_
                    refine y0 ?_
                    refine yb ?_
                    refine W.seq ?_
                    refine W.region (l := [0]) kr ?_
                    refine ya [(0, 4, (.bool true))] kr (fun _ => by kernel_rfl) ?_
                    refine yc ?_
                    refine yb ?_
                    refine ym ?_
                    have S108 := S107.drop
                    have S109 := S108.drop
                    have he := Option.some.inj D
                    subst r
                    exact yl z (.bool true) z ⟨I73, rfl, ((L23.trans L46).trans L74), S109⟩
noncomputable def r17_Same (p0 : qC) (p1 : qC) : Option Bool := (bif ((((p0.Version != p1.Version) || ((p0.Tables.length : Int) != (p1.Tables.length : Int))) || ((p0.Roles.length : Int) != (p1.Roles.length : Int))) || ((p0.Grants.length : Int) != (p1.Grants.length : Int))) then some false else (forN (fun (i20 : Nat) (_s : Unit) => (idx p0.Tables (i20 : Int)).bind (fun (x30 : qT) => (idx p1.Tables (i20 : Int)).bind (fun (x31 : qT) => (r14_Same x30 x31).bind (fun (r37 : Bool) => (bif (!r37) then some (.inr false) else some (.inl ())))))) p0.Tables.length 0 ()).bind (fun (t : Unit ⊕ (Bool)) => match t with | .inl _ => (forN (fun (i49 : Nat) (_s : Unit) => ((idx p0.Roles (i49 : Int)).bind (fun (x62 : qJ) => (idx p1.Roles (i49 : Int)).bind (fun (x63 : qJ) => some (x62, x63)))).bind (fun ((s77, s78) : qJ × qJ) => (bif ((!sEq s77.Name s78.Name) || ((s77.In.length : Int) != (s78.In.length : Int))) then some (.inr false) else (forN (fun (i116 : Nat) (_s : Unit) => (idx s77.In (i116 : Int)).bind (fun (x125 : By8) => (idx s78.In (i116 : Int)).bind (fun (x126 : By8) => (bif (!sEq x125 x126) then some (.inr false) else some (.inl ()))))) s77.In.length 0 ()).bind (fun (t : Unit ⊕ (Bool)) => match t with | .inl _ => some (.inl ()) | .inr s128 => some (.inr s128))))) p0.Roles.length 0 ()).bind (fun (t : Unit ⊕ (Bool)) => match t with | .inl _ => (forN (fun (i148 : Nat) (_s : Unit) => (idx p0.Grants (i148 : Int)).bind (fun (x157 : qG) => (idx p1.Grants (i148 : Int)).bind (fun (x158 : qG) => (bif (!(sEq x157.To x158.To && (sEq x157.By x158.By && (sEq x157.Table x158.Table && ((x157.Priv == x158.Priv) && (x157.Option == x158.Option)))))) then some (.inr false) else some (.inl ()))))) p0.Grants.length 0 ()).bind (fun (t : Unit ⊕ (Bool)) => match t with | .inl _ => some true | .inr s160 => some s160) | .inr s106 => some s106) | .inr s39 => some s39))
theorem r17_Same_ok {p0 : qC} {p1 : qC} {w_p0 : W_qC} {w_p1 : W_qC} (h_p0 : ok_qC I p0 w_p0) (h_p1 : ok_qC I p1 w_p1) (hS : St E w I Os) {r : Bool} (D : r17_Same p0 p1 = some r) :
    Calls P 10 #[(vC p0 w_p0), (vC p1 w_p1)] w (fun e w' => ∃ (I' : Mem), e = .returned (.bool r) ∧ I.Le I' ∧ St E w' I' Os) := by
  refine calls_W (args := [(vC p0 w_p0), (vC p1 w_p1)]) (fn := Try.f10) rfl rfl rfl ?_
  unfold r17_Same at D
  refine W.seq ?_
  refine W.region (l := [0, 1, 2]) kr ?_
  refine yu hS z kr z (.cells (cs_qC p0 w_p0).toArray 36 (0, 0)) (fun b => .pointer (some ⟨b, 0, none⟩)) kr tv ?_
  intro b1 w4 S3
  refine yu S3 z kr z (.cells (cs_qC p1 w_p1).toArray 36 (0, 0)) (fun b => .pointer (some ⟨b, 0, none⟩)) kr tv ?_
  intro b5 w8 S7
  refine ya [(2, 4, (.bool false))] kr (fun _ => by kernel_rfl) ?_
  refine yc ?_
  refine yb ?_
  refine W.seq ?_
  refine W.seq ?_
  refine W.region (l := [0, 1, 2, 3, 4, 5, 6, 7, 8, 9, 10, 11, 12, 13, 14, 15, 16, 17, 18, 19, 20, 21, 22, 23, 24, 25, 26, 27, 28, 29, 30, 31]) kr ?_
  refine ya [(0, 11, (.pointer (some ⟨b1, 0, none⟩)))] kr (fun _ => by kernel_rfl) ?_
  refine yf z kr kr z (v := (.int .i64 p0.Version)) (fun w' hw' => cell_one ((rd_f (S7.rd (List.Mem.tail _ (List.Mem.head _)))) w' hw') kr) ?_
  refine ya [(2, 13, (.pointer (some ⟨b5, 0, none⟩)))] kr (fun _ => by kernel_rfl) ?_
  refine yf z kr kr z (v := (.int .i64 p1.Version)) (fun w' hw' => cell_one ((rd_f (S7.rd (List.Mem.head _))) w' hw') kr) ?_
  refine ya [(4, 15, (.bool (p0.Version != p1.Version))), (5, 16, (.bool (p0.Version != p1.Version)))] kr (fun _ => by kernel_rfl) ?_
  refine WO.join (l1 := [6, 7, 8, 9, 10, 11, 12, 13]) (l2 := [14, 15, 16, 17, 18, 19, 20, 21, 22, 23, 24, 25, 26, 27, 28, 29, 30, 31]) (J := fun frx wx => frx = [(24, (.bool ((p0.Version != p1.Version) || ((p0.Tables.length : Int) != (p1.Tables.length : Int))))), (2, (.pointer (some ⟨b1, 0, none⟩))), (3, (.pointer (some ⟨b5, 0, none⟩)))] ∧ w8 = wx) ?restm9 ?waysm9
  case waysm9 =>
    refine yt (p0.Version != p1.Version) (fun G => ?_) (fun G => ?_)
    · skip
      refine ye 16 z (show Value.bool (p0.Version != p1.Version) = Value.bool true by rw [G]) ?_
      refine yd z kr z ?_
      refine yd z kr z ?_
      refine yd z kr z ?_
      refine yd z kr z ?_
      refine yd z kr z ?_
      refine yd z kr z ?_
      refine yd z kr z ?_
      refine ya [(13, 24, (.bool true))] kr (fun _ => by kernel_rfl) ?_
      refine WO.weaken (fr' := [(24, (.bool ((p0.Version != p1.Version) || ((p0.Tables.length : Int) != (p1.Tables.length : Int))))), (2, (.pointer (some ⟨b1, 0, none⟩))), (3, (.pointer (some ⟨b5, 0, none⟩)))]) (yi ⟨rfl, rfl⟩) (Sub.cons (by rw [G]; rfl) (Sub.cons z (Sub.cons z Sub.nil)))
    · skip
      refine ye 16 z (show Value.bool (p0.Version != p1.Version) = Value.bool false by rw [G]) ?_
      refine ya [(6, 17, (.pointer (some ⟨b1, 1, none⟩)))] kr (fun _ => by kernel_rfl) ?_
      refine yf z kr kr z (v := (.slice w_p0.Tables.a p0.Tables.length w_p0.Tables.c)) (fun w' hw' => cell_one ((rd_f (S7.rd (List.Mem.tail _ (List.Mem.head _)))) w' hw') kr) ?_
      refine ya [(8, 19, (.int .i64 (p0.Tables.length : Int))), (9, 20, (.pointer (some ⟨b5, 1, none⟩)))] kr (fun _ => by kernel_rfl) ?_
      refine yf z kr kr z (v := (.slice w_p1.Tables.a p1.Tables.length w_p1.Tables.c)) (fun w' hw' => cell_one ((rd_f (S7.rd (List.Mem.head _))) w' hw') kr) ?_
      refine ya [(11, 22, (.int .i64 (p1.Tables.length : Int))), (12, 23, (.bool ((p0.Tables.length : Int) != (p1.Tables.length : Int)))), (13, 24, (.bool ((p0.Tables.length : Int) != (p1.Tables.length : Int))))] kr (fun _ => by kernel_rfl) ?_
      refine WO.weaken (fr' := [(24, (.bool ((p0.Version != p1.Version) || ((p0.Tables.length : Int) != (p1.Tables.length : Int))))), (2, (.pointer (some ⟨b1, 0, none⟩))), (3, (.pointer (some ⟨b5, 0, none⟩)))]) (yi ⟨rfl, rfl⟩) (Sub.cons (by rw [G]; rfl) (Sub.cons z (Sub.cons z Sub.nil)))
  case restm9 =>
    rintro _ _ ⟨rfl, rfl⟩
    refine ya [(14, 25, (.bool ((p0.Version != p1.Version) || ((p0.Tables.length : Int) != (p1.Tables.length : Int)))))] kr (fun _ => by kernel_rfl) ?_
    refine WO.join (l1 := [15, 16, 17, 18, 19, 20, 21, 22]) (l2 := [23, 24, 25, 26, 27, 28, 29, 30, 31]) (J := fun frx wx => frx = [(33, (.bool (((p0.Version != p1.Version) || ((p0.Tables.length : Int) != (p1.Tables.length : Int))) || ((p0.Roles.length : Int) != (p1.Roles.length : Int))))), (2, (.pointer (some ⟨b1, 0, none⟩))), (3, (.pointer (some ⟨b5, 0, none⟩)))] ∧ w8 = wx) ?restm11 ?waysm11
    case waysm11 =>
      refine yt ((p0.Version != p1.Version) || ((p0.Tables.length : Int) != (p1.Tables.length : Int))) (fun G => ?_) (fun G => ?_)
      · skip
        refine ye 25 z (show Value.bool ((p0.Version != p1.Version) || ((p0.Tables.length : Int) != (p1.Tables.length : Int))) = Value.bool true by rw [G]) ?_
        refine yd z kr z ?_
        refine yd z kr z ?_
        refine yd z kr z ?_
        refine yd z kr z ?_
        refine yd z kr z ?_
        refine yd z kr z ?_
        refine yd z kr z ?_
        refine ya [(22, 33, (.bool true))] kr (fun _ => by kernel_rfl) ?_
        refine WO.weaken (fr' := [(33, (.bool (((p0.Version != p1.Version) || ((p0.Tables.length : Int) != (p1.Tables.length : Int))) || ((p0.Roles.length : Int) != (p1.Roles.length : Int))))), (2, (.pointer (some ⟨b1, 0, none⟩))), (3, (.pointer (some ⟨b5, 0, none⟩)))]) (yi ⟨rfl, rfl⟩) (Sub.cons (by rw [G]; rfl) (Sub.cons z (Sub.cons z Sub.nil)))
      · skip
        refine ye 25 z (show Value.bool ((p0.Version != p1.Version) || ((p0.Tables.length : Int) != (p1.Tables.length : Int))) = Value.bool false by rw [G]) ?_
        refine ya [(15, 26, (.pointer (some ⟨b1, 2, none⟩)))] kr (fun _ => by kernel_rfl) ?_
        refine yf z kr kr z (v := (.slice w_p0.Roles.a p0.Roles.length w_p0.Roles.c)) (fun w' hw' => cell_one ((rd_f (S7.rd (List.Mem.tail _ (List.Mem.head _)))) w' hw') kr) ?_
        refine ya [(17, 28, (.int .i64 (p0.Roles.length : Int))), (18, 29, (.pointer (some ⟨b5, 2, none⟩)))] kr (fun _ => by kernel_rfl) ?_
        refine yf z kr kr z (v := (.slice w_p1.Roles.a p1.Roles.length w_p1.Roles.c)) (fun w' hw' => cell_one ((rd_f (S7.rd (List.Mem.head _))) w' hw') kr) ?_
        refine ya [(20, 31, (.int .i64 (p1.Roles.length : Int))), (21, 32, (.bool ((p0.Roles.length : Int) != (p1.Roles.length : Int)))), (22, 33, (.bool ((p0.Roles.length : Int) != (p1.Roles.length : Int))))] kr (fun _ => by kernel_rfl) ?_
        refine WO.weaken (fr' := [(33, (.bool (((p0.Version != p1.Version) || ((p0.Tables.length : Int) != (p1.Tables.length : Int))) || ((p0.Roles.length : Int) != (p1.Roles.length : Int))))), (2, (.pointer (some ⟨b1, 0, none⟩))), (3, (.pointer (some ⟨b5, 0, none⟩)))]) (yi ⟨rfl, rfl⟩) (Sub.cons (by rw [G]; rfl) (Sub.cons z (Sub.cons z Sub.nil)))
    case restm11 =>
      rintro _ _ ⟨rfl, rfl⟩
      refine ya [(23, 34, (.bool (((p0.Version != p1.Version) || ((p0.Tables.length : Int) != (p1.Tables.length : Int))) || ((p0.Roles.length : Int) != (p1.Roles.length : Int)))))] kr (fun _ => by kernel_rfl) ?_
      refine WO.join (l1 := [24, 25, 26, 27, 28, 29, 30, 31]) (l2 := []) (J := fun frx wx => frx = [(42, (.bool ((((p0.Version != p1.Version) || ((p0.Tables.length : Int) != (p1.Tables.length : Int))) || ((p0.Roles.length : Int) != (p1.Roles.length : Int))) || ((p0.Grants.length : Int) != (p1.Grants.length : Int))))), (2, (.pointer (some ⟨b1, 0, none⟩))), (3, (.pointer (some ⟨b5, 0, none⟩)))] ∧ w8 = wx) ?restm13 ?waysm13
      case waysm13 =>
        refine yt (((p0.Version != p1.Version) || ((p0.Tables.length : Int) != (p1.Tables.length : Int))) || ((p0.Roles.length : Int) != (p1.Roles.length : Int))) (fun G => ?_) (fun G => ?_)
        · skip
          refine ye 34 z (show Value.bool (((p0.Version != p1.Version) || ((p0.Tables.length : Int) != (p1.Tables.length : Int))) || ((p0.Roles.length : Int) != (p1.Roles.length : Int))) = Value.bool true by rw [G]) ?_
          refine yd z kr z ?_
          refine yd z kr z ?_
          refine yd z kr z ?_
          refine yd z kr z ?_
          refine yd z kr z ?_
          refine yd z kr z ?_
          refine yd z kr z ?_
          refine ya [(31, 42, (.bool true))] kr (fun _ => by kernel_rfl) ?_
          refine WO.weaken (fr' := [(42, (.bool ((((p0.Version != p1.Version) || ((p0.Tables.length : Int) != (p1.Tables.length : Int))) || ((p0.Roles.length : Int) != (p1.Roles.length : Int))) || ((p0.Grants.length : Int) != (p1.Grants.length : Int))))), (2, (.pointer (some ⟨b1, 0, none⟩))), (3, (.pointer (some ⟨b5, 0, none⟩)))]) (yi ⟨rfl, rfl⟩) (Sub.cons (by rw [G]; rfl) (Sub.cons z (Sub.cons z Sub.nil)))
        · skip
          refine ye 34 z (show Value.bool (((p0.Version != p1.Version) || ((p0.Tables.length : Int) != (p1.Tables.length : Int))) || ((p0.Roles.length : Int) != (p1.Roles.length : Int))) = Value.bool false by rw [G]) ?_
          refine ya [(24, 35, (.pointer (some ⟨b1, 3, none⟩)))] kr (fun _ => by kernel_rfl) ?_
          refine yf z kr kr z (v := (.slice w_p0.Grants.a p0.Grants.length w_p0.Grants.c)) (fun w' hw' => cell_one ((rd_f (S7.rd (List.Mem.tail _ (List.Mem.head _)))) w' hw') kr) ?_
          refine ya [(26, 37, (.int .i64 (p0.Grants.length : Int))), (27, 38, (.pointer (some ⟨b5, 3, none⟩)))] kr (fun _ => by kernel_rfl) ?_
          refine yf z kr kr z (v := (.slice w_p1.Grants.a p1.Grants.length w_p1.Grants.c)) (fun w' hw' => cell_one ((rd_f (S7.rd (List.Mem.head _))) w' hw') kr) ?_
          refine ya [(29, 40, (.int .i64 (p1.Grants.length : Int))), (30, 41, (.bool ((p0.Grants.length : Int) != (p1.Grants.length : Int)))), (31, 42, (.bool ((p0.Grants.length : Int) != (p1.Grants.length : Int))))] kr (fun _ => by kernel_rfl) ?_
          refine WO.weaken (fr' := [(42, (.bool ((((p0.Version != p1.Version) || ((p0.Tables.length : Int) != (p1.Tables.length : Int))) || ((p0.Roles.length : Int) != (p1.Roles.length : Int))) || ((p0.Grants.length : Int) != (p1.Grants.length : Int))))), (2, (.pointer (some ⟨b1, 0, none⟩))), (3, (.pointer (some ⟨b5, 0, none⟩)))]) (yi ⟨rfl, rfl⟩) (Sub.cons (by rw [G]; rfl) (Sub.cons z (Sub.cons z Sub.nil)))
      case restm13 =>
        rintro _ _ ⟨rfl, rfl⟩
        refine yc ?_
        refine yb ?_
        refine W.cond (b := ((((p0.Version != p1.Version) || ((p0.Tables.length : Int) != (p1.Tables.length : Int))) || ((p0.Roles.length : Int) != (p1.Roles.length : Int))) || ((p0.Grants.length : Int) != (p1.Grants.length : Int)))) z z (fun G => ?_) (fun G => ?_)
        · replace D := cond_t G D
          refine W.seq ?_
          refine W.region (l := [0]) kr ?_
          refine ya [(0, 4, (.bool false))] kr (fun _ => by kernel_rfl) ?_
          refine yc ?_
          refine yb ?_
          refine ym ?_
          refine yg ?_
          have S15 := S7.drop
          have S16 := S15.drop
          have he := Option.some.inj D
          subst r
          exact yl z (.bool false) z ⟨I, rfl, Mem.Le.refl _, S16⟩
        · replace D := cond_f G D
          refine W.skip ?_
          refine yb ?_
          refine W.seq ?_
          refine W.seq ?_
          refine W.region (l := [0]) kr ?_
          refine ya [(0, 5, (.int .i64 0))] kr (fun _ => by kernel_rfl) ?_
          refine yc ?_
          refine yb ?_
          refine yq ?_
          obtain ⟨t17, hloop21, D⟩ := bind_some D
          have S22 := S7.front1
          have hlt26 := (h_p0.Tables).len_lt
          refine W.weaken (fr' := [(2, (.pointer (some ⟨b1, 0, none⟩))), (3, (.pointer (some ⟨b5, 0, none⟩))), (5, (.int .i64 ((0 : Nat) : Int)))]) (yag (m := p0.Tables.length) hloop21 (fun (i20 : Nat) (_s : Unit) fr w => ∃ (I18 : Mem), fr = [(2, (.pointer (some ⟨b1, 0, none⟩))), (3, (.pointer (some ⟨b5, 0, none⟩))), (5, (.int .i64 (i20 : Int)))] ∧ I.Le I18 ∧ St E w I18 ((Gv.one b1 (.cells (cs_qC p0 w_p0).toArray 36 (0, 0))) :: (Gv.one b5 (.cells (cs_qC p1 w_p1).toArray 36 (0, 0))) :: Os)) ⟨I, rfl, Mem.Le.refl _, S22⟩ ?roundt17 ?lastt17) (Sub.cons z (Sub.cons z (Sub.cons z Sub.nil)))
          case roundt17 =>
            rintro i20 _ _ w23 hi27 ⟨I18, rfl, L19, S24⟩ x25 R1 hext17
            refine W.seq ?_
            refine W.seq ?_
            refine W.region (l := [0, 1, 2, 3, 4]) kr ?_
            refine ya [(0, 43, (.int .i64 (i20 : Int))), (1, 44, (.pointer (some ⟨b1, 1, none⟩)))] kr (fun _ => by kernel_rfl) ?_
            refine yf z kr kr z (v := (.slice w_p0.Tables.a p0.Tables.length w_p0.Tables.c)) (fun w' hw' => cell_one ((rd_f (S24.rd (List.Mem.head _))) w' hw') kr) ?_
            refine ya [(3, 46, (.int .i64 (p0.Tables.length : Int))), (4, 47, (.bool (decide ((i20 : Int) < (p0.Tables.length : Int)))))] kr (fun _ => by kernel_rfl) ?_
            refine yc ?_
            refine yb ?_
            refine W.cond (b := (decide ((i20 : Int) < (p0.Tables.length : Int)))) z z (fun G => ?_) (fun G => ?_)
            rotate_left
            · exact absurd G (by first | (simp; done) | (simp; omega))
            clear G
            refine W.skip ?_
            refine yb ?_
            refine W.seq ?_
            refine yq ?_
            refine W.seq ?_
            have S28 := S24.drew
            refine yaf (l := [0, 1, 2, 3, 4, 5, 6, 7, 8, 9, 10, 11]) kr 10 (KR I18 [Gv.one b1 (.cells (cs_qC p0 w_p0).toArray 36 (0, 0)), Gv.one b5 (.cells (cs_qC p1 w_p1).toArray 36 (0, 0))]) qR (.back kr) kr (yk (S28.rd (List.Mem.head _)) (yk (S28.rd (List.Mem.tail _ (List.Mem.head _))) (yz S28.im))) ?_
            generalize World.drew _ = w29 at *
            refine ya [(0, 50, (.pointer (some ⟨b1, 1, none⟩)))] kr (fun _ => by kernel_rfl) ?_
            refine yf z kr kr z (v := (.slice w_p0.Tables.a p0.Tables.length w_p0.Tables.c)) (fun w' hw' => cell_one ((rd_c (List.Mem.head _) (S28.rd (List.Mem.head _))) w' hw') kr) ?_
            refine ya [(2, 52, (.int .i64 (i20 : Int)))] kr (fun _ => by kernel_rfl) ?_
            obtain ⟨x30, Xx30, R1⟩ := bind_some R1
            obtain ⟨h0_x30, h1_x30, Xx30⟩ := idx_some Xx30
            obtain ⟨ha_x30, cs_x30, hn_x30, hr_x30, Zx30⟩ := ((RSl.mono h_p0.Tables L19)).el _ _ Xx30
            obtain ⟨w_x30, rfl, h_x30⟩ := hr_x30
            refine yh (e := 64) (sz := 6) z kr kr kr z ha_x30 z h0_x30 h1_x30 ?_
            refine yp z kr kr z ((cs_qT x30 w_x30)) kr (fun w' hw' => Zx30.cells (k := 0) kr z ((rd_i S28.im) w' hw')) ?_
            refine ya [(5, 55, (.pointer (some ⟨b5, 1, none⟩)))] kr (fun _ => by kernel_rfl) ?_
            refine yf z kr kr z (v := (.slice w_p1.Tables.a p1.Tables.length w_p1.Tables.c)) (fun w' hw' => cell_one ((rd_c (List.Mem.tail _ (List.Mem.head _)) (S28.rd (List.Mem.tail _ (List.Mem.head _)))) w' hw') kr) ?_
            refine ya [(7, 57, (.int .i64 (i20 : Int)))] kr (fun _ => by kernel_rfl) ?_
            obtain ⟨x31, Xx31, R1⟩ := bind_some R1
            obtain ⟨h0_x31, h1_x31, Xx31⟩ := idx_some Xx31
            obtain ⟨ha_x31, cs_x31, hn_x31, hr_x31, Zx31⟩ := ((RSl.mono h_p1.Tables L19)).el _ _ Xx31
            obtain ⟨w_x31, rfl, h_x31⟩ := hr_x31
            refine yh (e := 64) (sz := 6) z kr kr kr z ha_x31 z h0_x31 h1_x31 ?_
            refine yp z kr kr z ((cs_qT x31 w_x31)) kr (fun w' hw' => Zx31.cells (k := 0) kr z ((rd_i S28.im) w' hw')) ?_
            refine WO.tail z ?_
            obtain ⟨r37, Xr32, R1⟩ := bind_some R1
            refine yj z kr z (f := 20) (args := #[(vT x30 w_x30), (vT x31 w_x31)]) kr (r14_Same_ok h_x30 h_x31 S28 Xr32) ?_
            rintro _ w33 ⟨I34, rfl, L35, S36⟩
            refine ⟨_, rfl, trivial, ?_⟩
            refine ya [(11, 61, (.bool (!r37)))] kr (fun _ => by kernel_rfl) ?_
            refine yc ?_
            refine yb ?_
            refine W.cond (b := (!r37)) z z (fun G => ?_) (fun G => ?_)
            · replace R1 := cond_t G R1
              refine W.seq ?_
              refine W.region (l := [0]) kr ?_
              refine ya [(0, 4, (.bool false))] kr (fun _ => by kernel_rfl) ?_
              refine yc ?_
              refine yb ?_
              refine ym ?_
              refine yn ?_
              refine yg ?_
              refine y6 ?_
              have ht := hext17 _ (Option.some.inj R1).symm
              subst t17
              refine yn ?_
              refine yg ?_
              have S42 := S36.drop
              have S43 := S42.drop
              have he := Option.some.inj D
              subst r
              exact yl z (.bool false) z ⟨I34, rfl, (L19.trans L35), S43⟩
            · replace R1 := cond_f G R1
              refine W.skip ?_
              refine yo ?_
              refine yb ?_
              refine W.region (l := [0, 1, 2]) kr ?_
              refine ya [(0, 48, (.int .i64 (i20 : Int)))] kr (fun _ => by kernel_rfl) ?_
              refine y9 (j := i20) z kr z (by first | omega | (dsimp only at *; omega) | (simp only [List.length_cons, List.length_nil] at *; omega)) ?_
              refine ya [(2, 5, (.int .i64 ((i20 + 1 : Nat) : Int)))] kr (fun _ => by kernel_rfl) ?_
              refine yc ?_
              refine En.weaken (fr' := [(2, (.pointer (some ⟨b1, 0, none⟩))), (3, (.pointer (some ⟨b5, 0, none⟩))), (5, (.int .i64 ((i20 + 1 : Nat) : Int)))]) (En.round ⟨(), (Option.some.inj R1).symm, I34, rfl, (L19.trans L35), S36⟩) (Sub.cons z (Sub.cons z (Sub.cons z Sub.nil)))
          case lastt17 =>
            rintro _ _ w44 ⟨I18, rfl, L19, S45⟩ he
            cases he
            refine W.seq ?_
            refine W.seq ?_
            refine W.region (l := [0, 1, 2, 3, 4]) kr ?_
            refine ya [(0, 43, (.int .i64 (p0.Tables.length : Int))), (1, 44, (.pointer (some ⟨b1, 1, none⟩)))] kr (fun _ => by kernel_rfl) ?_
            refine yf z kr kr z (v := (.slice w_p0.Tables.a p0.Tables.length w_p0.Tables.c)) (fun w' hw' => cell_one ((rd_f (S45.rd (List.Mem.head _))) w' hw') kr) ?_
            refine ya [(3, 46, (.int .i64 (p0.Tables.length : Int))), (4, 47, (.bool (decide ((p0.Tables.length : Int) < (p0.Tables.length : Int)))))] kr (fun _ => by kernel_rfl) ?_
            refine yc ?_
            refine yb ?_
            refine W.cond (b := (decide ((p0.Tables.length : Int) < (p0.Tables.length : Int)))) z z (fun G => ?_) (fun G => ?_)
            · exact absurd G (by first | (simp; done) | (simp; omega))
            clear G
            refine W.exit ?_
            refine yw ?_
            refine yx ?_
            refine y0 ?_
            refine yb ?_
            refine W.seq ?_
            refine W.seq ?_
            refine W.region (l := [0]) kr ?_
            refine ya [(0, 6, (.int .i64 0))] kr (fun _ => by kernel_rfl) ?_
            refine yc ?_
            refine yb ?_
            refine yq ?_
            obtain ⟨t46, hloop50, D⟩ := bind_some D
            have hlt54 := ((RSl.mono h_p0.Roles L19)).len_lt
            refine W.weaken (fr' := [(2, (.pointer (some ⟨b1, 0, none⟩))), (3, (.pointer (some ⟨b5, 0, none⟩))), (6, (.int .i64 ((0 : Nat) : Int)))]) (yag (m := p0.Roles.length) hloop50 (fun (i49 : Nat) (_s : Unit) fr w => ∃ (I47 : Mem), fr = [(2, (.pointer (some ⟨b1, 0, none⟩))), (3, (.pointer (some ⟨b5, 0, none⟩))), (6, (.int .i64 (i49 : Int)))] ∧ I18.Le I47 ∧ St E w I47 ((Gv.one b1 (.cells (cs_qC p0 w_p0).toArray 36 (0, 0))) :: (Gv.one b5 (.cells (cs_qC p1 w_p1).toArray 36 (0, 0))) :: Os)) ⟨I18, rfl, Mem.Le.refl _, S45⟩ ?roundt46 ?lastt46) (Sub.cons z (Sub.cons z (Sub.cons z Sub.nil)))
            case roundt46 =>
              rintro i49 _ _ w51 hi55 ⟨I47, rfl, L48, S52⟩ x53 R1 hext46
              refine W.seq ?_
              refine W.seq ?_
              refine W.region (l := [0, 1, 2, 3, 4]) kr ?_
              refine ya [(0, 62, (.int .i64 (i49 : Int))), (1, 63, (.pointer (some ⟨b1, 2, none⟩)))] kr (fun _ => by kernel_rfl) ?_
              refine yf z kr kr z (v := (.slice w_p0.Roles.a p0.Roles.length w_p0.Roles.c)) (fun w' hw' => cell_one ((rd_f (S52.rd (List.Mem.head _))) w' hw') kr) ?_
              refine ya [(3, 65, (.int .i64 (p0.Roles.length : Int))), (4, 66, (.bool (decide ((i49 : Int) < (p0.Roles.length : Int)))))] kr (fun _ => by kernel_rfl) ?_
              refine yc ?_
              refine yb ?_
              refine W.cond (b := (decide ((i49 : Int) < (p0.Roles.length : Int)))) z z (fun G => ?_) (fun G => ?_)
              rotate_left
              · exact absurd G (by first | (simp; done) | (simp; omega))
              clear G
              refine W.skip ?_
              refine yb ?_
              refine W.seq ?_
              refine yq ?_
              refine W.seq ?_
              obtain ⟨j56, R2, R1⟩ := bind_some R1
              refine W.join (J := (fun fr w => ∃ (s77 : qJ), ∃ (s78 : qJ), ∃ (I58 : Mem), ∃ (w_s77 : W_qJ), ∃ (b_s77 : Nat), ∃ (w_s78 : W_qJ), ∃ (b_s78 : Nat), (s77, s78) = j56 ∧ fr = [(2, (.pointer (some ⟨b1, 0, none⟩))), (3, (.pointer (some ⟨b5, 0, none⟩))), (6, (.int .i64 (i49 : Int))), (7, (.pointer (some ⟨b_s77, 0, none⟩))), (8, (.pointer (some ⟨b_s78, 0, none⟩)))] ∧ I47.Le I58 ∧ St E w I58 ((Gv.one b1 (.cells (cs_qC p0 w_p0).toArray 36 (0, 0))) :: (Gv.one b5 (.cells (cs_qC p1 w_p1).toArray 36 (0, 0))) :: (Gv.one b_s77 (.cells (cs_qJ s77 w_s77).toArray 66 (0, 0))) :: (Gv.one b_s78 (.cells (cs_qJ s78 w_s78).toArray 66 (0, 0))) :: Os) ∧ ok_qJ I58 s77 w_s77 ∧ ok_qJ I58 s78 w_s78)) ?restj56 ?waysj56
              case waysj56 =>
                have S60 := S52.drew
                refine W.draws (.split 11 10 (.leaf [0, 1, 2, 3, 4, 5, 6, 7, 8, 9, 11, 10, 12, 13]) (.leaf [0, 1, 2, 3, 4, 5, 6, 7, 8, 9, 10, 11, 12, 13])) 13 (KR I47 [Gv.one b1 (.cells (cs_qC p0 w_p0).toArray 36 (0, 0)), Gv.one b5 (.cells (cs_qC p1 w_p1).toArray 36 (0, 0))]) qR (.ords [0, 1, 2, 3, 4, 5, 6, 7, 8, 9, 10, 11, 12, 13] [0, 1, 2, 3, 4, 10, 11, 12, 5, 6, 7, 8, 9, 13] kr kr kr kr kr) kr (yk (S60.rd (List.Mem.head _)) (yk (S60.rd (List.Mem.tail _ (List.Mem.head _))) (yz S60.im))) ?_
                generalize World.drew _ = w61 at *
                refine ⟨?_, ?_⟩
                · skip
                  show WO _ _ _ _ _ _ _ [0, 1, 2, 3, 4, 5, 6, 7, 8, 9, 11, 10, 12, 13] _ _
                  refine ya [(0, 69, (.pointer (some ⟨b1, 2, none⟩)))] kr (fun _ => by kernel_rfl) ?_
                  refine yf z kr kr z (v := (.slice w_p0.Roles.a p0.Roles.length w_p0.Roles.c)) (fun w' hw' => cell_one ((rd_c (List.Mem.head _) (S60.rd (List.Mem.head _))) w' hw') kr) ?_
                  refine ya [(2, 71, (.int .i64 (i49 : Int)))] kr (fun _ => by kernel_rfl) ?_
                  obtain ⟨x62, Xx62, R2⟩ := bind_some R2
                  obtain ⟨h0_x62, h1_x62, Xx62⟩ := idx_some Xx62
                  obtain ⟨ha_x62, cs_x62, hn_x62, hr_x62, Zx62⟩ := ((RSl.mono h_p0.Roles (L19.trans L48))).el _ _ Xx62
                  obtain ⟨w_x62, rfl, h_x62⟩ := hr_x62
                  refine yh (e := 66) (sz := 2) z kr kr kr z ha_x62 z h0_x62 h1_x62 ?_
                  refine yp z kr kr z ((cs_qJ x62 w_x62)) kr (fun w' hw' => Zx62.cells (k := 0) kr z ((rd_i S60.im) w' hw')) ?_
                  refine ya [(5, 74, (.pointer (some ⟨b5, 2, none⟩)))] kr (fun _ => by kernel_rfl) ?_
                  refine yf z kr kr z (v := (.slice w_p1.Roles.a p1.Roles.length w_p1.Roles.c)) (fun w' hw' => cell_one ((rd_c (List.Mem.tail _ (List.Mem.head _)) (S60.rd (List.Mem.tail _ (List.Mem.head _)))) w' hw') kr) ?_
                  refine ya [(7, 76, (.int .i64 (i49 : Int)))] kr (fun _ => by kernel_rfl) ?_
                  obtain ⟨x63, Xx63, R2⟩ := bind_some R2
                  obtain ⟨h0_x63, h1_x63, Xx63⟩ := idx_some Xx63
                  obtain ⟨ha_x63, cs_x63, hn_x63, hr_x63, Zx63⟩ := ((RSl.mono h_p1.Roles (L19.trans L48))).el _ _ Xx63
                  obtain ⟨w_x63, rfl, h_x63⟩ := hr_x63
                  refine yh (e := 66) (sz := 2) z kr kr kr z ha_x63 z h0_x63 h1_x63 ?_
                  refine yp z kr kr z ((cs_qJ x63 w_x63)) kr (fun w' hw' => Zx63.cells (k := 0) kr z ((rd_i S60.im) w' hw')) ?_
                  refine yu S60 z kr z (.cells (cs_qJ z_qJ zw_qJ).toArray 66 (0, 0)) (fun b => .pointer (some ⟨b, 0, none⟩)) kr (fun b64 w67 S66 => (yk (S66.rd (List.Mem.tail _ (List.Mem.head _))) (yk (S66.rd (List.Mem.tail _ (List.Mem.tail _ (List.Mem.head _)))) (yz S66.im)))) ?_
                  intro b64 w67 S66
                  refine yu S66 z kr z (.cells (cs_qJ z_qJ zw_qJ).toArray 66 (0, 0)) (fun b => .pointer (some ⟨b, 0, none⟩)) kr (fun b68 w71 S70 => (yk (S70.rd (List.Mem.tail _ (List.Mem.tail _ (List.Mem.head _)))) (yk (S70.rd (List.Mem.tail _ (List.Mem.tail _ (List.Mem.tail _ (List.Mem.head _))))) (yz S70.im)))) ?_
                  intro b68 w71 S70
                  refine yr S70 z kr z 0 z z kr kr kr ((cs_qJ x62 w_x62).toArray) kr (fun w73 S72 => (yk (S72.rd (List.Mem.tail _ (List.Mem.tail _ (List.Mem.head _)))) (yk (S72.rd (List.Mem.tail _ (List.Mem.tail _ (List.Mem.tail _ (List.Mem.head _))))) (yz S72.im)))) ?_
                  intro w73 S72
                  refine WO.tail z ?_
                  have S74 := S72.front1
                  refine yr S74 z kr z 0 z z kr kr kr ((cs_qJ x63 w_x63).toArray) kr tv ?_
                  intro w76 S75
                  refine yc ?_
                  have S79 := S75.front1
                  have S80 := S79.front3
                  have S81 := S80.front3
                  refine En.weaken (fr' := [(2, (.pointer (some ⟨b1, 0, none⟩))), (3, (.pointer (some ⟨b5, 0, none⟩))), (6, (.int .i64 (i49 : Int))), (7, (.pointer (some ⟨b68, 0, none⟩))), (8, (.pointer (some ⟨b64, 0, none⟩)))]) (En.round ⟨x62, x63, I47, w_x62, b68, w_x63, b64, Option.some.inj R2, rfl, Mem.Le.refl _, S81, h_x62, h_x63⟩) (Sub.cons z (Sub.cons z (Sub.cons z (Sub.cons z (Sub.cons z Sub.nil)))))
                · skip
                  show WO _ _ _ _ _ _ _ [0, 1, 2, 3, 4, 5, 6, 7, 8, 9, 10, 11, 12, 13] _ _
                  refine ya [(0, 69, (.pointer (some ⟨b1, 2, none⟩)))] kr (fun _ => by kernel_rfl) ?_
                  refine yf z kr kr z (v := (.slice w_p0.Roles.a p0.Roles.length w_p0.Roles.c)) (fun w' hw' => cell_one ((rd_c (List.Mem.head _) (S60.rd (List.Mem.head _))) w' hw') kr) ?_
                  refine ya [(2, 71, (.int .i64 (i49 : Int)))] kr (fun _ => by kernel_rfl) ?_
                  obtain ⟨x82, Xx82, R2⟩ := bind_some R2
                  obtain ⟨h0_x82, h1_x82, Xx82⟩ := idx_some Xx82
                  obtain ⟨ha_x82, cs_x82, hn_x82, hr_x82, Zx82⟩ := ((RSl.mono h_p0.Roles (L19.trans L48))).el _ _ Xx82
                  obtain ⟨w_x82, rfl, h_x82⟩ := hr_x82
                  refine yh (e := 66) (sz := 2) z kr kr kr z ha_x82 z h0_x82 h1_x82 ?_
                  refine yp z kr kr z ((cs_qJ x82 w_x82)) kr (fun w' hw' => Zx82.cells (k := 0) kr z ((rd_i S60.im) w' hw')) ?_
                  refine ya [(5, 74, (.pointer (some ⟨b5, 2, none⟩)))] kr (fun _ => by kernel_rfl) ?_
                  refine yf z kr kr z (v := (.slice w_p1.Roles.a p1.Roles.length w_p1.Roles.c)) (fun w' hw' => cell_one ((rd_c (List.Mem.tail _ (List.Mem.head _)) (S60.rd (List.Mem.tail _ (List.Mem.head _)))) w' hw') kr) ?_
                  refine ya [(7, 76, (.int .i64 (i49 : Int)))] kr (fun _ => by kernel_rfl) ?_
                  obtain ⟨x83, Xx83, R2⟩ := bind_some R2
                  obtain ⟨h0_x83, h1_x83, Xx83⟩ := idx_some Xx83
                  obtain ⟨ha_x83, cs_x83, hn_x83, hr_x83, Zx83⟩ := ((RSl.mono h_p1.Roles (L19.trans L48))).el _ _ Xx83
                  obtain ⟨w_x83, rfl, h_x83⟩ := hr_x83
                  refine yh (e := 66) (sz := 2) z kr kr kr z ha_x83 z h0_x83 h1_x83 ?_
                  refine yp z kr kr z ((cs_qJ x83 w_x83)) kr (fun w' hw' => Zx83.cells (k := 0) kr z ((rd_i S60.im) w' hw')) ?_
                  refine yu S60 z kr z (.cells (cs_qJ z_qJ zw_qJ).toArray 66 (0, 0)) (fun b => .pointer (some ⟨b, 0, none⟩)) kr (fun b84 w87 S86 => (yk (S86.rd (List.Mem.tail _ (List.Mem.head _))) (yk (S86.rd (List.Mem.tail _ (List.Mem.tail _ (List.Mem.head _)))) (yz S86.im)))) ?_
                  intro b84 w87 S86
                  refine yu S86 z kr z (.cells (cs_qJ z_qJ zw_qJ).toArray 66 (0, 0)) (fun b => .pointer (some ⟨b, 0, none⟩)) kr (fun b88 w91 S90 => (yk (S90.rd (List.Mem.tail _ (List.Mem.tail _ (List.Mem.head _)))) (yk (S90.rd (List.Mem.tail _ (List.Mem.tail _ (List.Mem.tail _ (List.Mem.head _))))) (yz S90.im)))) ?_
                  intro b88 w91 S90
                  have S92 := S90.front1
                  refine yr S92 z kr z 0 z z kr kr kr ((cs_qJ x82 w_x82).toArray) kr (fun w94 S93 => (yk (S93.rd (List.Mem.tail _ (List.Mem.tail _ (List.Mem.head _)))) (yk (S93.rd (List.Mem.tail _ (List.Mem.tail _ (List.Mem.tail _ (List.Mem.head _))))) (yz S93.im)))) ?_
                  intro w94 S93
                  refine WO.tail z ?_
                  have S95 := S93.front1
                  refine yr S95 z kr z 0 z z kr kr kr ((cs_qJ x83 w_x83).toArray) kr tv ?_
                  intro w97 S96
                  refine yc ?_
                  have S98 := S96.front1
                  have S99 := S98.front3
                  have S100 := S99.front3
                  refine En.weaken (fr' := [(2, (.pointer (some ⟨b1, 0, none⟩))), (3, (.pointer (some ⟨b5, 0, none⟩))), (6, (.int .i64 (i49 : Int))), (7, (.pointer (some ⟨b84, 0, none⟩))), (8, (.pointer (some ⟨b88, 0, none⟩)))]) (En.round ⟨x82, x83, I47, w_x82, b84, w_x83, b88, Option.some.inj R2, rfl, Mem.Le.refl _, S100, h_x82, h_x83⟩) (Sub.cons z (Sub.cons z (Sub.cons z (Sub.cons z (Sub.cons z Sub.nil)))))
              case restj56 =>
                rintro _ w101 ⟨s77, s78, I58, w_s77, b_s77, w_s78, b_s78, rfl, rfl, L59, S102, h_s77, h_s78⟩
                refine yb ?_
                refine W.seq ?_
                refine W.seq ?_
                refine W.region (l := [0, 1, 2, 3, 4, 5, 6, 7, 8, 9, 10, 11, 12, 13]) kr ?_
                refine ya [(0, 79, (.pointer (some ⟨b_s77, 0, none⟩)))] kr (fun _ => by kernel_rfl) ?_
                refine yf z kr kr z (v := (.string s77.Name)) (fun w' hw' => cell_one ((rd_f (S102.rd (List.Mem.tail _ (List.Mem.tail _ (List.Mem.head _))))) w' hw') kr) ?_
                refine ya [(2, 81, (.pointer (some ⟨b_s78, 0, none⟩)))] kr (fun _ => by kernel_rfl) ?_
                refine yf z kr kr z (v := (.string s78.Name)) (fun w' hw' => cell_one ((rd_f (S102.rd (List.Mem.tail _ (List.Mem.tail _ (List.Mem.tail _ (List.Mem.head _)))))) w' hw') kr) ?_
                refine ya [(4, 83, (.bool (!sEq s77.Name s78.Name))), (5, 84, (.bool (!sEq s77.Name s78.Name)))] kr (fun _ => by kernel_rfl) ?_
                refine WO.join (l1 := [6, 7, 8, 9, 10, 11, 12, 13]) (l2 := []) (J := fun frx wx => frx = [(92, (.bool ((!sEq s77.Name s78.Name) || ((s77.In.length : Int) != (s78.In.length : Int))))), (2, (.pointer (some ⟨b1, 0, none⟩))), (3, (.pointer (some ⟨b5, 0, none⟩))), (6, (.int .i64 (i49 : Int))), (7, (.pointer (some ⟨b_s77, 0, none⟩))), (8, (.pointer (some ⟨b_s78, 0, none⟩)))] ∧ w101 = wx) ?restm103 ?waysm103
                case waysm103 =>
                  refine yt (!sEq s77.Name s78.Name) (fun G => ?_) (fun G => ?_)
                  · skip
                    refine ye 84 z (show Value.bool (!sEq s77.Name s78.Name) = Value.bool true by rw [G]) ?_
                    refine yd z kr z ?_
                    refine yd z kr z ?_
                    refine yd z kr z ?_
                    refine yd z kr z ?_
                    refine yd z kr z ?_
                    refine yd z kr z ?_
                    refine yd z kr z ?_
                    refine ya [(13, 92, (.bool true))] kr (fun _ => by kernel_rfl) ?_
                    refine WO.weaken (fr' := [(92, (.bool ((!sEq s77.Name s78.Name) || ((s77.In.length : Int) != (s78.In.length : Int))))), (2, (.pointer (some ⟨b1, 0, none⟩))), (3, (.pointer (some ⟨b5, 0, none⟩))), (6, (.int .i64 (i49 : Int))), (7, (.pointer (some ⟨b_s77, 0, none⟩))), (8, (.pointer (some ⟨b_s78, 0, none⟩)))]) (yi ⟨rfl, rfl⟩) (Sub.cons (by rw [G]; rfl) (Sub.cons z (Sub.cons z (Sub.cons z (Sub.cons z (Sub.cons z Sub.nil))))))
                  · skip
                    refine ye 84 z (show Value.bool (!sEq s77.Name s78.Name) = Value.bool false by rw [G]) ?_
                    refine ya [(6, 85, (.pointer (some ⟨b_s77, 1, none⟩)))] kr (fun _ => by kernel_rfl) ?_
                    refine yf z kr kr z (v := (.slice w_s77.In.a s77.In.length w_s77.In.c)) (fun w' hw' => cell_one ((rd_f (S102.rd (List.Mem.tail _ (List.Mem.tail _ (List.Mem.head _))))) w' hw') kr) ?_
                    refine ya [(8, 87, (.int .i64 (s77.In.length : Int))), (9, 88, (.pointer (some ⟨b_s78, 1, none⟩)))] kr (fun _ => by kernel_rfl) ?_
                    refine yf z kr kr z (v := (.slice w_s78.In.a s78.In.length w_s78.In.c)) (fun w' hw' => cell_one ((rd_f (S102.rd (List.Mem.tail _ (List.Mem.tail _ (List.Mem.tail _ (List.Mem.head _)))))) w' hw') kr) ?_
                    refine ya [(11, 90, (.int .i64 (s78.In.length : Int))), (12, 91, (.bool ((s77.In.length : Int) != (s78.In.length : Int)))), (13, 92, (.bool ((s77.In.length : Int) != (s78.In.length : Int))))] kr (fun _ => by kernel_rfl) ?_
                    refine WO.weaken (fr' := [(92, (.bool ((!sEq s77.Name s78.Name) || ((s77.In.length : Int) != (s78.In.length : Int))))), (2, (.pointer (some ⟨b1, 0, none⟩))), (3, (.pointer (some ⟨b5, 0, none⟩))), (6, (.int .i64 (i49 : Int))), (7, (.pointer (some ⟨b_s77, 0, none⟩))), (8, (.pointer (some ⟨b_s78, 0, none⟩)))]) (yi ⟨rfl, rfl⟩) (Sub.cons (by rw [G]; rfl) (Sub.cons z (Sub.cons z (Sub.cons z (Sub.cons z (Sub.cons z Sub.nil))))))
                case restm103 =>
                  rintro _ _ ⟨rfl, rfl⟩
                  refine yc ?_
                  refine yb ?_
                  refine W.cond (b := ((!sEq s77.Name s78.Name) || ((s77.In.length : Int) != (s78.In.length : Int)))) z z (fun G => ?_) (fun G => ?_)
                  · replace R1 := cond_t G R1
                    refine W.seq ?_
                    refine W.region (l := [0]) kr ?_
                    refine ya [(0, 4, (.bool false))] kr (fun _ => by kernel_rfl) ?_
                    refine yc ?_
                    refine yb ?_
                    refine ym ?_
                    refine yg ?_
                    refine yn ?_
                    refine yg ?_
                    refine y6 ?_
                    have ht := hext46 _ (Option.some.inj R1).symm
                    subst t46
                    refine yn ?_
                    refine yg ?_
                    have S109 := S102.drop
                    have S110 := S109.drop
                    have S111 := S110.drop
                    have S112 := S111.drop
                    have he := Option.some.inj D
                    subst r
                    exact yl z (.bool false) z ⟨I58, rfl, ((L19.trans L48).trans L59), S112⟩
                  · replace R1 := cond_f G R1
                    refine W.skip ?_
                    refine yb ?_
                    refine W.seq ?_
                    refine W.region (l := [0]) kr ?_
                    refine ya [(0, 9, (.int .i64 0))] kr (fun _ => by kernel_rfl) ?_
                    refine yc ?_
                    refine yb ?_
                    refine yq ?_
                    obtain ⟨t113, hloop117, R1⟩ := bind_some R1
                    have hlt121 := (h_s77.In).len_lt
                    refine W.weaken (fr' := [(2, (.pointer (some ⟨b1, 0, none⟩))), (3, (.pointer (some ⟨b5, 0, none⟩))), (6, (.int .i64 (i49 : Int))), (7, (.pointer (some ⟨b_s77, 0, none⟩))), (8, (.pointer (some ⟨b_s78, 0, none⟩))), (9, (.int .i64 ((0 : Nat) : Int)))]) (yag (m := s77.In.length) hloop117 (fun (i116 : Nat) (_s : Unit) fr w => ∃ (I114 : Mem), fr = [(2, (.pointer (some ⟨b1, 0, none⟩))), (3, (.pointer (some ⟨b5, 0, none⟩))), (6, (.int .i64 (i49 : Int))), (7, (.pointer (some ⟨b_s77, 0, none⟩))), (8, (.pointer (some ⟨b_s78, 0, none⟩))), (9, (.int .i64 (i116 : Int)))] ∧ I58.Le I114 ∧ St E w I114 ((Gv.one b1 (.cells (cs_qC p0 w_p0).toArray 36 (0, 0))) :: (Gv.one b5 (.cells (cs_qC p1 w_p1).toArray 36 (0, 0))) :: (Gv.one b_s77 (.cells (cs_qJ s77 w_s77).toArray 66 (0, 0))) :: (Gv.one b_s78 (.cells (cs_qJ s78 w_s78).toArray 66 (0, 0))) :: Os)) ⟨I58, rfl, Mem.Le.refl _, S102⟩ ?roundt113 ?lastt113) (Sub.cons z (Sub.cons z (Sub.cons z (Sub.cons z (Sub.cons z (Sub.cons z Sub.nil))))))
                    case roundt113 =>
                      rintro i116 _ _ w118 hi122 ⟨I114, rfl, L115, S119⟩ x120 R2 hext113
                      refine W.seq ?_
                      refine W.seq ?_
                      refine W.region (l := [0, 1, 2, 3, 4]) kr ?_
                      refine ya [(0, 93, (.int .i64 (i116 : Int))), (1, 94, (.pointer (some ⟨b_s77, 1, none⟩)))] kr (fun _ => by kernel_rfl) ?_
                      refine yf z kr kr z (v := (.slice w_s77.In.a s77.In.length w_s77.In.c)) (fun w' hw' => cell_one ((rd_f (S119.rd (List.Mem.tail _ (List.Mem.tail _ (List.Mem.head _))))) w' hw') kr) ?_
                      refine ya [(3, 96, (.int .i64 (s77.In.length : Int))), (4, 97, (.bool (decide ((i116 : Int) < (s77.In.length : Int)))))] kr (fun _ => by kernel_rfl) ?_
                      refine yc ?_
                      refine yb ?_
                      refine W.cond (b := (decide ((i116 : Int) < (s77.In.length : Int)))) z z (fun G => ?_) (fun G => ?_)
                      rotate_left
                      · exact absurd G (by first | (simp; done) | (simp; omega))
                      clear G
                      refine W.skip ?_
                      refine yb ?_
                      refine W.seq ?_
                      refine yq ?_
                      refine W.seq ?_
                      have S123 := S119.drew
                      refine yaf (l := [0, 1, 2, 3, 4, 5, 6, 7, 8, 9, 10]) kr 10 (KR I114 [Gv.one b_s77 (.cells (cs_qJ s77 w_s77).toArray 66 (0, 0)), Gv.one b_s78 (.cells (cs_qJ s78 w_s78).toArray 66 (0, 0))]) qR (.back kr) kr (yk (S123.rd (List.Mem.tail _ (List.Mem.tail _ (List.Mem.head _)))) (yk (S123.rd (List.Mem.tail _ (List.Mem.tail _ (List.Mem.tail _ (List.Mem.head _))))) (yz S123.im))) ?_
                      generalize World.drew _ = w124 at *
                      refine ya [(0, 100, (.pointer (some ⟨b_s77, 1, none⟩)))] kr (fun _ => by kernel_rfl) ?_
                      refine yf z kr kr z (v := (.slice w_s77.In.a s77.In.length w_s77.In.c)) (fun w' hw' => cell_one ((rd_c (List.Mem.head _) (S123.rd (List.Mem.tail _ (List.Mem.tail _ (List.Mem.head _))))) w' hw') kr) ?_
                      refine ya [(2, 102, (.int .i64 (i116 : Int)))] kr (fun _ => by kernel_rfl) ?_
                      obtain ⟨x125, Xx125, R2⟩ := bind_some R2
                      obtain ⟨h0_x125, h1_x125, Xx125⟩ := idx_some Xx125
                      obtain ⟨ha_x125, cs_x125, hn_x125, hr_x125, Zx125⟩ := ((RSl.mono h_s77.In L115)).el _ _ Xx125
                      obtain rfl := hr_x125
                      refine yh (e := 9) (sz := 1) z kr kr kr z ha_x125 z h0_x125 h1_x125 ?_
                      refine yf z kr kr z (v := (.string x125)) (fun w' hw' => Zx125.cell0 kr ((rd_i S123.im) w' hw')) ?_
                      refine ya [(5, 105, (.pointer (some ⟨b_s78, 1, none⟩)))] kr (fun _ => by kernel_rfl) ?_
                      refine yf z kr kr z (v := (.slice w_s78.In.a s78.In.length w_s78.In.c)) (fun w' hw' => cell_one ((rd_c (List.Mem.tail _ (List.Mem.head _)) (S123.rd (List.Mem.tail _ (List.Mem.tail _ (List.Mem.tail _ (List.Mem.head _)))))) w' hw') kr) ?_
                      refine ya [(7, 107, (.int .i64 (i116 : Int)))] kr (fun _ => by kernel_rfl) ?_
                      obtain ⟨x126, Xx126, R2⟩ := bind_some R2
                      obtain ⟨h0_x126, h1_x126, Xx126⟩ := idx_some Xx126
                      obtain ⟨ha_x126, cs_x126, hn_x126, hr_x126, Zx126⟩ := ((RSl.mono h_s78.In L115)).el _ _ Xx126
                      obtain rfl := hr_x126
                      refine yh (e := 9) (sz := 1) z kr kr kr z ha_x126 z h0_x126 h1_x126 ?_
                      refine yf z kr kr z (v := (.string x126)) (fun w' hw' => Zx126.cell0 kr ((rd_i S123.im) w' hw')) ?_
                      refine WO.tail z ?_
                      refine ya [(10, 110, (.bool (!sEq x125 x126)))] kr (fun _ => by kernel_rfl) ?_
                      refine yc ?_
                      refine yb ?_
                      refine W.cond (b := (!sEq x125 x126)) z z (fun G => ?_) (fun G => ?_)
                      · replace R2 := cond_t G R2
                        refine W.seq ?_
                        refine W.region (l := [0]) kr ?_
                        refine ya [(0, 4, (.bool false))] kr (fun _ => by kernel_rfl) ?_
                        refine yc ?_
                        refine yb ?_
                        refine ym ?_
                        refine yn ?_
                        refine yg ?_
                        refine y6 ?_
                        have ht := hext113 _ (Option.some.inj R2).symm
                        subst t113
                        refine yn ?_
                        refine yn ?_
                        refine yg ?_
                        refine y6 ?_
                        have ht := hext46 _ (Option.some.inj R1).symm
                        subst t46
                        refine yn ?_
                        refine yg ?_
                        have S133 := S123.drop
                        have S134 := S133.drop
                        have S135 := S134.drop
                        have S136 := S135.drop
                        have he := Option.some.inj D
                        subst r
                        exact yl z (.bool false) z ⟨I114, rfl, (((L19.trans L48).trans L59).trans L115), S136⟩
                      · replace R2 := cond_f G R2
                        refine W.skip ?_
                        refine yo ?_
                        refine yb ?_
                        refine W.region (l := [0, 1, 2]) kr ?_
                        refine ya [(0, 98, (.int .i64 (i116 : Int)))] kr (fun _ => by kernel_rfl) ?_
                        refine y9 (j := i116) z kr z (by first | omega | (dsimp only at *; omega) | (simp only [List.length_cons, List.length_nil] at *; omega)) ?_
                        refine ya [(2, 9, (.int .i64 ((i116 + 1 : Nat) : Int)))] kr (fun _ => by kernel_rfl) ?_
                        refine yc ?_
                        refine En.weaken (fr' := [(2, (.pointer (some ⟨b1, 0, none⟩))), (3, (.pointer (some ⟨b5, 0, none⟩))), (6, (.int .i64 (i49 : Int))), (7, (.pointer (some ⟨b_s77, 0, none⟩))), (8, (.pointer (some ⟨b_s78, 0, none⟩))), (9, (.int .i64 ((i116 + 1 : Nat) : Int)))]) (En.round ⟨(), (Option.some.inj R2).symm, I114, rfl, L115, S123⟩) (Sub.cons z (Sub.cons z (Sub.cons z (Sub.cons z (Sub.cons z (Sub.cons z Sub.nil))))))
                    case lastt113 =>
                      rintro _ _ w137 ⟨I114, rfl, L115, S138⟩ he
                      cases he
                      refine W.seq ?_
                      refine W.seq ?_
                      refine W.region (l := [0, 1, 2, 3, 4]) kr ?_
                      refine ya [(0, 93, (.int .i64 (s77.In.length : Int))), (1, 94, (.pointer (some ⟨b_s77, 1, none⟩)))] kr (fun _ => by kernel_rfl) ?_
                      refine yf z kr kr z (v := (.slice w_s77.In.a s77.In.length w_s77.In.c)) (fun w' hw' => cell_one ((rd_f (S138.rd (List.Mem.tail _ (List.Mem.tail _ (List.Mem.head _))))) w' hw') kr) ?_
                      refine ya [(3, 96, (.int .i64 (s77.In.length : Int))), (4, 97, (.bool (decide ((s77.In.length : Int) < (s77.In.length : Int)))))] kr (fun _ => by kernel_rfl) ?_
                      refine yc ?_
                      refine yb ?_
                      refine W.cond (b := (decide ((s77.In.length : Int) < (s77.In.length : Int)))) z z (fun G => ?_) (fun G => ?_)
                      · exact absurd G (by first | (simp; done) | (simp; omega))
                      clear G
                      refine W.exit ?_
                      refine yw ?_
                      refine yx ?_
                      refine y0 ?_
                      refine yo ?_
                      refine yb ?_
                      refine W.region (l := [0, 1, 2]) kr ?_
                      refine ya [(0, 67, (.int .i64 (i49 : Int)))] kr (fun _ => by kernel_rfl) ?_
                      refine y9 (j := i49) z kr z (by first | omega | (dsimp only at *; omega) | (simp only [List.length_cons, List.length_nil] at *; omega)) ?_
                      refine ya [(2, 6, (.int .i64 ((i49 + 1 : Nat) : Int)))] kr (fun _ => by kernel_rfl) ?_
                      refine yc ?_
                      have S139 := S138.front2
                      have S140 := S139.drop
                      have S141 := S140.front2
                      have S142 := S141.drop
                      refine En.weaken (fr' := [(2, (.pointer (some ⟨b1, 0, none⟩))), (3, (.pointer (some ⟨b5, 0, none⟩))), (6, (.int .i64 ((i49 + 1 : Nat) : Int)))]) (En.round ⟨(), (Option.some.inj R1).symm, I114, rfl, ((L48.trans L59).trans L115), S142⟩) (Sub.cons z (Sub.cons z (Sub.cons z Sub.nil)))
            case lastt46 =>
              rintro _ _ w143 ⟨I47, rfl, L48, S144⟩ he
              cases he
              refine W.seq ?_
              refine W.seq ?_
              refine W.region (l := [0, 1, 2, 3, 4]) kr ?_
              refine ya [(0, 62, (.int .i64 (p0.Roles.length : Int))), (1, 63, (.pointer (some ⟨b1, 2, none⟩)))] kr (fun _ => by kernel_rfl) ?_
              refine yf z kr kr z (v := (.slice w_p0.Roles.a p0.Roles.length w_p0.Roles.c)) (fun w' hw' => cell_one ((rd_f (S144.rd (List.Mem.head _))) w' hw') kr) ?_
              refine ya [(3, 65, (.int .i64 (p0.Roles.length : Int))), (4, 66, (.bool (decide ((p0.Roles.length : Int) < (p0.Roles.length : Int)))))] kr (fun _ => by kernel_rfl) ?_
              refine yc ?_
              refine yb ?_
              refine W.cond (b := (decide ((p0.Roles.length : Int) < (p0.Roles.length : Int)))) z z (fun G => ?_) (fun G => ?_)
              · exact absurd G (by first | (simp; done) | (simp; omega))
              clear G
              refine W.exit ?_
              refine yw ?_
              refine yx ?_
              refine y0 ?_
              refine yb ?_
              refine W.seq ?_
              refine W.seq ?_
              refine W.region (l := [0]) kr ?_
              refine ya [(0, 10, (.int .i64 0))] kr (fun _ => by kernel_rfl) ?_
              refine yc ?_
              refine yb ?_
              refine yq ?_
              obtain ⟨t145, hloop149, D⟩ := bind_some D
              have hlt153 := ((RSl.mono h_p0.Grants (L19.trans L48))).len_lt
              refine W.weaken (fr' := [(2, (.pointer (some ⟨b1, 0, none⟩))), (3, (.pointer (some ⟨b5, 0, none⟩))), (10, (.int .i64 ((0 : Nat) : Int)))]) (yag (m := p0.Grants.length) hloop149 (fun (i148 : Nat) (_s : Unit) fr w => ∃ (I146 : Mem), fr = [(2, (.pointer (some ⟨b1, 0, none⟩))), (3, (.pointer (some ⟨b5, 0, none⟩))), (10, (.int .i64 (i148 : Int)))] ∧ I47.Le I146 ∧ St E w I146 ((Gv.one b1 (.cells (cs_qC p0 w_p0).toArray 36 (0, 0))) :: (Gv.one b5 (.cells (cs_qC p1 w_p1).toArray 36 (0, 0))) :: Os)) ⟨I47, rfl, Mem.Le.refl _, S144⟩ ?roundt145 ?lastt145) (Sub.cons z (Sub.cons z (Sub.cons z Sub.nil)))
              case roundt145 =>
                rintro i148 _ _ w150 hi154 ⟨I146, rfl, L147, S151⟩ x152 R1 hext145
                refine W.seq ?_
                refine W.seq ?_
                refine W.region (l := [0, 1, 2, 3, 4]) kr ?_
                refine ya [(0, 111, (.int .i64 (i148 : Int))), (1, 112, (.pointer (some ⟨b1, 3, none⟩)))] kr (fun _ => by kernel_rfl) ?_
                refine yf z kr kr z (v := (.slice w_p0.Grants.a p0.Grants.length w_p0.Grants.c)) (fun w' hw' => cell_one ((rd_f (S151.rd (List.Mem.head _))) w' hw') kr) ?_
                refine ya [(3, 114, (.int .i64 (p0.Grants.length : Int))), (4, 115, (.bool (decide ((i148 : Int) < (p0.Grants.length : Int)))))] kr (fun _ => by kernel_rfl) ?_
                refine yc ?_
                refine yb ?_
                refine W.cond (b := (decide ((i148 : Int) < (p0.Grants.length : Int)))) z z (fun G => ?_) (fun G => ?_)
                rotate_left
                · exact absurd G (by first | (simp; done) | (simp; omega))
                clear G
                refine W.skip ?_
                refine yb ?_
                refine W.seq ?_
                refine yq ?_
                refine W.seq ?_
                have S155 := S151.drew
                refine yaf (l := [0, 1, 2, 3, 4, 5, 6, 7, 8, 9, 10]) kr 10 (KR I146 [Gv.one b1 (.cells (cs_qC p0 w_p0).toArray 36 (0, 0)), Gv.one b5 (.cells (cs_qC p1 w_p1).toArray 36 (0, 0))]) qR (.back kr) kr (yk (S155.rd (List.Mem.head _)) (yk (S155.rd (List.Mem.tail _ (List.Mem.head _))) (yz S155.im))) ?_
                generalize World.drew _ = w156 at *
                refine ya [(0, 118, (.pointer (some ⟨b1, 3, none⟩)))] kr (fun _ => by kernel_rfl) ?_
                refine yf z kr kr z (v := (.slice w_p0.Grants.a p0.Grants.length w_p0.Grants.c)) (fun w' hw' => cell_one ((rd_c (List.Mem.head _) (S155.rd (List.Mem.head _))) w' hw') kr) ?_
                refine ya [(2, 120, (.int .i64 (i148 : Int)))] kr (fun _ => by kernel_rfl) ?_
                obtain ⟨x157, Xx157, R1⟩ := bind_some R1
                obtain ⟨h0_x157, h1_x157, Xx157⟩ := idx_some Xx157
                obtain ⟨ha_x157, cs_x157, hn_x157, hr_x157, Zx157⟩ := ((RSl.mono h_p0.Grants ((L19.trans L48).trans L147))).el _ _ Xx157
                obtain rfl := hr_x157
                refine yh (e := 68) (sz := 5) z kr kr kr z ha_x157 z h0_x157 h1_x157 ?_
                refine yp z kr kr z ((cs_qG x157)) kr (fun w' hw' => Zx157.cells (k := 0) kr z ((rd_i S155.im) w' hw')) ?_
                refine ya [(5, 123, (.pointer (some ⟨b5, 3, none⟩)))] kr (fun _ => by kernel_rfl) ?_
                refine yf z kr kr z (v := (.slice w_p1.Grants.a p1.Grants.length w_p1.Grants.c)) (fun w' hw' => cell_one ((rd_c (List.Mem.tail _ (List.Mem.head _)) (S155.rd (List.Mem.tail _ (List.Mem.head _)))) w' hw') kr) ?_
                refine ya [(7, 125, (.int .i64 (i148 : Int)))] kr (fun _ => by kernel_rfl) ?_
                obtain ⟨x158, Xx158, R1⟩ := bind_some R1
                obtain ⟨h0_x158, h1_x158, Xx158⟩ := idx_some Xx158
                obtain ⟨ha_x158, cs_x158, hn_x158, hr_x158, Zx158⟩ := ((RSl.mono h_p1.Grants ((L19.trans L48).trans L147))).el _ _ Xx158
                obtain rfl := hr_x158
                refine yh (e := 68) (sz := 5) z kr kr kr z ha_x158 z h0_x158 h1_x158 ?_
                refine yp z kr kr z ((cs_qG x158)) kr (fun w' hw' => Zx158.cells (k := 0) kr z ((rd_i S155.im) w' hw')) ?_
                refine WO.tail z ?_
                refine yal z kr z z kr 50 z (b := (sEq x157.To x158.To && (sEq x157.By x158.By && (sEq x157.Table x158.Table && ((x157.Priv == x158.Priv) && ((x157.Option == x158.Option) && true)))))) kr (!(sEq x157.To x158.To && (sEq x157.By x158.By && (sEq x157.Table x158.Table && ((x157.Priv == x158.Priv) && (x157.Option == x158.Option)))))) (.inr ⟨rfl, by simp only [Bool.and_true]⟩) ?_
                refine yc ?_
                refine yb ?_
                refine W.cond (b := (!(sEq x157.To x158.To && (sEq x157.By x158.By && (sEq x157.Table x158.Table && ((x157.Priv == x158.Priv) && (x157.Option == x158.Option))))))) z z (fun G => ?_) (fun G => ?_)
                · replace R1 := cond_t G R1
                  refine W.seq ?_
                  refine W.region (l := [0]) kr ?_
                  refine ya [(0, 4, (.bool false))] kr (fun _ => by kernel_rfl) ?_
                  refine yc ?_
                  refine yb ?_
                  refine ym ?_
                  refine yn ?_
                  refine yg ?_
                  refine y6 ?_
                  have ht := hext145 _ (Option.some.inj R1).symm
                  subst t145
                  refine yn ?_
                  refine yg ?_
                  have S163 := S155.drop
                  have S164 := S163.drop
                  have he := Option.some.inj D
                  subst r
                  exact yl z (.bool false) z ⟨I146, rfl, ((L19.trans L48).trans L147), S164⟩
                · replace R1 := cond_f G R1
                  refine W.skip ?_
                  refine yo ?_
                  refine yb ?_
                  refine W.region (l := [0, 1, 2]) kr ?_
                  refine ya [(0, 116, (.int .i64 (i148 : Int)))] kr (fun _ => by kernel_rfl) ?_
                  refine y9 (j := i148) z kr z (by first | omega | (dsimp only at *; omega) | (simp only [List.length_cons, List.length_nil] at *; omega)) ?_
                  refine ya [(2, 10, (.int .i64 ((i148 + 1 : Nat) : Int)))] kr (fun _ => by kernel_rfl) ?_
                  refine yc ?_
                  refine En.weaken (fr' := [(2, (.pointer (some ⟨b1, 0, none⟩))), (3, (.pointer (some ⟨b5, 0, none⟩))), (10, (.int .i64 ((i148 + 1 : Nat) : Int)))]) (En.round ⟨(), (Option.some.inj R1).symm, I146, rfl, L147, S155⟩) (Sub.cons z (Sub.cons z (Sub.cons z Sub.nil)))
              case lastt145 =>
                rintro _ _ w165 ⟨I146, rfl, L147, S166⟩ he
                cases he
                refine W.seq ?_
                refine W.seq ?_
                refine W.region (l := [0, 1, 2, 3, 4]) kr ?_
                refine ya [(0, 111, (.int .i64 (p0.Grants.length : Int))), (1, 112, (.pointer (some ⟨b1, 3, none⟩)))] kr (fun _ => by kernel_rfl) ?_
                refine yf z kr kr z (v := (.slice w_p0.Grants.a p0.Grants.length w_p0.Grants.c)) (fun w' hw' => cell_one ((rd_f (S166.rd (List.Mem.head _))) w' hw') kr) ?_
                refine ya [(3, 114, (.int .i64 (p0.Grants.length : Int))), (4, 115, (.bool (decide ((p0.Grants.length : Int) < (p0.Grants.length : Int)))))] kr (fun _ => by kernel_rfl) ?_
                refine yc ?_
                refine yb ?_
                refine W.cond (b := (decide ((p0.Grants.length : Int) < (p0.Grants.length : Int)))) z z (fun G => ?_) (fun G => ?_)
                · exact absurd G (by first | (simp; done) | (simp; omega))
                clear G
                refine W.exit ?_
                refine yw ?_
                refine yx ?_
                refine y0 ?_
                refine yb ?_
                refine W.seq ?_
                refine W.region (l := [0]) kr ?_
                refine ya [(0, 4, (.bool true))] kr (fun _ => by kernel_rfl) ?_
                refine yc ?_
                refine yb ?_
                refine ym ?_
                have S167 := S166.drop
                have S168 := S167.drop
                have he := Option.some.inj D
                subst r
                exact yl z (.bool true) z ⟨I146, rfl, ((L19.trans L48).trans L147), S168⟩
end Go.Proofs.Ytpgmbifboopfmaa
